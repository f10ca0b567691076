/- Steps of operations, 5: what is given away; stores; new slices. -/
import Derived.Test.YteleedlkdadogaaGreatFw7
namespace Go.Proofs.YteleedlkdadogaaGreat.Fw
open Go.RowKit

def Sh.leaf : Sh → Nat → Option Sh
  | .cons h _, 0 => some h
  | .cons _ t, j + 1 => t.leaf j
  | _, _ => none

def Sh.chain : Sh → Bool
  | .nil => true
  | .cons _ t => t.chain
  | _ => false

theorem Sh.leaf_lt : ∀ {e : Sh} {j : Nat}, j < e.sz → e.chain = true → ∃ s, e.leaf j = some s := by
  intro e
  induction e with
  | cons h t ih1 ih2 =>
    intro j hj hc
    cases j with
    | zero => exact ⟨h, rfl⟩
    | succ j => exact ih2 (by simp only [Sh.sz] at hj; omega) hc
  | nil => intro j hj; simp [Sh.sz] at hj
  | _ => intro j _ hc; cases hc

theorem Own.leaves {w : World} {L : Nat → List Nat} : ∀ {e : Sh} {fs : List V} {ds : List Value} {p : List Nat}, e.isSt = true → Own w L e (.t fs) ds p →
    e.chain = true ∧ fs.length = e.sz ∧ ∀ j s, e.leaf j = some s → ∃ v d, fs[j]? = some v ∧ ds[j]? = some d ∧ Own w L s v [d] ((e.sz - 1 - j) :: p) := by
  intro e
  induction e with
  | nil => intro fs ds p _ ⟨h1, h2⟩; cases h1; exact ⟨rfl, rfl, fun j s h => by cases j <;> cases h⟩
  | cons h t ih1 ih2 =>
    intro fs ds p _ ⟨y, ys, c, cs', h1, h2, h3, h4⟩
    cases h1
    subst h2
    have ht : t.isSt = true := by
      cases t with
      | nil => rfl
      | cons a b => rfl
      | sl e et => obtain ⟨_, _, _, _, h7, _⟩ := h4; cases h7
      | _ => obtain ⟨c', h5, n, h7, _⟩ := h4; cases h7
    obtain ⟨k1, k2, k3⟩ := ih2 ht h4
    refine ⟨k1, by simp [Sh.sz, k2], fun j s hj => ?_⟩
    cases j with
    | zero => simp only [Sh.leaf, Option.some.injEq] at hj; subst hj; exact ⟨y, c, rfl, rfl, by simpa [Sh.sz] using h3⟩
    | succ j =>
      simp only [Sh.leaf] at hj
      obtain ⟨v, d, e1, e2, e3⟩ := k3 j s hj
      refine ⟨v, d, by simpa using e1, by simpa using e2, ?_⟩
      rw [show (Sh.cons h t).sz - 1 - (j + 1) = t.sz - 1 - j by simp only [Sh.sz]; omega]
      exact e3
  | _ => intro fs ds p h; cases h

theorem Own.ofLeaves {w : World} {L : Nat → List Nat} : ∀ {e : Sh} {fs : List V} {ds : List Value} {p : List Nat}, e.chain = true → fs.length = e.sz → ds.length = e.sz →
    (∀ j s v d, e.leaf j = some s → fs[j]? = some v → ds[j]? = some d → Own w L s v [d] ((e.sz - 1 - j) :: p)) → Own w L e (.t fs) ds p := by
  intro e
  induction e with
  | nil => intro fs ds p _ h1 h2 _; exact ⟨by rw [List.eq_nil_of_length_eq_zero h1], List.eq_nil_of_length_eq_zero h2⟩
  | cons h t ih1 ih2 =>
    intro fs ds p hc h1 h2 hl
    match fs, ds, h1, h2 with
    | v :: fs, d :: ds, h1, h2 =>
      refine ⟨v, fs, d, ds, rfl, rfl, ?_, ih2 hc (by simpa [Sh.sz] using h1) (by simpa [Sh.sz] using h2) (fun j s v' d' e1 e2 e3 => ?_)⟩
      · have := hl 0 h v d rfl rfl rfl
        simpa [Sh.sz] using this
      · have := hl (j + 1) s v' d' e1 (by simpa using e2) (by simpa using e3)
        rw [show (Sh.cons h t).sz - 1 - (j + 1) = t.sz - 1 - j by simp only [Sh.sz]; omega] at this
        exact this
  | _ => intro fs ds p h; cases h

/-- labels moved: what belonged to chunk c goes to its new place. -/
def moveL (mv : List (Nat × List Nat)) (L : Nat → List Nat) (b : Nat) : List Nat :=
  match (L b).getLast? with
  | some c => (match look mv c with
    | some p => (L b).dropLast ++ p
    | none => L b)
  | none => L b

theorem moveL_hit {mv : List (Nat × List Nat)} {L : Nat → List Nat} {b c : Nat} {q p : List Nat} (h : L b = q ++ [c]) (hl : look mv c = some p) : moveL mv L b = q ++ p := by
  unfold moveL
  rw [h]
  simp [hl]

theorem moveL_miss {mv : List (Nat × List Nat)} {L : Nat → List Nat} {b : Nat} (h : ∀ c, (L b).getLast? = some c → look mv c = none) : moveL mv L b = L b := by
  unfold moveL
  cases hc : (L b).getLast? with
  | none => rfl
  | some c => simp only; rw [h c hc]

def nodupB : List Nat → Bool
  | [] => true
  | a :: l => !(l.any (Nat.beq a)) && nodupB l

theorem nat_beq_false {a b : Nat} (h : a ≠ b) : Nat.beq a b = false := by
  cases e : Nat.beq a b with
  | false => rfl
  | true => exact absurd (Nat.eq_of_beq_eq_true e) h

theorem look_of_mem {α : Type} : ∀ {l : List (Nat × α)} {k : Nat} {v : α}, nodupB (l.map (·.1)) = true → (k, v) ∈ l → look l k = some v
  | (k', v') :: l, k, v, hn, hm => by
    simp only [List.map_cons, nodupB, Bool.and_eq_true, Bool.not_eq_true', List.any_eq_false] at hn
    cases hm with
    | head => simp [look]
    | tail _ hm =>
      have hne : k' ≠ k := by
        intro e
        subst e
        have := hn.1 k' (List.mem_map.2 ⟨_, hm, rfl⟩)
        simp at this
      simp only [look, nat_beq_false hne, Bool.false_eq_true, if_false]
      exact look_of_mem hn.2 hm

theorem look_none_of {α : Type} : ∀ {l : List (Nat × α)} {k : Nat}, (∀ x ∈ l, x.1 ≠ k) → look l k = none
  | [], _, _ => rfl
  | (k', v') :: l, k, h => by
    have := h (k', v') List.mem_cons_self
    simp only [look, nat_beq_false this, Bool.false_eq_true, if_false]
    exact look_none_of fun x hx => h x (List.mem_cons_of_mem _ hx)

theorem look_mem {α : Type} : ∀ {l : List (Nat × α)} {k : Nat} {v : α}, look l k = some v → (k, v) ∈ l
  | (k', v') :: l, k, v, h => by
    simp only [look] at h
    split at h
    · rename_i e; cases h; rw [Nat.eq_of_beq_eq_true e]; exact List.mem_cons_self
    · exact List.mem_cons_of_mem _ (look_mem h)

/-- A cell that is given away: its value, and the chunk that goes with it. -/
def closeLeaf (ch : Nat → Option Ch) : Sh → CV → Option (E × List Nat)
  | .int k, .sc (.int k') e => if kindEq k k' then some (e, []) else none
  | .bool, .sc .bool e => some (e, [])
  | .str, .sc .str e => some (e, [])
  | .sl _ _, .nil => some (.kl, [])
  | .sl e et, .own c => match ch c with
    | some (.arr _ e' et' y) => if e.beq e' && Nat.beq et et' then some (y, [c]) else none
    | _ => none
  | _, _ => none

/-- Cells from the j-th of a struct on. -/
def closeAt (ch : Nat → Option Ch) (e : Sh) : Nat → List CV → Option (List E × List (Nat × List Nat))
  | _, [] => some ([], [])
  | j, c :: cs => match e.leaf j with
    | none => none
    | some s => match closeLeaf ch s c, closeAt ch e (j + 1) cs with
      | some (y, m), some (ys, m') => some (y :: ys, m.map (fun d => (d, [e.sz - 1 - j])) ++ m')
      | _, _ => none

def mkT : List E → E
  | [] => .tn
  | e :: es => .tc e (mkT es)

theorem mkT_den {ρ : List V} : ∀ {es : List E} {vs : List V}, denL ρ es = some vs → (mkT es).den ρ = some (.t vs)
  | [], vs, h => by simp only [denL, Option.some.injEq] at h; subst h; rfl
  | e :: es, vs, h => by
    simp only [denL] at h
    cases he : e.den ρ with
    | none => simp [he] at h
    | some v => cases hs : denL ρ es with
      | none => simp [he, hs] at h
      | some us => rw [he, hs] at h; cases h; simp [mkT, E.den, he, mkT_den hs]

/-- A whole element. -/
def closeEl (ch : Nat → Option Ch) (e : Sh) (cs : List CV) : Option (E × List (Nat × List Nat)) :=
  if e.isSt then (if e.chain && Nat.beq cs.length e.sz then (match closeAt ch e 0 cs with
    | some (ys, m) => some (mkT ys, m)
    | none => none) else none)
  else match cs with
    | [c] => (match closeLeaf ch e c with
      | some (y, m) => some (y, m.map fun d => (d, []))
      | none => none)
    | _ => none

section
variable {x : Fx} {Γ : G} {ρ : List V} {a : Act} {w : World} {g : Gh} {sl : Nat → SV} {ch : Nat → Option Ch} {o : Oper} {res : Res}

theorem Vw.chok (hv : Vw x Γ ρ a w g sl ch) {c : Nat} {h : Ch} (hc : ch c = some h) : h.ok x w g ρ c := by
  have := hv.rel.chunks c
  rw [hv.ch _ _ hc] at this
  exact this

theorem closeLeaf_ok (hv : Vw x Γ ρ a w g sl ch) {s : Sh} {c : CV} {val : Value} (hc : c.ok x w g ρ val) {y : E} {m : List Nat} (h : closeLeaf ch s c = some (y, m)) :
    ∃ v, y.den ρ = some v ∧ ∀ (w' : World) (L' : Nat → List Nat) (p : List Nat), (∀ d ∈ m, ∀ b q, g.L b = q ++ [d] → w'.heap[b]? = w.heap[b]? ∧ L' b = q ++ p) → Own w' L' s v [val] p := by
  unfold closeLeaf at h
  split at h
  · rename_i k k' e
    split at h
    · rename_i hk
      have := kindEq_eq hk
      subst this
      cases h
      obtain ⟨v, h1, h2⟩ := hc
      exact ⟨v, h1, fun _ _ _ _ => ⟨val, rfl, h2⟩⟩
    · cases h
  · cases h
    obtain ⟨v, h1, h2⟩ := hc
    exact ⟨v, h1, fun _ _ _ _ => ⟨val, rfl, h2⟩⟩
  · cases h
    obtain ⟨v, h1, h2⟩ := hc
    exact ⟨v, h1, fun _ _ _ _ => ⟨val, rfl, h2⟩⟩
  · cases h
    cases hc
    exact ⟨.l [], rfl, fun _ _ _ _ => ⟨[], none, 0, 0, rfl, rfl, rfl, Nat.le_refl _, by simp [maxLen], .inl ⟨rfl, rfl, rfl⟩⟩⟩
  · rename_i e et c
    split at h
    · rename_i ver e' et' y' hch
      split at h
      · rename_i hb
        simp only [Bool.and_eq_true] at hb
        have := Sh.beq_eq hb.1
        subst this
        have := Nat.eq_of_beq_eq_true hb.2
        subst this
        cases h
        obtain ⟨v, val', hio, hy, _, how⟩ := hv.chok hch
        obtain ⟨_, hio'⟩ := hc
        rw [hio] at hio'
        cases hio'
        exact ⟨v, hy, fun w' L' p hm => how.frame (fun b q hb => hm c (by simp) b q hb)⟩
      · cases h
    · cases h
  · cases h

theorem closeAt_ok (hv : Vw x Γ ρ a w g sl ch) {e : Sh} : ∀ {cs : List CV} {j : Nat} {vals : List Value}, cellsOk (CV.ok x w g ρ) cs vals → ∀ {ys : List E} {m : List (Nat × List Nat)}, closeAt ch e j cs = some (ys, m) →
    ys.length = cs.length ∧ ∃ vs, denL ρ ys = some vs ∧ ∀ (w' : World) (L' : Nat → List Nat) (p : List Nat), (∀ d rp, (d, rp) ∈ m → ∀ b q, g.L b = q ++ [d] → w'.heap[b]? = w.heap[b]? ∧ L' b = q ++ (rp ++ p)) →
      ∀ i s v d, e.leaf (j + i) = some s → vs[i]? = some v → vals[i]? = some d → Own w' L' s v [d] ((e.sz - 1 - (j + i)) :: p)
  | [], j, vals, hc, ys, m, h => by
    simp only [closeAt, Option.some.injEq, Prod.mk.injEq] at h
    obtain ⟨rfl, rfl⟩ := h
    exact ⟨rfl, [], rfl, fun _ _ _ _ i s v d _ hi => by simp at hi⟩
  | c :: cs, j, val :: vals, hc, ys, m, h => by
    simp only [closeAt] at h
    split at h
    · cases h
    · rename_i s hs
      split at h
      · rename_i y m1 ys' m2 h1 h2
        cases h
        obtain ⟨v, hy, how⟩ := closeLeaf_ok hv hc.1 h1
        obtain ⟨hlen, vs, hvs, hrest⟩ := closeAt_ok hv hc.2 h2
        refine ⟨by simp [hlen], v :: vs, by simp [denL, hy, hvs], fun w' L' p hm i s' v' d' hl hi hd => ?_⟩
        cases i with
        | zero =>
          simp only [Nat.add_zero] at hl
          rw [hs] at hl; cases hl
          simp at hi hd
          subst hi; subst hd
          refine how w' L' _ (fun d hd b q hb => ?_)
          have := hm d [e.sz - 1 - j] (List.mem_append_left _ (List.mem_map.2 ⟨d, hd, rfl⟩)) b q hb
          simpa using this
        | succ i =>
          have := hrest w' L' p (fun d rp hdm b q hb => hm d rp (List.mem_append_right _ hdm) b q hb) i s' v' d' (by rw [show j + 1 + i = j + (i + 1) by omega]; exact hl) (by simpa using hi) (by simpa using hd)
          rw [show j + 1 + i = j + (i + 1) by omega] at this
          exact this
      · cases h
  | _ :: _, _, [], hc, _, _, _ => hc.elim

theorem closeEl_ok (hv : Vw x Γ ρ a w g sl ch) {e : Sh} {cs : List CV} {vals : List Value} (hc : cellsOk (CV.ok x w g ρ) cs vals) {y : E} {m : List (Nat × List Nat)} (h : closeEl ch e cs = some (y, m)) :
    ∃ v, y.den ρ = some v ∧ ∀ (w' : World) (L' : Nat → List Nat) (p : List Nat), (∀ d rp, (d, rp) ∈ m → ∀ b q, g.L b = q ++ [d] → w'.heap[b]? = w.heap[b]? ∧ L' b = q ++ (rp ++ p)) → Own w' L' e v vals p := by
  unfold closeEl at h
  split at h
  · split at h
    · rename_i hb
      simp only [Bool.and_eq_true] at hb
      have hlen := Nat.eq_of_beq_eq_true hb.2
      split at h
      · rename_i ys m' hcl
        cases h
        obtain ⟨hl, vs, hvs, how⟩ := closeAt_ok hv hc hcl
        refine ⟨.t vs, mkT_den hvs, fun w' L' p hm => Own.ofLeaves hb.1 (by rw [denL_length hvs, hl, hlen]) (by rw [← hc.length, hlen]) (fun j s v d e1 e2 e3 => ?_)⟩
        have := how w' L' p hm j s v d (by simpa using e1) e2 e3
        simpa using this
      · cases h
    · cases h
  · split at h
    · rename_i c
      split at h
      · rename_i y' m' hcl
        cases h
        match vals, hc with
        | [val], hc =>
          obtain ⟨v, hy, how⟩ := closeLeaf_ok hv hc.1 hcl
          refine ⟨v, hy, fun w' L' p hm => how w' L' p (fun d hd b q hb => ?_)⟩
          have := hm d [] (List.mem_map.2 ⟨d, hd, rfl⟩) b q hb
          simpa using this
      · cases h
    · cases h

/-- The chunks that are given away, each told dead; and none twice, and none of those that stay. -/
def deads (m : List (Nat × List Nat)) : List (Nat × Ch) := m.map fun x => (x.1, Ch.dead)

def movesOk (c : Nat) (m : List (Nat × List Nat)) : Bool := nodupB (m.map (·.1)) && !(m.any fun x => Nat.beq x.1 c) && !(m.any fun x => Nat.beq x.1 0)

theorem movesOk_spec {c : Nat} {m : List (Nat × List Nat)} (h : movesOk c m = true) : nodupB (m.map (·.1)) = true ∧ (∀ x ∈ m, x.1 ≠ c) ∧ (∀ x ∈ m, x.1 ≠ 0) := by
  simp only [movesOk, Bool.and_eq_true, Bool.not_eq_true', List.any_eq_false] at h
  refine ⟨h.1.1, fun x hx e => ?_, fun x hx e => ?_⟩
  · have := h.1.2 x hx; subst e; simp at this
  · have := h.2 x hx; rw [e] at this; simp at this

theorem keys_cons (c : Nat) (h : Ch) (m : List (Nat × List Nat)) (d : Nat) : keys ((c, h) :: deads m) d ↔ d = c ∨ ∃ x ∈ m, x.1 = d := by
  unfold keys
  simp only [look]
  by_cases e : c = d
  · subst e; simp
  · rw [nat_beq_false e]
    simp only [Bool.false_eq_true, if_false]
    constructor
    · intro hk
      right
      obtain ⟨v, hl⟩ := Option.isSome_iff_exists.1 hk
      have := look_mem hl
      simp only [deads, List.mem_map] at this
      obtain ⟨y, hy, he⟩ := this
      cases he
      exact ⟨y, hy, rfl⟩
    · rintro (h | ⟨y, hy, he⟩)
      · exact absurd h.symm e
      · cases hl : look (deads m) d with
        | some v => rfl
        | none =>
          exfalso
          have hno : ∀ (l : List (Nat × Ch)) (k : Nat), look l k = none → ∀ z ∈ l, z.1 ≠ k := by
            intro l
            induction l with
            | nil => intro k _ z hz; simp at hz
            | cons z0 l ih =>
              intro k hk z hz
              obtain ⟨k0, v0⟩ := z0
              simp only [look] at hk
              split at hk
              · cases hk
              · rename_i hne
                cases hz with
                | head => intro e; exact hne (by simp at e; subst e; simp)
                | tail _ hz => exact ih k hk z hz
          exact hno _ d hl (y.1, Ch.dead) (List.mem_map.2 ⟨y, hy, rfl⟩) he

/-- The ghosts behind a store: labels moved, versions of what has changed raised. -/
def Gh.moved (g : Gh) (mv : List (Nat × List Nat)) (T : Nat → Bool) : Gh :=
  { L := moveL mv g.L, io := g.io, gv := fun c => if T c then g.gv c + 1 else g.gv c }

theorem bool_keys (u : List (Nat × Ch)) (c : Nat) : keys u c ↔ (look u c).isSome = true := Iff.rfl

/-- A store into chunk c's own block; other chunks may go into it. -/
theorem Fr.store {c : Nat} {h : Ch} {m : List (Nat × List Nat)} (hm : movesOk c m = true) (h0 : c ≠ 0) (hi : ∀ b, w.heap.size ≤ b → g.L b = []) {b : Nat} (hb : (g.L b).getLast? = some c) (cs : Array Value) (p : List Nat) :
    Fr (keys ((c, h) :: deads m)) w g (w.setRow b cs) (g.moved (m.map fun x => (x.1, x.2 ++ p)) (fun d => (look ((c, h) :: deads m) d).isSome)) := by
  obtain ⟨h1, h2, h3⟩ := movesOk_spec hm
  refine ⟨fun hk => ?_, fun b' hb' hT => ?_, fun _ _ hc => hc, fun _ _ => rfl, fun d hd => ?_, fun d hd => ?_, by simp, fun b' hb' => ?_, ⟨rfl, rfl, rfl⟩⟩
  · rcases (keys_cons c h m 0).1 hk with e | ⟨y, hy, he⟩
    · exact h0 e.symm
    · exact h3 y hy he
  · have hne : b' ≠ b := by
      intro e; subst e
      exact hT c hb ((keys_cons c h m c).2 (.inl rfl))
    refine ⟨setRow_other w b b' cs hne, ?_⟩
    refine moveL_miss (fun d hd => look_none_of (fun y hy e => ?_))
    obtain ⟨z, hz, rfl⟩ := List.mem_map.1 hy
    exact hT d hd ((keys_cons c h m d).2 (.inr ⟨z, hz, e⟩))
  · have hd' : ¬ (look ((c, h) :: deads m) d).isSome = true := hd
    simp only [Gh.moved]
    rw [if_neg hd']
  · have hd' : (look ((c, h) :: deads m) d).isSome = true := hd
    simp only [Gh.moved]
    rw [if_pos hd']
    omega
  · simp only [Gh.moved, size_setRow] at hb' ⊢
    have := hi b' hb'
    rw [moveL_miss (by rw [this]; simp), this]

theorem moved_hit {m : List (Nat × List Nat)} (h1 : nodupB (m.map (·.1)) = true) (p : List Nat) {d : Nat} {rp : List Nat} (hd : (d, rp) ∈ m) : look (m.map fun x => (x.1, x.2 ++ p)) d = some (rp ++ p) := by
  refine look_of_mem ?_ (List.mem_map.2 ⟨(d, rp), hd, rfl⟩)
  rw [List.map_map]
  exact h1

def chLt (n : Nat) (m : List (Nat × List Nat)) : Bool := m.all fun x => Nat.blt x.1 n

def stepStore (n : Nat) (T : Nat → Option TI) (sl : Nat → SV) (ch : Nat → Option Ch) (t : TypeId) (y z : Operand) : Option Res :=
  match T t, cellsOf (opnd sl z) with
  | some ti, some cs =>
    if noJunk cs && Nat.beq cs.length ti.size then
      (match opnd sl y with
      | .cv (.ptr c off) => (match ch c with
        | some (.box cells ty) => if Nat.ble (off + cs.length) cells.length && !(Nat.beq c 0) then some ⟨[], [(c, .box (cells.take off ++ cs ++ cells.drop (off + cs.length)) ty)], .cv .junk⟩ else none
        | _ => none)
      | .cv (.ep c esz i off) => (match ch c with
        | some (.arr ver e et q) =>
          if Nat.beq esz e.sz && !(Nat.beq c 0) then
            (if Nat.beq off 0 && Nat.beq cs.length e.sz then (match closeEl ch e cs with
              | some (ev, m) => if movesOk c m then some ⟨[.pm .lset [q, i, ev]], (c, .arr (ver + 1) e et (.v n)) :: deads m, .cv .junk⟩ else none
              | none => none)
            else if e.isSt && e.chain && Nat.ble (off + cs.length) e.sz then (match closeAt ch e off cs with
              | some (ys, m) => if movesOk c m then some ⟨[.pm (.lsetr off) [q, i, mkT ys]], (c, .arr (ver + 1) e et (.v n)) :: deads m, .cv .junk⟩ else none
              | none => none)
            else none)
          else none
        | _ => none)
      | _ => none)
    else none
  | _, _ => none

theorem run_storeVar_at {P : Program} {t : TypeId} {ti : TI} (hti : ti.ok P t) {b k : Nat} {cur : Array Value} {ty : TypeId} (hh : w.heap[b]? = some (.cells cur ty (0, 0))) {val : Value} (hl : val.cells.size = ti.size)
    (hk : k + val.cells.size ≤ cur.size) (h1 : ∀ v ∈ val.cells.toList, v.oneCell' = true) :
    (storeVar t ⟨b, k, none⟩ val).run P w = .ok () (w.setRow b (cur.toList.take k ++ val.cells.toList ++ cur.toList.drop (k + val.cells.size)).toArray) := by
  have hst := run_storeCells_at P b k ty val.cells.toList 0 cur w hh (by simpa using hk) h1
  simp only [Nat.add_zero, Array.length_toList] at hst
  unfold storeVar
  simp only [Sem.run_bind, hti.run_sizeOf, Result.andThen_ok, hl, ne_eq, not_true_eq_false, if_false, Sem.run_pure]
  rw [hl] at hst
  exact hst

theorem exec_store {t : TypeId} {y z : Operand} (ho : o.op = .store t y z) {b k : Nat} (hy : a.eval y = .pointer (some ⟨b, k, none⟩)) {w' : World} (h : (storeVar t ⟨b, k, none⟩ (a.eval z)).run x.P w = .ok () w') :
    (execOp a.eval o).run x.P w = .ok .skip w' := by
  simp only [execOp, ho, Instr.storeAt, Instr.sureAddr, hy]
  simp [h]

theorem splice_get {α : Type} {l m : List α} {k j : Nat} (hk : k + m.length ≤ l.length) : (l.take k ++ m ++ l.drop (k + m.length))[j]? = if j < k then l[j]? else if j < k + m.length then m[j - k]? else l[j]? := by
  by_cases h1 : j < k
  · rw [if_pos h1, List.append_assoc, List.getElem?_append_left (by simp; omega), List.getElem?_take, if_pos h1]
  · rw [if_neg h1]
    by_cases h2 : j < k + m.length
    · rw [if_pos h2, List.append_assoc, List.getElem?_append_right (by simp; omega), List.getElem?_append_left (by simp; omega)]
      simp [Nat.min_eq_left (show k ≤ l.length by omega)]
    · rw [if_neg h2, List.getElem?_append_right (by simp; omega), List.getElem?_drop]
      congr 1
      simp; omega

theorem splice_length {α : Type} {l m : List α} {k : Nat} (hk : k + m.length ≤ l.length) : (l.take k ++ m ++ l.drop (k + m.length)).length = l.length := by
  simp; omega

/-- A window of a row in which a part is written: the windows beside it are as they were. -/
theorem window_miss {l m : List Value} {k lo n : Nat} (hk : k + m.length ≤ l.length) (h : lo + n ≤ k ∨ k + m.length ≤ lo) : ((l.take k ++ m ++ l.drop (k + m.length)).drop lo).take n = (l.drop lo).take n := by
  apply List.ext_getElem?
  intro j
  rw [List.getElem?_take, List.getElem?_take]
  split
  · rw [List.getElem?_drop, List.getElem?_drop, splice_get hk]
    by_cases h1 : lo + j < k
    · rw [if_pos h1]
    · rw [if_neg h1, if_neg (by omega)]
  · rfl

theorem window_hit {l m : List Value} {k lo n : Nat} (hk : k + m.length ≤ l.length) (h1 : lo ≤ k) (h2 : k + m.length ≤ lo + n) (h3 : lo + n ≤ l.length) :
    ((l.take k ++ m ++ l.drop (k + m.length)).drop lo).take n = ((l.drop lo).take n).take (k - lo) ++ m ++ ((l.drop lo).take n).drop (k - lo + m.length) := by
  apply List.ext_getElem?
  intro j
  have hlen : ((l.drop lo).take n).length = n := by simp; omega
  rw [splice_get (by rw [hlen]; omega)]
  by_cases hj : j < n
  · have e0 : (((l.take k ++ m ++ l.drop (k + m.length)).drop lo).take n)[j]? = (l.take k ++ m ++ l.drop (k + m.length))[lo + j]? := by
      rw [List.getElem?_take, if_pos hj, List.getElem?_drop]
    have e1 : ((l.drop lo).take n)[j]? = l[lo + j]? := by rw [List.getElem?_take, if_pos hj, List.getElem?_drop]
    rw [e0, e1, splice_get hk]
    by_cases c1 : lo + j < k
    · rw [if_pos c1, if_pos (show j < k - lo by omega)]
    · rw [if_neg c1, if_neg (show ¬ j < k - lo by omega)]
      by_cases c2 : lo + j < k + m.length
      · rw [if_pos c2, if_pos (show j < k - lo + m.length by omega)]; congr 1; omega
      · rw [if_neg c2, if_neg (show ¬ j < k - lo + m.length by omega)]
  · have e0 : (((l.take k ++ m ++ l.drop (k + m.length)).drop lo).take n)[j]? = none := by rw [List.getElem?_take, if_neg hj]
    have e1 : ((l.drop lo).take n)[j]? = none := by rw [List.getElem?_take, if_neg hj]
    rw [e0, e1, if_neg (by omega), if_neg (by omega)]

/-- An element of an owned slice is written: its new value and its new cells are owned; the others are as they were. -/
theorem Own.setElem {w : World} {L : Nat → List Nat} {e : Sh} {et : TypeId} {xs : List V} {ad : Option Addr} {len cap c : Nat} (how : Own w L (.sl e et) (.l xs) [.slice ad len cap] [c])
    {b k cap0 : Nat} {len0 : Nat} (hhead : ad = some ⟨b, k, none⟩) (hcap0 : cap = cap0) (hlen0 : len = len0)
    {i off : Nat} (hi : i < xs.length) {news : List Value} (hoff : off + news.length ≤ e.sz) {v : V} {w' : World} {L' : Nat → List Nat}
    (hstore : ∀ cur ty, w.heap[b]? = some (.cells cur ty (0, 0)) → k + cap * e.sz ≤ cur.size → w' = w.setRow b (cur.toList.take (k + i * e.sz + off) ++ news ++ cur.toList.drop (k + i * e.sz + off + news.length)).toArray)
    (hL : ∀ b' q, L b' = q ++ [c] → L' b' = q ++ [c])
    (hel : ∀ ds x, xs[i]? = some x → Own w L e x ds (i :: [c]) → Own w' L' e v (ds.take off ++ news ++ ds.drop (off + news.length)) (i :: [c])) :
    Own w' L' (.sl e et) (.l (xs.set i v)) [.slice ad len cap] [c] := by
  subst hcap0; subst hlen0; subst hhead
  obtain ⟨xs', ad', len', cap', hx, hcs, hl, h3, h4, hor⟩ := how
  cases hx
  simp only [List.cons.injEq, Value.slice.injEq, and_true] at hcs
  obtain ⟨rfl, rfl, rfl⟩ := hcs
  rcases hor with ⟨h5, _⟩ | ⟨gb, ko, cur, ha, hLg, hh, hsz, hall⟩
  · cases h5
  · cases ha
    have hw := hstore cur et hh hsz
    have hrow : k + i * e.sz + e.sz ≤ k + cap * e.sz := by
      have : (i + 1) * e.sz ≤ cap * e.sz := Nat.mul_le_mul_right _ (by omega)
      rw [Nat.add_mul] at this
      omega
    have hkn : k + i * e.sz + off + news.length ≤ cur.toList.length := by simp; omega
    refine ⟨_, _, _, _, rfl, rfl, by simp [hl], h3, h4, .inr ⟨b, k, _, rfl, hL b [] (by simpa using hLg), by rw [hw]; exact setRow_heap w b cur _ et (0, 0) hh, ?_, fun j u hj => ?_⟩⟩
    · rw [List.size_toArray, splice_length hkn]; simpa using hsz
    · by_cases hji : j = i
      · subst hji
        rw [List.getElem?_set_self hi] at hj
        cases hj
        obtain ⟨u0, hu0⟩ : ∃ u0, xs[j]? = some u0 := ⟨xs[j], List.getElem?_eq_getElem hi⟩
        have := hel _ u0 hu0 (hall j u0 hu0)
        rw [List.toList_toArray, window_hit hkn (by omega) (by omega) (by simp; omega)]
        rw [show k + j * e.sz + off - (k + j * e.sz) = off by omega]
        exact this
      · rw [List.getElem?_set_ne (fun h => hji h.symm)] at hj
        have hu := hall j u hj
        have hjl : j < xs.length := (List.getElem?_eq_some_iff.1 hj).1
        rw [List.toList_toArray, window_miss hkn (by
          rcases Nat.lt_or_ge j i with hlt | hge
          · left
            have : (j + 1) * e.sz ≤ i * e.sz := Nat.mul_le_mul_right _ (by omega)
            rw [Nat.add_mul] at this
            omega
          · right
            have : (i + 1) * e.sz ≤ j * e.sz := Nat.mul_le_mul_right _ (by omega)
            rw [Nat.add_mul] at this
            omega)]
        refine hu.frame (fun b' q hb' => ⟨?_, ?_⟩)
        · rw [hw]
          refine setRow_other w b b' _ (fun e1 => ?_)
          subst e1
          rw [hLg] at hb'
          have := congrArg List.length hb'
          simp at this
        · have := hL b' (q ++ [j]) (by rw [hb']; simp)
          rw [this]; simp

end
end Go.Proofs.YteleedlkdadogaaGreat.Fw
