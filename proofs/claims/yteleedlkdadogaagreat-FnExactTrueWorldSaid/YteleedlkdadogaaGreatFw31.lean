/- Calls of functions that change what they are handed, hand out pointers, or what can be read alone, 1: what is handed over. -/
import Derived.Test.YteleedlkdadogaaGreatFw30
namespace Go.Proofs.YteleedlkdadogaaGreat.Fw
open Go.RowKit

def Src.chunks : Src → List Nat
  | .st => []
  | .ch c _ => [c]

def CV.chunks : CV → List Nat
  | .own c => [c]
  | .ptr c _ => [c]
  | .ep c _ _ _ => [c]
  | .rd s _ _ _ => s.chunks
  | .rp s _ _ _ => s.chunks
  | .el c _ _ _ _ _ _ _ => [c]
  | _ => []

def SV.chunks : SV → List Nat
  | .cv c => c.chunks
  | .agg cs => cs.flatMap CV.chunks
  | .tup xs => xs.flatMap fun x => x.2.flatMap CV.chunks


def endLeaves (ch : Nat → Option Ch) (k : Nat) (r : Sh) : Nat → List CV → Option (List E × List (Nat × (Nat × Nat)))
  | _, [] => some ([], [])
  | j, c :: cs => match r.leaf j with
    | none => none
    | some s => match closeLeaf ch s c, endLeaves ch k r (j + 1) cs with
      | some (y, m), some (ys, m') => some (y :: ys, m.map (fun d => (d, (k, j))) ++ m')
      | _, _ => none

def endOne (ch : Nat → Option Ch) (k : Nat) (r : Sh) (s : SV) : Option (E × List (Nat × (Nat × Nat))) :=
  if r.isSt then (match s with
    | .agg cs => if r.chain && Nat.beq cs.length r.sz then (match endLeaves ch k r 0 cs with
      | some (ys, m) => some (mkT ys, m)
      | none => none) else none
    | _ => none)
  else match s with
    | .cv c => (match closeLeaf ch r c with
      | some (y, m) => some (y, m.map fun d => (d, (k, 0)))
      | none => none)
    | _ => none


def endL (lab : Nat → Nat → List Nat) (mv : List (Nat × (Nat × Nat))) (L : Nat → List Nat) (b : Nat) : List Nat :=
  match (L b).getLast? with
  | some c => (match look mv c with
    | some (k, j) => (L b).dropLast ++ lab k j
    | none => [])
  | none => []

theorem endL_hit {lab : Nat → Nat → List Nat} {mv : List (Nat × (Nat × Nat))} {L : Nat → List Nat} {b c k j : Nat} {q : List Nat} (hb : L b = q ++ [c]) (h : look mv c = some (k, j)) : endL lab mv L b = q ++ lab k j := by
  simp [endL, hb, h]


section
variable {x : Fx} {Γ : G} {ρ : List V} {a : Act} {w : World} {g : Gh} {sl : Nat → SV} {ch : Nat → Option Ch} {lab : Nat → Nat → List Nat} {L' : Nat → List Nat}

theorem endLeaves_ok (hv : Vw x Γ ρ a w g sl ch) {k : Nat} {r : Sh} : ∀ {cs : List CV} {j : Nat} {vals : List Value}, cellsOk (CV.ok x w g ρ) cs vals → ∀ {ys : List E} {m : List (Nat × (Nat × Nat))}, endLeaves ch k r j cs = some (ys, m) →
    (∀ d k j, (d, (k, j)) ∈ m → ∀ b q, g.L b = q ++ [d] → L' b = q ++ lab k j) →
    ys.length = cs.length ∧ ∃ vs, denL ρ ys = some vs ∧ ∀ i s v d, r.leaf (j + i) = some s → vs[i]? = some v → vals[i]? = some d → Own w L' s v [d] (lab k (j + i))
  | [], j, vals, _, ys, m, h, _ => by
    simp only [endLeaves, Option.some.injEq, Prod.mk.injEq] at h
    obtain ⟨rfl, rfl⟩ := h
    exact ⟨rfl, [], rfl, fun i s v d _ hi => by simp at hi⟩
  | c :: cs, j, [], hc, _, _, _, _ => hc.elim
  | c :: cs, j, val :: vals, hc, ys, m, h, hL => by
    simp only [endLeaves] at h
    split at h
    · cases h
    · rename_i s hs
      split at h
      · rename_i y m1 ys' m2 h1 h2
        cases h
        obtain ⟨v, hy, how⟩ := closeLeaf_ok hv hc.1 h1
        obtain ⟨hl, vs, hvs, hrest⟩ := endLeaves_ok hv hc.2 h2 (fun d k j hm => hL d k j (List.mem_append_right _ hm))
        refine ⟨by simp [hl], v :: vs, by simp [denL, hy, hvs], fun i s' v' d' e1 e2 e3 => ?_⟩
        cases i with
        | zero =>
          simp only [List.getElem?_cons_zero, Option.some.injEq] at e2 e3
          subst e2; subst e3
          rw [Nat.add_zero, hs] at e1
          cases e1
          exact how w L' (lab k j) (fun d hd b q hb => ⟨rfl, hL d k j (List.mem_append_left _ (List.mem_map.2 ⟨d, hd, rfl⟩)) b q hb⟩)
        | succ i =>
          rw [show j + (i + 1) = j + 1 + i by omega] at e1 ⊢
          exact hrest i s' v' d' e1 (by simpa using e2) (by simpa using e3)
      · cases h

theorem endOne_ok (hv : Vw x Γ ρ a w g sl ch) {k : Nat} {r : Sh} {s : SV} {val : Value} (hs : s.ok (CV.ok x w g ρ) val) {y : E} {m : List (Nat × (Nat × Nat))} (h : endOne ch k r s = some (y, m))
    (hL : ∀ d k j, (d, (k, j)) ∈ m → ∀ b q, g.L b = q ++ [d] → L' b = q ++ lab k j) : ∃ v, y.den ρ = some v ∧ ResOk w L' (lab k) r v val := by
  unfold endOne at h
  unfold ResOk
  split at h
  · rename_i hst
    simp only [hst, if_true]
    split at h
    · rename_i cs
      split at h
      · rename_i hc
        simp only [Bool.and_eq_true] at hc
        split at h
        · rename_i ys m' hl
          cases h
          obtain ⟨vals, rfl, hcs⟩ := hs
          obtain ⟨e1, vs, e2, e3⟩ := endLeaves_ok (lab := lab) (L' := L') hv hcs hl hL
          have hlen : cs.length = vals.length := by
            have hcl : ∀ (cs : List CV) (vals : List Value), cellsOk (CV.ok x w g ρ) cs vals → cs.length = vals.length := by
              intro cs
              induction cs with
              | nil => intro vals h; cases vals with
                | nil => rfl
                | cons _ _ => exact h.elim
              | cons c cs ih => intro vals h; cases vals with
                | nil => exact h.elim
                | cons _ _ => simp [ih _ h.2]
            exact hcl _ _ hcs
          have hsz := Nat.eq_of_beq_eq_true hc.2
          exact ⟨.t vs, mkT_den e2, vs, vals, rfl, rfl, hc.1, by rw [denL_length e2, e1, hsz], by rw [← hlen, hsz], fun j s u d f1 f2 f3 => by have := e3 j s u d (by simpa using f1) f2 f3; simpa using this⟩
        · cases h
      · cases h
    · cases h
  · rename_i hst
    simp only [hst, if_false, Bool.false_eq_true]
    split at h
    · rename_i c
      split at h
      · rename_i y' m' hc
        cases h
        obtain ⟨v, hy, how⟩ := closeLeaf_ok hv hs hc
        exact ⟨v, hy, how w L' (lab k 0) (fun d hd b q hb => ⟨rfl, hL d k 0 (List.mem_map.2 ⟨d, hd, rfl⟩) b q hb⟩)⟩
      · cases h
    · cases h


end

/-- Cells that are handed over behind a pointer; those of kp untold. -/
def endLeavesK (ch : Nat → Option Ch) (kp : List Nat) (k : Nat) (r : Sh) : Nat → List CV → Option (List E × List (Nat × (Nat × Nat)))
  | _, [] => some ([], [])
  | j, c :: cs => match r.leaf j with
    | none => none
    | some s => match (if memK j kp then some (E.tn, []) else closeLeaf ch s c), endLeavesK ch kp k r (j + 1) cs with
      | some (y, m), some (ys, m') => some (y :: ys, m.map (fun d => (d, (k, j))) ++ m')
      | _, _ => none

/-- An argument of each kind, for the callee's chunks from c on. -/
def openP (ch : Nat → Option Ch) (c : Nat) (p : Pk) (s : SV) : Option (E × List (Nat × (Nat × Nat))) :=
  match p with
  | .rd sh => (match openArg ch sh s with | some e => some (e, []) | none => none)
  | .own sh _ => endOne ch c sh s
  | .ptr sh ty kp => (match s with
    | .cv (.ptr d 0) => (match ch d with
      | some (.box cells ty') => if Nat.beq ty ty' && sh.chain && Nat.beq cells.length sh.sz then (match endLeavesK ch kp (c + 1) sh 0 cells with
          | some (ys, m) => some (mkT ys, (d, (c, 0)) :: m)
          | none => none) else none
      | _ => none)
    | _ => none)
  | .fn f => (match s with
    | .cv (.fn g) => if Nat.beq f g then some (.tn, []) else none
    | _ => none)

def openW (ch : Nat → Option Ch) (sl : Nat → SV) : Nat → List Pk → List Operand → Option (List E × List (Nat × (Nat × Nat)))
  | _, [], [] => some ([], [])
  | c, p :: ps, y :: ys => (match openP ch c p (opnd sl y), openW ch sl (c + p.kd.wd) ps ys with
    | some (e, m), some (es, m') => some (e :: es, m ++ m')
    | _, _ => none)
  | _, _, _ => none

/-- What is read alone hangs on none of the chunks M; on none at all where `ro`. -/
def rdsOk (M : List Nat) (ro : Bool) (sl : Nat → SV) : List Pk → List Operand → Bool
  | .rd _ :: ps, y :: ys => (opnd sl y).chunks.all (fun d => !ro && !(memK d M)) && rdsOk M ro sl ps ys
  | _ :: ps, _ :: ys => rdsOk M ro sl ps ys
  | _, _ => true

theorem look_some {α : Type} {c : Nat} : ∀ {l : List (Nat × α)}, c ∈ l.map (·.1) → ∃ v, look l c = some v
  | (k, v) :: l, h => by
    simp only [look]
    by_cases e : Nat.beq k c = true
    · exact ⟨v, by simp [e]⟩
    · rw [if_neg e]
      simp only [List.map_cons, List.mem_cons] at h
      rcases h with h | h
      · subst h; simp at e
      · exact look_some h

theorem memK_iff {k : Nat} : ∀ {l : List Nat}, memK k l = true ↔ k ∈ l
  | [] => by simp [memK]
  | a :: l => by
    simp only [memK, Bool.or_eq_true, List.mem_cons, memK_iff (l := l)]
    constructor
    · rintro (h | h)
      · exact .inl (Nat.eq_of_beq_eq_true h).symm
      · exact .inr h
    · rintro (h | h)
      · subst h; left; simp
      · exact .inr h

section
variable {x : Fx} {Γ : G} {ρ : List V} {a : Act} {w : World} {g : Gh} {sl : Nat → SV} {ch : Nat → Option Ch} {o : Oper} {res : Res}

theorem openLeaf_okS (hv : Vw x Γ ρ a w g sl ch) {s : Sh} {c : CV} {val : Value} (hc : c.ok x w g ρ val) {y : E} (h : openLeaf ch s c = some y) {R : Nat → Prop} (h0 : ∀ b, Src.st.S x g b → R b)
    (h1 : ∀ d ∈ c.chunks, ∀ b, (g.L b).getLast? = some d → R b) : ∃ v, y.den ρ = some v ∧ Rd w R s v [val] := by
  unfold openLeaf at h
  split at h
  · split at h
    · rename_i hk
      have := kindEq_eq hk
      subst this
      cases h
      obtain ⟨v, h1, h2⟩ := hc
      exact ⟨v, h1, val, rfl, h2⟩
    · cases h
  · cases h
    obtain ⟨v, h1, h2⟩ := hc
    exact ⟨v, h1, val, rfl, h2⟩
  · cases h
    obtain ⟨v, h1, h2⟩ := hc
    exact ⟨v, h1, val, rfl, h2⟩
  · cases h
    cases hc
    exact ⟨.l [], rfl, [], none, 0, 0, rfl, rfl, rfl, Nat.le_refl _, by simp [maxLen], fun _ => rfl, .inl rfl⟩
  · rename_i e et src e' et' y'
    split at h
    · rename_i hb
      simp only [Bool.and_eq_true] at hb
      have := Sh.beq_eq hb.2
      subst this
      cases h
      obtain ⟨_, _, hbody⟩ := hc
      obtain ⟨v, h3, h4⟩ := hbody (liveIn_ok hv hb.1).2
      refine ⟨v, h3, h4.frame (fun b hb => ⟨rfl, ?_⟩)⟩
      cases src with
      | st => exact h0 b hb
      | ch d ver => exact h1 d (by simp [CV.chunks, Src.chunks]) b hb
    · cases h
  · rename_i e et c
    split at h
    · rename_i ver e' et' y' hch
      split at h
      · rename_i hb
        have := Sh.beq_eq hb
        subst this
        cases h
        obtain ⟨v, val', hio, hy, hgv, how⟩ := hv.chok hch
        obtain ⟨_, hio'⟩ := hc
        rw [hio] at hio'; cases hio'
        have h3 : Rd w R (.sl e et') v [val] := how.rd (fun b q hb => h1 c (by simp [CV.chunks]) b (by rw [hb]; simp))
        exact ⟨v, hy, h3⟩
      · cases h
    · cases h
  · cases h

theorem openCells_okS (hv : Vw x Γ ρ a w g sl ch) {R : Nat → Prop} (h0 : ∀ b, Src.st.S x g b → R b) : ∀ {p : Sh} {cs : List CV} {vals : List Value}, cellsOk (CV.ok x w g ρ) cs vals → ∀ {ys : List E}, openCells ch p cs = some ys →
    (∀ d ∈ cs.flatMap CV.chunks, ∀ b, (g.L b).getLast? = some d → R b) → ∃ vs, denL ρ ys = some vs ∧ Rd w R p (.t vs) vals
  | .nil, [], [], _, ys, h, _ => by
    simp only [openCells, Option.some.injEq] at h
    subst h
    exact ⟨[], rfl, rfl, rfl⟩
  | .cons s t, c :: cs, val :: vals, hc, ys, h, h1 => by
    simp only [openCells] at h
    split at h
    · rename_i y ys' e1 e2
      cases h
      obtain ⟨v, hy, hr⟩ := openLeaf_okS hv hc.1 e1 h0 (fun d hd => h1 d (by simp [hd]))
      obtain ⟨vs, hvs, hrs⟩ := openCells_okS hv h0 hc.2 e2 (fun d hd => h1 d (by rw [List.flatMap_cons]; exact List.mem_append_right _ hd))
      exact ⟨v :: vs, by simp [denL, hy, hvs], v, vs, val, vals, rfl, rfl, hr, hrs⟩
    · cases h
  | .nil, _ :: _, _, _, _, h, _ => by cases h
  | .nil, [], _ :: _, hc, _, _, _ => hc.elim
  | .cons _ _, [], _, _, _, h, _ => by cases h
  | .cons _ _, _ :: _, [], hc, _, _, _ => hc.elim
  | .int _, _, _, _, _, h, _ => by cases h
  | .bool, _, _, _, _, h, _ => by cases h
  | .str, _, _, _, _, h, _ => by cases h
  | .sl _ _, _, _, _, _, h, _ => by cases h

theorem openArg_okS (hv : Vw x Γ ρ a w g sl ch) {R : Nat → Prop} (h0 : ∀ b, Src.st.S x g b → R b) {p : Sh} {s : SV} {val : Value} (hs : s.ok (CV.ok x w g ρ) val) {y : E} (h : openArg ch p s = some y)
    (h1 : ∀ d ∈ s.chunks, ∀ b, (g.L b).getLast? = some d → R b) : ∃ v, y.den ρ = some v ∧ RdOk w R p v val := by
  unfold openArg at h
  unfold RdOk
  split at h
  · rename_i hp
    simp only [hp, if_true]
    split at h
    · rename_i cs
      simp only [Option.map_eq_some_iff] at h
      obtain ⟨ys, e1, rfl⟩ := h
      obtain ⟨vs, rfl, hc⟩ := hs
      obtain ⟨us, hus, hr⟩ := openCells_okS hv h0 hc e1 h1
      exact ⟨.t us, mkT_den hus, vs, rfl, hr⟩
    · cases h
  · rename_i hp
    simp only [hp, if_false]
    split at h
    · exact openLeaf_okS hv hs h h0 h1
    · cases h

theorem endLeavesK_ok (hv : Vw x Γ ρ a w g sl ch) {kp : List Nat} {lab : Nat → Nat → List Nat} {L' : Nat → List Nat} {k : Nat} {r : Sh} : ∀ {cs : List CV} {j : Nat} {vals : List Value}, cellsOk (CV.ok x w g ρ) cs vals → ∀ {ys : List E} {m : List (Nat × (Nat × Nat))}, endLeavesK ch kp k r j cs = some (ys, m) →
    (∀ d k j, (d, (k, j)) ∈ m → ∀ b q, g.L b = q ++ [d] → L' b = q ++ lab k j) →
    ys.length = cs.length ∧ ∃ vs, denL ρ ys = some vs ∧ ∀ i s v d, memK (j + i) kp = false → r.leaf (j + i) = some s → vs[i]? = some v → vals[i]? = some d → Own w L' s v [d] (lab k (j + i))
  | [], j, vals, _, ys, m, h, _ => by
    simp only [endLeavesK, Option.some.injEq, Prod.mk.injEq] at h
    obtain ⟨rfl, rfl⟩ := h
    exact ⟨rfl, [], rfl, fun i s v d _ _ hi => by simp at hi⟩
  | c :: cs, j, [], hc, _, _, _, _ => hc.elim
  | c :: cs, j, val :: vals, hc, ys, m, h, hL => by
    simp only [endLeavesK] at h
    split at h
    · cases h
    · rename_i s hs
      split at h
      · rename_i y m1 ys' m2 h1 h2
        cases h
        obtain ⟨hl, vs, hvs, hrest⟩ := endLeavesK_ok hv hc.2 h2 (fun d k j hm => hL d k j (List.mem_append_right _ hm))
        have hsucc : ∀ (v0 : V) i s' v' d', memK (j + (i + 1)) kp = false → r.leaf (j + (i + 1)) = some s' → (v0 :: vs)[i + 1]? = some v' → (val :: vals)[i + 1]? = some d' → Own w L' s' v' [d'] (lab k (j + (i + 1))) := by
          intro v0 i s' v' d' e0 e1 e2 e3
          rw [show j + (i + 1) = j + 1 + i by omega] at e0 e1 ⊢
          exact hrest i s' v' d' e0 e1 (by simpa using e2) (by simpa using e3)
        split at h1
        · rename_i hk
          cases h1
          refine ⟨by simp [hl], .t [] :: vs, by simp [denL, E.den, hvs], fun i s' v' d' e0 e1 e2 e3 => ?_⟩
          cases i with
          | zero => rw [Nat.add_zero, hk] at e0; cases e0
          | succ i => exact hsucc _ i s' v' d' e0 e1 e2 e3
        · obtain ⟨v, hy, how⟩ := closeLeaf_ok hv hc.1 h1
          refine ⟨by simp [hl], v :: vs, by simp [denL, hy, hvs], fun i s' v' d' e0 e1 e2 e3 => ?_⟩
          cases i with
          | zero =>
            simp only [List.getElem?_cons_zero, Option.some.injEq] at e2 e3
            subst e2; subst e3
            rw [Nat.add_zero, hs] at e1
            cases e1
            exact how w L' (lab k j) (fun d hd b q hb => ⟨rfl, hL d k j (List.mem_append_left _ (List.mem_map.2 ⟨d, hd, rfl⟩)) b q hb⟩)
          | succ i => exact hsucc _ i s' v' d' e0 e1 e2 e3
      · cases h

theorem openP_ok (hv : Vw x Γ ρ a w g sl ch) {R : Nat → Prop} (h0 : ∀ b, Src.st.S x g b → R b) {L0 : Nat → List Nat} {p : Pk} {c : Nat} {s : SV} {val : Value} (hs : s.ok (CV.ok x w g ρ) val) {e : E} {m : List (Nat × (Nat × Nat))}
    (h : openP ch c p s = some (e, m)) (hL : ∀ d k j, (d, (k, j)) ∈ m → ∀ b q, g.L b = q ++ [d] → L0 b = q ++ [k + j]) (h1 : ∀ sh, p = .rd sh → ∀ d ∈ s.chunks, ∀ b, (g.L b).getLast? = some d → R b) :
    ∃ v, e.den ρ = some v ∧ KdOk w R L0 (fun j => [c + j]) p.kd v val := by
  unfold openP at h
  split at h
  · split at h
    · rename_i sh e' he
      cases h
      exact openArg_okS hv h0 hs he (h1 _ rfl)
    · cases h
  · exact endOne_ok (lab := fun k j => [k + j]) (L' := L0) hv hs h hL
  · split at h
    · rename_i sh ty kp d
      split at h
      · rename_i cells ty' hd
        split at h
        · rename_i hc
          simp only [Bool.and_eq_true] at hc
          have e1 := Nat.eq_of_beq_eq_true hc.1.1
          have e3 := Nat.eq_of_beq_eq_true hc.2
          subst e1
          split at h
          · rename_i ys m' hl
            cases h
            obtain ⟨b, hio, hval⟩ := hs
            obtain ⟨b', vs, hio', hLb, hh, hcs⟩ := hv.chok hd
            rw [hio] at hio'
            cases hio'
            obtain ⟨k1, us, k2, k3⟩ := endLeavesK_ok (lab := fun k j => [k + j]) (L' := L0) hv hcs hl (fun d k j hm => hL d k j (List.mem_cons_of_mem _ hm))
            refine ⟨.t us, mkT_den k2, b, us, vs, rfl, hval, by have := hL d c 0 List.mem_cons_self b [] (by simpa using hLb); simpa using this, hh, hc.1.2, by rw [denL_length k2, k1, e3], by rw [← hcs.length, e3], fun j s' u d' f0 f1 f2 f3 => ?_⟩
            have := k3 j s' u d' (by simpa using f0) (by simpa using f1) f2 f3
            show Own w L0 s' u [d'] [c + (j + 1)]
            rw [show c + (j + 1) = c + 1 + (0 + j) by omega]
            exact this
          · cases h
        · cases h
      · cases h
    · cases h
  · split at h
    · split at h
      · rename_i f g' hf
        cases h
        have := Nat.eq_of_beq_eq_true hf
        subst this
        exact ⟨.t [], rfl, hs⟩
      · cases h
    · cases h

theorem openW_ok (hv : Vw x Γ ρ a w g sl ch) {R : Nat → Prop} (h0 : ∀ b, Src.st.S x g b → R b) {L0 : Nat → List Nat} {M : List Nat} {ro : Bool} (hM : ∀ d, ro = false → memK d M = false → ∀ b, (g.L b).getLast? = some d → R b) : ∀ {ps : List Pk} {ys : List Operand} {c k : Nat} {lab : Nat → Nat → List Nat} {es : List E} {m : List (Nat × (Nat × Nat))},
    openW ch sl c ps ys = some (es, m) → (∀ d k j, (d, (k, j)) ∈ m → ∀ b q, g.L b = q ++ [d] → L0 b = q ++ [k + j]) → rdsOk M ro sl ps ys = true → (∀ i j, lab (k + i) j = kdLab c (ps.map Pk.kd) i j) →
    ∃ vs, denL ρ es = some vs ∧ kdsOk w R L0 lab k (ps.map Pk.kd) vs (ys.map a.eval)
  | [], [], c, k, lab, es, m, h, _, _, _ => by
    simp only [openW, Option.some.injEq, Prod.mk.injEq] at h
    obtain ⟨rfl, rfl⟩ := h
    exact ⟨[], rfl, trivial⟩
  | p :: ps, y :: ys, c, k, lab, es, m, h, hL, hrd, hlab => by
    simp only [openW] at h
    split at h
    · rename_i e m1 es' m2 e1 e2
      cases h
      have hrd' : rdsOk M ro sl ps ys = true := by cases p <;> simp only [rdsOk, Bool.and_eq_true] at hrd <;> first | exact hrd.2 | exact hrd
      obtain ⟨v, hy, hk⟩ := openP_ok hv h0 (hv.opnd y) e1 (fun d k j hm => hL d k j (List.mem_append_left _ hm)) (fun sh hp d hd => by
        subst hp
        simp only [rdsOk, Bool.and_eq_true, List.all_eq_true, Bool.not_eq_true'] at hrd
        have := hrd.1 d hd
        exact hM d this.1 this.2)
      obtain ⟨vs, hvs, hks⟩ := openW_ok hv h0 hM (k := k + 1) (lab := lab) e2 (fun d k j hm => hL d k j (List.mem_append_right _ hm)) hrd' (fun i j => by rw [show k + 1 + i = k + (i + 1) by omega]; exact hlab (i + 1) j)
      refine ⟨v :: vs, by simp [denL, hy, hvs], ?_, hks⟩
      have : lab k = fun j => [c + j] := by funext j; exact hlab 0 j
      rw [this]
      exact hk
    · cases h
  | [], _ :: _, _, _, _, _, _, h, _, _, _ => by cases h
  | _ :: _, [], _, _, _, _, _, h, _, _, _ => by cases h

end

end Go.Proofs.YteleedlkdadogaaGreat.Fw
