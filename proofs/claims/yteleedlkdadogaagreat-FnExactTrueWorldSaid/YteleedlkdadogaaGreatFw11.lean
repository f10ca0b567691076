/- Steps of operations, 8: append; bytes to strings; checks for nil. -/
import Derived.Test.YteleedlkdadogaaGreatFw10
namespace Go.Proofs.YteleedlkdadogaaGreat.Fw
open Go.RowKit

/-- Does nothing of such a value lie in memory behind it? -/
def Sh.flat : Sh → Bool
  | .int _ => true
  | .bool => true
  | .str => true
  | .sl _ _ => false
  | .nil => true
  | .cons h t => h.flat && t.flat

theorem Rd.flatOwn {w w' : World} {S : Nat → Prop} {L : Nat → List Nat} : ∀ {sh : Sh} {v : V} {cs : List Value} {p : List Nat}, sh.flat = true → Rd w S sh v cs → Own w' L sh v cs p := by
  intro sh
  induction sh with
  | int k => intro v cs p _ h; exact h
  | bool => intro v cs p _ h; exact h
  | str => intro v cs p _ h; exact h
  | sl e et ih => intro v cs p h; cases h
  | nil => intro v cs p _ h; exact h
  | cons a t ih1 ih2 =>
    intro v cs p hf ⟨y, ys, c, cs', h1, h2, h3, h4⟩
    simp only [Sh.flat, Bool.and_eq_true] at hf
    exact ⟨y, ys, c, cs', h1, h2, ih1 hf.1 h3, ih2 hf.2 h4⟩

/-- What comes behind is told cell by cell: xs as elements in a row of cells. -/
def elemsAt (w : World) (L : Nat → List Nat) (e : Sh) (xs : List V) (cells : List Value) (lo : Nat) (k : Nat) (p : List Nat) : Prop :=
  ∀ i v, xs[i]? = some v → Own w L e v ((cells.drop (lo + i * e.sz)).take e.sz) ((k + i) :: p)

section
variable {P : Program} (w : World)

theorem run_append_room_any {t u e' ty : TypeId} {ti te : TI} (h : ti.ok P t) (hk : ti.kind = .sl e') (he : te.ok P e') {d : TypeDesc} (hu : P.underlying u = some d) (hd : ∀ k, d ≠ .int k)
    {b k sLen sCap m : Nat} {cur : Array Value} {et : TypeId} (hh : w.heap[b]? = some (.cells cur et (0, 0))) {y : Value} {news : List Value} (hy : ∀ w, (Builtin.lenOf y).run P w = .ok m w)
    (hf : (Builtin.firstCells te.size m y).run P w = .ok news.toArray w) (h1 : ∀ v ∈ news, v.oneCell' = true) (hroom : sLen + m ≤ sCap) (hfit : k + sLen * te.size + news.length ≤ cur.size) :
    (Builtin.append_ #[t, u] ty #[.slice (some ⟨b, k, none⟩) sLen sCap, y]).run P w =
      .ok (.slice (some ⟨b, k, none⟩) (sLen + m) sCap) (w.setRow b (cur.toList.take (k + sLen * te.size) ++ news ++ cur.toList.drop (k + sLen * te.size + news.length)).toArray) := by
  have hst := run_storeCells_at P b (k + sLen * te.size) et news 0 cur w hh (by simpa using hfit) h1
  simp only [Nat.add_zero] at hst
  have hz : (do pure ((← underlying u) matches .int _) : Sem Bool).run P w = .ok false w := by
    simp only [Sem.run_bind, run_underlying hu, Result.andThen_ok]
    cases d <;> first | rfl | exact absurd rfl (hd _)
  unfold Builtin.append_
  simp only [List.getElem?_toArray, List.getElem?_cons_zero, List.getElem?_cons_succ, Sem.run_bind, run_underlying (h.slice hk), Result.andThen_ok, he.run_sizeOf]
  have hz' := hz
  simp only [Sem.run_bind, run_underlying hu, Result.andThen_ok, Sem.run_pure] at hz' ⊢
  cases d <;> first | exact absurd rfl (hd _) | skip
  all_goals simp only [Bool.false_eq_true, if_false, hy, Result.andThen_ok, hroom, if_true, Bool.not_false, Sem.run_bind, hf, Addr.add_lit, hst, Sem.run_pure]

theorem run_append_grow_any {t u e' ty : TypeId} {ti te : TI} (h : ti.ok P t) (hk : ti.kind = .sl e') (he : te.ok P e') {d : TypeDesc} (hu : P.underlying u = some d) (hd : ∀ k, d ≠ .int k)
    {ad : Option Addr} {sLen sCap m : Nat} {y : Value} {olds news : List Value} (hy : ∀ w, (Builtin.lenOf y).run P w = .ok m w)
    (hf : (Builtin.firstCells te.size m y).run P w.drew = .ok news.toArray w.drew) (ho : (Builtin.firstCells te.size sLen (.slice ad sLen sCap)).run P w.drew = .ok olds.toArray w.drew)
    (hgrow : sCap < sLen + m) (hroom : roomFor (sLen + m) te.bytes) :
    ∃ cap zs, sLen + m ≤ cap ∧ cap ≤ maxLen ∧ zs.length = (cap - (sLen + m)) * te.size ∧
    (Builtin.append_ #[t, u] ty #[.slice ad sLen sCap, y]).run P w =
      .ok (.slice (some ⟨w.heap.size, 0, none⟩) (sLen + m) cap) (w.drew.alloc (.cells (olds ++ news ++ zs).toArray e')) := by
  obtain ⟨i, z, hi, hs, hb, hz0, hz1, _, _⟩ := he.info
  have hge := grownCap_ge w (sLen + m) sCap e'
  have hcm := grownCap_le_maxLen w (sLen + m) sCap e' hroom.1
  refine ⟨grownCap w (sLen + m) sCap e', (Builtin.zeroCells z.cells (grownCap w (sLen + m) sCap e' - (sLen + m))).toList, hge, hcm, by rw [Array.length_toList, size_zeroCells, hz1], ?_⟩
  have hfit := growslice_fits hgrow hroom.2
  have h63 : ¬ (((sLen + m : Nat) : Int) > IntKind.i64.max) := by rw [IntKind.max_i64]; have := hroom.1; omega
  have h48 : ¬ (Builtin.nextslicecap (sLen + m) sCap * te.bytes > 2 ^ 48) := by have : (2 : Nat) ^ 48 = 281474976710656 := by decide
                                                                                omega
  have hty : ∀ w, (typeInfo e').run P w = .ok i w := fun w => by simp [typeInfo, hi]
  have hze : ∀ w, (zeroValue e').run P w = .ok z w := fun w => by simp [zeroValue, typeInfo, hi, hz0]
  have hch : (choose (.appendCap (sLen + m) sCap e')).run P w = .ok (grownCap w (sLen + m) sCap e') w.drew := by
    simp [Question.forced, grownCap]
  unfold Builtin.append_
  simp only [List.getElem?_toArray, List.getElem?_cons_zero, List.getElem?_cons_succ, Sem.run_bind, run_underlying (h.slice hk), run_underlying hu, Result.andThen_ok, he.run_sizeOf, Sem.run_pure]
  cases d <;> first | exact absurd rfl (hd _) | skip
  all_goals
    simp only [Bool.false_eq_true, if_false, hy, Result.andThen_ok, show ¬ (sLen + m ≤ sCap) by omega, Sem.run_bind, hty, hb, h63, h48, false_and, Sem.run_pure, hch, run_askRoom, hf, ho, hze, Bool.not_false, if_true, newRow, run_newObj]
    congr 2
    apply Array.ext'
    simp

end

section
variable {x : Fx} {Γ : G} {ρ : List V} {a : Act} {w : World} {g : Gh} {sl : Nat → SV} {ch : Nat → Option Ch} {o : Oper} {res : Res}

/-- labels behind an append: what was chunk c's is id's; what was the elements of chunk d's goes behind the n elements that were there. -/
def relab (cs : Option Nat) (ds : Option Nat) (id n : Nat) (l : List Nat) : List Nat :=
  match l.reverse with
  | k :: r => if cs = some k then r.reverse ++ [id] else if ds = some k then (match r with
    | i :: r' => r'.reverse ++ [n + i, id]
    | [] => l) else l
  | [] => l

theorem relab_c {c id n : Nat} {ds : Option Nat} (q : List Nat) : relab (some c) ds id n (q ++ [c]) = q ++ [id] := by simp [relab]
theorem relab_d {c : Option Nat} {d id n : Nat} (h : c ≠ some d) (q : List Nat) (i : Nat) : relab c (some d) id n (q ++ [i, d]) = q ++ [n + i, id] := by
  have : (q ++ [i, d]).reverse = d :: i :: q.reverse := by simp
  simp only [relab, this, if_neg h]
  simp
theorem relab_miss {c d : Option Nat} {id n : Nat} {l : List Nat} (h : ∀ k, l.getLast? = some k → c ≠ some k ∧ d ≠ some k) : relab c d id n l = l := by
  unfold relab
  cases hr : l.reverse with
  | nil => rfl
  | cons k r =>
    have hk : l.getLast? = some k := by rw [← List.head?_reverse, hr]; rfl
    simp only
    rw [if_neg (h k hk).1, if_neg (h k hk).2]

/-- What is appended: its elements, and (where their memory goes along) the chunk. -/
inductive ASrc where
  | flat (y : E)
  | own (d : Nat) (y : E)
  | str (y : E)

def asrc (sl : Nat → SV) (ch : Nat → Option Ch) (e : Sh) (et : TypeId) (z : Operand) : Option ASrc :=
  match opnd sl z with
  | .cv .nil => some (.flat .kl)
  | .cv (.rd src e' _ y) => if liveIn ch src && e.flat && e.beq e' then some (.flat y) else none
  | .cv (.own d) => (match ch d with
    | some (.arr _ e' et' y) => if e.beq e' && Nat.beq et et' then (if e.flat then some (.flat y) else some (.own d y)) else none
    | _ => none)
  | .cv (.sc .str y) => if e.beq (.int .u8) then some (.str y) else none
  | _ => none

/-- What is appended to: nil, or a chunk. -/
def abase (sl : Nat → SV) (ch : Nat → Option Ch) (Z : Nat → Option Sh) (e' : TypeId) (y : Operand) : Option (Option Nat × Sh × E) :=
  match opnd sl y with
  | .cv .nil => (match Z e' with
    | some e => some (none, e, .kl)
    | none => none)
  | .cv (.own c) => (match ch c with
    | some (.arr _ e et q) => if Nat.beq et e' && !(Nat.beq c 0) then some (some c, e, q) else none
    | _ => none)
  | _ => none

def optDead : Option Nat → List (Nat × Ch)
  | none => []
  | some c => [(c, .dead)]

def stepAppend (n id : Nat) (T : Nat → Option TI) (Z : Nat → Option Sh) (sl : Nat → SV) (ch : Nat → Option Ch) (t u : TypeId) (y z : Operand) : Option Res :=
  match T t, T u, ch id with
  | some ti, some tu, some .fresh => (match ti.kind with
    | .sl e' => (match T e', abase sl ch Z e' y with
      | some te, some (c, e, q) =>
        if Nat.beq te.size e.sz && !(Nat.beq e.sz 0) && !(Nat.beq id 0) then
          (match asrc sl ch e e' z, tu.kind with
          | some (.flat q'), .sl _ => some ⟨[.pm (.lapp te.bytes) [q, q']], (id, .arr 1 e e' (.v n)) :: optDead c, .cv (.own id)⟩
          | some (.own d q'), .sl _ => if c.any (Nat.beq d) || Nat.beq d 0 then none else some ⟨[.pm (.lapp te.bytes) [q, q']], (id, .arr 1 e e' (.v n)) :: (d, .dead) :: optDead c, .cv (.own id)⟩
          | some (.str q'), .str => some ⟨[.pm .lstr [q'], .pm (.lapp te.bytes) [q, .v n]], (id, .arr 1 e e' (.v (n + 1))) :: optDead c, .cv (.own id)⟩
          | _, _ => none)
        else none
      | _, _ => none)
    | _ => none)
  | _, _, _ => none

def Gh.appended (g : Gh) (b : Option Nat) (cs ds : Option Nat) (id n : Nat) (val : Value) (T : Nat → Bool) : Gh :=
  { L := fun b' => if b = some b' then [id] else relab cs ds id n (g.L b'), io := fun c => if c = id then some val else g.io c, gv := fun c => if T c then g.gv c + 1 else g.gv c }

/-- The core: a slice is appended to; what comes out is chunk id's. -/
theorem good_append_core {T : Nat → Option TI} (hT : TabOk x.P T) (hv : Vw x Γ ρ a w g sl ch) {id : Nat} (h0 : id ≠ 0) (hid : ch id = some .fresh) {t u e' : TypeId} {ti te : TI} (hti : ti.ok x.P t) (hk : ti.kind = .sl e')
    (hte : te.ok x.P e') {du : TypeDesc} (hu : x.P.underlying u = some du) (hdu : ∀ k, du ≠ .int k) {e : Sh} (hsz : te.size = e.sz)
    {c d : Option Nat} {q : E} {upd : List (Nat × Ch)} (hc0 : c ≠ some 0) (hd0 : d ≠ some 0) (hcd : ∀ k, c = some k → d = some k → False) (hcid : c ≠ some id) (hdid : d ≠ some id) {y z : Operand} (ho : o.op = .call { callee := .builtin .append, args := #[y, z], argTypes := #[t, u] })
    {xs ys : List V} {val : Value} (ey : a.eval y = val)
    (hbase : (c = none ∧ val = .slice none 0 0 ∧ xs = []) ∨ ∃ c', c = some c' ∧ g.io c' = some val ∧ Own w g.L (.sl e e') (.l xs) [val] [c'])
    {news : List Value} (hnl : news.length = ys.length * e.sz) (hy : ∀ w, (Builtin.lenOf (a.eval z)).run x.P w = .ok ys.length w)
    (hf : ∀ w', (∀ b : Nat, w'.heap[b]? = w.heap[b]?) → (Builtin.firstCells te.size ys.length (a.eval z)).run x.P w' = .ok news.toArray w') (h1 : ∀ v ∈ news, v.oneCell' = true)
    (hnew : ∀ (w' : World) (L' : Nat → List Nat) (n : Nat) (p : List Nat), (∀ d', d = some d' → ∀ b q i, g.L b = q ++ [i, d'] → w'.heap[b]? = w.heap[b]? ∧ L' b = q ++ ((n + i) :: p)) → elemsAt w' L' e ys news 0 n p)
    (hroom : roomFor (xs.length + ys.length) te.bytes) {yv : E} (hyv : yv.den ρ = some (.l (xs ++ ys))) {ems : List Em}
    (hupd : upd = (id, Ch.arr 1 e e' yv) :: (optDead d ++ optDead c))
    (hres : res = ⟨ems, upd, .cv (.own id)⟩) : Good x ρ a w g o res := by
  subst hres
  have hfr : Ch.fresh.ok x w g ρ id := hv.chok hid
  have hkeys : ∀ k, keys upd k ↔ (k = id ∨ c = some k ∨ d = some k) := by
    intro k
    subst hupd
    unfold keys
    have hb : ∀ m n : Nat, (Nat.beq m n = true) ↔ m = n := fun m n => ⟨Nat.eq_of_beq_eq_true, fun h => by subst h; simp⟩
    cases c <;> cases d <;> simp only [optDead, List.nil_append, List.cons_append, List.append_nil, look] <;> repeat' split
    all_goals simp_all
    all_goals first | omega | (intro h; exact absurd h.symm (by assumption)) | skip
    all_goals exact fun h => by first | exact absurd h.symm (by assumption) | omega
  have hdead : ∀ k h, look upd k = some h → (k = id ∧ h = Ch.arr 1 e e' yv) ∨ h = .dead := by
    intro k h hl
    subst hupd
    simp only [look] at hl
    split at hl
    · rename_i hb; cases hl; exact .inl ⟨(Nat.eq_of_beq_eq_true hb).symm, rfl⟩
    · right
      have := look_mem hl
      cases c <;> cases d <;> simp [optDead] at this
      · exact this.2
      · exact this.2
      · rcases this with h | h <;> exact h.2
  have hTid : (look upd id).isSome = true := (hkeys id).2 (.inl rfl)
  have hval1 : val.oneCell' = true := by
    rcases hbase with ⟨_, rfl, _⟩ | ⟨_, _, _, how⟩
    · rfl
    · obtain ⟨_, _, _, _, _, hcs, _⟩ := how
      cases hcs; rfl
  -- the elements that were there, and those that come, behind the append
  have finish : ∀ (w' : World) (val' : Value) (bn : Option Nat), (∀ b : Nat, b < w.heap.size → (∀ k, (g.L b).getLast? = some k → ¬ keys upd k) → w'.heap[b]? = w.heap[b]?) → w.heap.size ≤ w'.heap.size → Env w' w →
      (∀ b, bn = some b → w.heap.size ≤ b ∧ b < w'.heap.size) → val'.oneCell' = true →
      (execOp a.eval o).run x.P w = .ok (.value val') w' →
      Own w' (g.appended bn c d id xs.length val' (fun k => (look upd k).isSome)).L (.sl e e') (.l (xs ++ ys)) [val'] [id] → Good x ρ a w g o ⟨ems, upd, .cv (.own id)⟩ := by
    intro w' val' bn hblk hsz' henv hbn hv1 hrun how
    have hlab : ∀ b, b < w.heap.size → (∀ k, (g.L b).getLast? = some k → ¬ keys upd k) → (g.appended bn c d id xs.length val' (fun k => (look upd k).isSome)).L b = g.L b := by
      intro b hb hk
      simp only [Gh.appended]
      rw [if_neg (fun e => by have := (hbn b e).1; omega)]
      exact relab_miss (fun k hl => ⟨fun e => hk k hl ((hkeys k).2 (.inr (.inl e))), fun e => hk k hl ((hkeys k).2 (.inr (.inr e)))⟩)
    have f : Fr (keys upd) w g w' (g.appended bn c d id xs.length val' (fun k => (look upd k).isSome)) := by
      refine ⟨fun h => ?_, fun b hb hk => ⟨hblk b hb hk, hlab b hb hk⟩, fun k v hk => ?_, fun k hk => ?_, fun k hk => ?_, fun k hk => ?_, hsz', fun b hb => ?_, henv⟩
      · rcases (hkeys 0).1 h with e | e | e
        · exact h0 e.symm
        · exact hc0 e
        · exact hd0 e
      · simp only [Gh.appended]
        split
        · rename_i e; subst e; rw [hfr.1] at hk; cases hk
        · exact hk
      · simp only [Gh.appended]
        rw [if_neg (fun e => hk ((hkeys k).2 (.inl e)))]
      · have hk' : ¬ (look upd k).isSome = true := hk
        simp only [Gh.appended]
        rw [if_neg hk']
      · have hk' : (look upd k).isSome = true := hk
        simp only [Gh.appended]
        rw [if_pos hk']; omega
      · simp only [Gh.appended]
        rw [if_neg (fun e => by have := (hbn b e).2; omega)]
        have := hv.rel.high b (by omega)
        rw [this]; rfl
    refine good_value hrun f (fun k h hl => ?_) ⟨hv1, by simp [Gh.appended]⟩
    rcases hdead k h hl with ⟨rfl, rfl⟩ | rfl
    · refine ⟨_, val', by simp [Gh.appended], hyv, ?_, how⟩
      simp only [Gh.appended]
      rw [if_pos hTid, hfr.2]
    · trivial
  have hexec : ∀ {v' : Value} {w' : World}, (Builtin.append_ #[t, u] o.type #[val, a.eval z]).run x.P w = .ok v' w' → (execOp a.eval o).run x.P w = .ok (.value v') w' := by
    intro v' w' h
    simp only [execOp, ho]
    simp [resolve, invoke, builtin, ey, h]
  have hd_lab : ∀ (bn : Option Nat) (val' : Value) (b : Nat) (q : List Nat) (i d' : Nat), bn ≠ some b → d = some d' → g.L b = q ++ [i, d'] →
      (g.appended bn c d id xs.length val' (fun k => (look upd k).isSome)).L b = q ++ ((xs.length + i) :: [id]) := by
    intro bn val' b q i d' hb hd hL
    simp only [Gh.appended]
    rw [if_neg hb, hL]
    subst hd
    exact relab_d (fun e => hcd d' e rfl) q i
  have hc_lab : ∀ (bn : Option Nat) (val' : Value) (b : Nat) (q : List Nat) (c' : Nat), bn ≠ some b → c = some c' → g.L b = q ++ [c'] →
      (g.appended bn c d id xs.length val' (fun k => (look upd k).isSome)).L b = q ++ [id] := by
    intro bn val' b q c' hb hc hL
    simp only [Gh.appended]
    rw [if_neg hb, hL]
    subst hc
    exact relab_c q
  have hlt : ∀ (b : Nat) (q : List Nat) (k : Nat), g.L b = q ++ [k] → b < w.heap.size := fun b q k h => last_lt (g := g) hv.rel.high (c := k) (by rw [h]; simp)
  -- growing
  have grow : ∀ (ad : Option Addr) (sLen sCap : Nat) (olds : List Value), val = .slice ad sLen sCap → sLen = xs.length → sCap < sLen + ys.length → olds.length = xs.length * e.sz →
      (∀ w', (∀ b : Nat, w'.heap[b]? = w.heap[b]?) → (Builtin.firstCells te.size sLen (.slice ad sLen sCap)).run x.P w' = .ok olds.toArray w') →
      (∀ (w' : World) (L' : Nat → List Nat) (p : List Nat), (∀ c', c = some c' → ∀ b q, g.L b = q ++ [c'] → w'.heap[b]? = w.heap[b]? ∧ L' b = q ++ p) → elemsAt w' L' e xs olds 0 0 p) →
      Good x ρ a w g o ⟨ems, upd, .cv (.own id)⟩ := by
    intro ad sLen sCap olds hval hs hg hol hfo hold
    subst hs
    obtain ⟨cap, zs, hge, hcm, hzl, hrun⟩ := run_append_grow_any (P := x.P) w (ty := o.type) hti hk hte hu hdu (ad := ad) (sLen := xs.length) (sCap := sCap) (m := ys.length) (y := a.eval z) (olds := olds) (news := news) hy (hf w.drew (fun _ => rfl)) (hfo w.drew (fun _ => rfl)) hg hroom
    rw [← hval] at hrun
    have hheap : ∀ b, b < w.heap.size → (w.drew.alloc (.cells (olds ++ news ++ zs).toArray e')).heap[b]? = w.heap[b]? := fun b hb => Below.heap_alloc w.drew _ b hb
    refine finish _ _ (some w.heap.size) (fun b hb _ => hheap b hb) (by simp) ⟨rfl, rfl, rfl⟩ (fun b hb => by cases hb; simp) rfl (hexec hrun) ?_
    refine ⟨xs ++ ys, _, _, _, rfl, rfl, by simp, hge, hcm, .inr ⟨w.heap.size, 0, _, rfl, by simp [Gh.appended], heap_alloc_new w.drew _, ?_, fun i v hi => ?_⟩⟩
    · simp only [Nat.zero_add, List.size_toArray, List.length_append, hol, hnl, hzl, hsz]
      rw [← Nat.add_mul, ← Nat.add_mul]
      exact Nat.mul_le_mul_right _ (by omega)
    · rw [List.toList_toArray]
      by_cases hlt' : i < xs.length
      · rw [List.getElem?_append_left hlt'] at hi
        have hol' := hold (w.drew.alloc (.cells (olds ++ news ++ zs).toArray e')) _ [id] (fun c' hc' b q hb => ⟨hheap b (hlt b q c' hb), hc_lab (some w.heap.size) (.slice (some ⟨w.heap.size, 0, none⟩) (xs.length + ys.length) cap) b q c' (fun e => by have := hlt b q c' hb; cases e; omega) hc' hb⟩) i v hi
        have hle : i * e.sz + e.sz ≤ olds.length := by
          rw [hol]
          have : (i + 1) * e.sz ≤ xs.length * e.sz := Nat.mul_le_mul_right _ (by omega)
          rw [Nat.add_mul] at this; omega
        have hw : ((olds ++ news ++ zs).drop (0 + i * e.sz)).take e.sz = (olds.drop (0 + i * e.sz)).take e.sz := by
          rw [List.append_assoc, List.drop_append_of_le_length (by omega), List.take_append_of_le_length (by simp; omega)]
        rw [hw]
        simpa using hol'
      · rw [List.getElem?_append_right (by omega)] at hi
        have hin : i - xs.length < ys.length := (List.getElem?_eq_some_iff.1 hi).1
        have hn' := hnew (w.drew.alloc (.cells (olds ++ news ++ zs).toArray e')) _ xs.length [id] (fun d' hd' b q j hb => ⟨hheap b (hlt b (q ++ [j]) d' (by rw [hb]; simp)), hd_lab (some w.heap.size) (.slice (some ⟨w.heap.size, 0, none⟩) (xs.length + ys.length) cap) b q j d' (fun e => by have := hlt b (q ++ [j]) d' (by rw [hb]; simp); cases e; omega) hd' hb⟩) (i - xs.length) v hi
        have hle : (i - xs.length) * e.sz + e.sz ≤ news.length := by
          rw [hnl]
          have : (i - xs.length + 1) * e.sz ≤ ys.length * e.sz := Nat.mul_le_mul_right _ (by omega)
          rw [Nat.add_mul] at this; omega
        have hoff : 0 + i * e.sz = olds.length + (i - xs.length) * e.sz := by
          rw [Nat.zero_add, hol, ← Nat.add_mul]; congr 1; omega
        have hw : ((olds ++ news ++ zs).drop (0 + i * e.sz)).take e.sz = (news.drop (0 + (i - xs.length) * e.sz)).take e.sz := by
          rw [hoff, List.append_assoc, List.drop_append, List.drop_eq_nil_of_le (by omega), List.nil_append, show olds.length + (i - xs.length) * e.sz - olds.length = (i - xs.length) * e.sz by omega,
            List.drop_append_of_le_length (by omega), List.take_append_of_le_length (by simp; omega), Nat.zero_add]
        rw [hw]
        rw [show xs.length + (i - xs.length) = i by omega] at hn'
        exact hn'
  rcases hbase with ⟨hcn, hvn, hxn⟩ | ⟨c', hc', hio, how⟩
  · subst hvn
    subst hxn
    by_cases hz : ys.length = 0
    · -- nothing onto nil
      have hys : ys = [] := List.eq_nil_of_length_eq_zero hz
      subst hys
      have hnn : news = [] := List.eq_nil_of_length_eq_zero (by simpa using hnl)
      subst hnn
      have hrun : (Builtin.append_ #[t, u] o.type #[.slice none 0 0, a.eval z]).run x.P w = .ok (.slice none 0 0) w := by
        unfold Builtin.append_
        simp only [List.getElem?_toArray, List.getElem?_cons_zero, List.getElem?_cons_succ, Sem.run_bind, run_underlying (hti.slice hk), run_underlying hu, Result.andThen_ok, hte.run_sizeOf, Sem.run_pure]
        have h2 := hf w (fun _ => rfl)
        cases du <;> first | exact absurd rfl (hdu _) | skip
        all_goals simp only [List.length_nil] at hy h2; simp [hy, h2]
      refine finish w _ none (fun _ _ _ => rfl) (Nat.le_refl _) (Env.refl w) (fun b h => by cases h) rfl (hexec hrun) ⟨[], none, 0, 0, rfl, rfl, rfl, Nat.le_refl _, by simp [maxLen], .inl ⟨rfl, rfl, rfl⟩⟩
    · exact grow none 0 0 [] rfl rfl (by omega) (by simp) (fun w' _ => by simp [Builtin.firstCells]) (fun w' L' p _ i v hi => by simp at hi)
  · obtain ⟨xs', ad, len, cap, hx, hcs, hlen, hcap, hmax, hor⟩ := how
    cases hx
    have hvv : val = .slice ad len cap := by simpa using hcs
    subst hvv
    subst hlen
    rcases hor with ⟨had, hcap0, hxn⟩ | ⟨gb, k, cur, had, hLg, hh, hsz0, hall⟩
    · subst had; subst hcap0; subst hxn
      by_cases hz : ys.length = 0
      · have hys : ys = [] := List.eq_nil_of_length_eq_zero hz
        subst hys
        have hnn : news = [] := List.eq_nil_of_length_eq_zero (by simpa using hnl)
        subst hnn
        have hrun : (Builtin.append_ #[t, u] o.type #[.slice none 0 0, a.eval z]).run x.P w = .ok (.slice none 0 0) w := by
          unfold Builtin.append_
          simp only [List.getElem?_toArray, List.getElem?_cons_zero, List.getElem?_cons_succ, Sem.run_bind, run_underlying (hti.slice hk), run_underlying hu, Result.andThen_ok, hte.run_sizeOf, Sem.run_pure]
          have h2 := hf w (fun _ => rfl)
          cases du <;> first | exact absurd rfl (hdu _) | skip
          all_goals simp only [List.length_nil] at hy h2; simp [hy, h2]
        refine finish w _ none (fun _ _ _ => rfl) (Nat.le_refl _) (Env.refl w) (fun b h => by cases h) rfl (hexec hrun) ⟨[], none, 0, 0, rfl, rfl, rfl, Nat.le_refl _, by simp [maxLen], .inl ⟨rfl, rfl, rfl⟩⟩
      · exact grow none 0 0 [] rfl rfl (by omega) (by simp) (fun w' _ => by simp [Builtin.firstCells]) (fun w' L' p _ i v hi => by simp at hi)
    · subst had
      have hrow : ∀ jj, jj < xs.length → k + jj * e.sz + e.sz ≤ k + cap * e.sz := by
        intro jj hjj
        have : (jj + 1) * e.sz ≤ cap * e.sz := Nat.mul_le_mul_right _ (by omega)
        rw [Nat.add_mul] at this
        omega
      by_cases hfits : xs.length + ys.length ≤ cap
      · -- in place
        have hle : xs.length * e.sz + news.length ≤ cap * e.sz := by
          rw [hnl, ← Nat.add_mul]; exact Nat.mul_le_mul_right _ hfits
        have hrun := run_append_room_any (P := x.P) w (ty := o.type) hti hk hte hu hdu (b := gb) (k := k) (sLen := xs.length) (sCap := cap) (m := ys.length) hh hy (hf w (fun _ => rfl)) h1 hfits (by rw [hsz]; omega)
        rw [hsz] at hrun
        have hgl : (g.L gb).getLast? = some c' := by rw [hLg]; rfl
        have hkn : k + xs.length * e.sz + news.length ≤ cur.toList.length := by simp; omega
        refine finish _ _ none (fun b hb hk' => setRow_other w gb b _ (fun e1 => by subst e1; exact hk' c' hgl ((hkeys c').2 (.inr (.inl hc'))))) (by simp) ⟨rfl, rfl, rfl⟩ (fun b h => by cases h) rfl (hexec hrun) ?_
        refine ⟨xs ++ ys, _, _, _, rfl, rfl, by simp, hfits, hmax, .inr ⟨gb, k, _, rfl, ?_, setRow_heap w gb cur _ e' (0, 0) hh, ?_, fun i v hi => ?_⟩⟩
        · have := hc_lab none (.slice (some ⟨gb, k, none⟩) (xs.length + ys.length) cap) gb [] c' (by simp) hc' (by simpa using hLg)
          simpa using this
        · rw [List.size_toArray, splice_length hkn]; simpa using hsz0
        · rw [List.toList_toArray]
          by_cases hlt' : i < xs.length
          · rw [List.getElem?_append_left hlt'] at hi
            rw [window_miss hkn (by
              left
              have : (i + 1) * e.sz ≤ xs.length * e.sz := Nat.mul_le_mul_right _ (by omega)
              rw [Nat.add_mul] at this
              omega)]
            refine (hall i v hi).frame (fun b' q hb' => ⟨setRow_other w gb b' _ (fun e1 => ?_), ?_⟩)
            · subst e1
              rw [hLg] at hb'
              have := congrArg List.length hb'
              simp at this
            · have := hc_lab none (.slice (some ⟨gb, k, none⟩) (xs.length + ys.length) cap) b' (q ++ [i]) c' (by simp) hc' (by rw [hb']; simp)
              rw [this]; simp
          · rw [List.getElem?_append_right (by omega)] at hi
            have hin : i - xs.length < ys.length := (List.getElem?_eq_some_iff.1 hi).1
            have hn' := hnew (w.setRow gb (cur.toList.take (k + xs.length * e.sz) ++ news ++ cur.toList.drop (k + xs.length * e.sz + news.length)).toArray) _ xs.length [id] (fun d' hd' b q j hb => ⟨setRow_other w gb b _ (fun e1 => by
                subst e1
                rw [hLg] at hb
                have := congrArg List.length hb
                simp at this), hd_lab none (.slice (some ⟨gb, k, none⟩) (xs.length + ys.length) cap) b q j d' (by simp) hd' hb⟩) (i - xs.length) v hi
            have hle2 : (i - xs.length) * e.sz + e.sz ≤ news.length := by
              rw [hnl]
              have : (i - xs.length + 1) * e.sz ≤ ys.length * e.sz := Nat.mul_le_mul_right _ (by omega)
              rw [Nat.add_mul] at this; omega
            have hoff : k + i * e.sz = k + xs.length * e.sz + (i - xs.length) * e.sz := by
              rw [Nat.add_assoc, ← Nat.add_mul]; congr 2; omega
            have hw : ((cur.toList.take (k + xs.length * e.sz) ++ news ++ cur.toList.drop (k + xs.length * e.sz + news.length)).drop (k + i * e.sz)).take e.sz = (news.drop (0 + (i - xs.length) * e.sz)).take e.sz := by
              rw [hoff, List.append_assoc, List.drop_append, List.drop_eq_nil_of_le (by simp; omega), List.nil_append]
              rw [show k + xs.length * e.sz + (i - xs.length) * e.sz - (cur.toList.take (k + xs.length * e.sz)).length = (i - xs.length) * e.sz by simp; omega]
              rw [List.drop_append_of_le_length (by omega), List.take_append_of_le_length (by simp; omega), Nat.zero_add]
            rw [hw]
            rw [show xs.length + (i - xs.length) = i by omega] at hn'
            exact hn'
      · -- growing
        have holds : ∀ w', (∀ b : Nat, w'.heap[b]? = w.heap[b]?) → (Builtin.firstCells te.size xs.length (.slice (some ⟨gb, k, none⟩) xs.length cap)).run x.P w' = .ok ((cur.toList.drop k).take (xs.length * e.sz)).toArray w' := by
          intro w' hw'
          have hl : ((cur.toList.drop k).take (xs.length * e.sz)).length = xs.length * te.size := by
            rw [hsz]
            have : xs.length * e.sz ≤ cap * e.sz := Nat.mul_le_mul_right _ hcap
            simp; omega
          refine run_firstCells_some (P := x.P) w' te.size xs.length ⟨gb, k, none⟩ xs.length cap _ hl (fun j v hj => ?_)
          obtain ⟨hj, _⟩ := take_drop_get hj
          rw [Addr.add_lit, cell_of_row w' gb _ cur e' (0, 0) (by rw [hw']; exact hh)]
          simpa using hj
        have hol : ((cur.toList.drop k).take (xs.length * e.sz)).length = xs.length * e.sz := by
          have : xs.length * e.sz ≤ cap * e.sz := Nat.mul_le_mul_right _ hcap
          simp; omega
        refine grow _ _ _ _ rfl rfl (by omega) hol holds (fun w' L' p hL i v hi => ?_)
        have hin : i < xs.length := (List.getElem?_eq_some_iff.1 hi).1
        have hw : (((cur.toList.drop k).take (xs.length * e.sz)).drop (0 + i * e.sz)).take e.sz = (cur.toList.drop (k + i * e.sz)).take e.sz := by
          have : (i + 1) * e.sz ≤ xs.length * e.sz := Nat.mul_le_mul_right _ (by omega)
          rw [Nat.add_mul] at this
          rw [List.drop_take, List.drop_drop, List.take_take, Nat.min_eq_left (by omega)]
          congr 2; omega
        rw [hw]
        refine (hall i v hi).frame (fun b' q hb' => ?_)
        have := hL c' hc' b' (q ++ [i]) (by rw [hb']; simp)
        exact ⟨this.1, by rw [this.2]; simp⟩

end
end Go.Proofs.YteleedlkdadogaaGreat.Fw
