/- Steps of operations, 7: slices that are made. -/
import Derived.Test.YteleedlkdadogaaGreatFw9
namespace Go.Proofs.YteleedlkdadogaaGreat.Fw
open Go.RowKit

theorem getD_map_const (zc : List Value) (j : Nat) (h : j < zc.length) : (zc.map constCV).getD j .junk = constCV (zc.getD j undef) := by
  simp [List.getD, List.getElem?_eq_getElem h]

/-- n times the zero cells. -/
def zerosCV (z : List CV) (n : Nat) : List CV := (List.range n).map fun j => z.getD (j % z.length) .junk

section
variable {x : Fx} {Γ : G} {ρ : List V} {a : Act} {w : World} {g : Gh} {sl : Nat → SV} {ch : Nat → Option Ch} {o : Oper} {res : Res}

theorem zeros_ok (z : Value) (n : Nat) (hz : 0 < z.cells.size) : cellsOk (CV.ok x w g ρ) (zerosCV (z.cells.toList.map constCV) n) ((Array.range n).map (z.cells[· % z.cells.size]!)).toList := by
  have : zerosCV (z.cells.toList.map constCV) n = ((Array.range n).map (z.cells[· % z.cells.size]!)).toList.map constCV := by
    unfold zerosCV
    rw [Array.toList_map, Array.toList_range, List.map_map]
    apply List.map_congr_left
    intro j _
    have hj : j % z.cells.size < z.cells.size := Nat.mod_lt _ hz
    simp only [List.length_map, Array.length_toList, Function.comp_apply]
    rw [getD_map_const _ _ (by simpa using hj)]
    simp [List.getD, hj]
  rw [this]
  exact cellsOk_const x w g ρ _

theorem window_zeros (z : Array Value) (c i : Nat) (hz : 0 < z.size) (hi : i < c) : ((((Array.range (c * z.size)).map (z[· % z.size]!)).toList.drop (0 + i * z.size)).take z.size) = z.toList := by
  apply List.ext_getElem?
  intro j
  have hle : i * z.size + z.size ≤ c * z.size := by
    have : (i + 1) * z.size ≤ c * z.size := Nat.mul_le_mul_right _ (by omega)
    rw [Nat.add_mul] at this; omega
  rw [List.getElem?_take]
  by_cases hj : j < z.size
  · rw [if_pos hj, List.getElem?_drop, Array.toList_map, Array.toList_range, List.getElem?_map, List.getElem?_range (by omega)]
    have : (0 + i * z.size + j) % z.size = j := by rw [Nat.zero_add, Nat.add_comm, Nat.add_mul_mod_self_right]; exact Nat.mod_eq_of_lt hj
    have hmod : j % z.size = j := Nat.mod_eq_of_lt hj
    simp [hmod, hj]
  · rw [if_neg hj, List.getElem?_eq_none (by simpa using hj)]

/-- The ghosts behind a new block, chunk id's, into which chunks go. -/
def Gh.newMoved (g : Gh) (b id : Nat) (val : Value) (mv : List (Nat × List Nat)) (T : Nat → Bool) : Gh :=
  { L := fun b' => if b' = b then [id] else moveL mv g.L b', io := fun c => if c = id then some val else g.io c, gv := fun c => if T c then g.gv c + 1 else g.gv c }

theorem Fr.allocMoved {id : Nat} {h : Ch} {m : List (Nat × List Nat)} (hm : movesOk id m = true) (h0 : id ≠ 0) (hi : ∀ b, w.heap.size ≤ b → g.L b = []) (hf : g.io id = none) (obj : Obj) (val : Value) (p : List Nat) :
    Fr (keys ((id, h) :: deads m)) w g (w.alloc obj) (g.newMoved w.heap.size id val (m.map fun x => (x.1, x.2 ++ p)) (fun d => (look ((id, h) :: deads m) d).isSome)) := by
  obtain ⟨h1, h2, h3⟩ := movesOk_spec hm
  refine ⟨fun hk => ?_, fun b hb hT => ⟨Below.heap_alloc w obj b hb, ?_⟩, fun c v hc => ?_, fun c hc => ?_, fun c hc => ?_, fun c hc => ?_, by simp, fun b hb => ?_, ⟨rfl, rfl, rfl⟩⟩
  · rcases (keys_cons id h m 0).1 hk with e | ⟨y, hy, he⟩
    · exact h0 e.symm
    · exact h3 y hy he
  · simp only [Gh.newMoved]
    rw [if_neg (by omega)]
    refine moveL_miss (fun d hd => look_none_of (fun y hy e => ?_))
    obtain ⟨z, hz, rfl⟩ := List.mem_map.1 hy
    exact hT d hd ((keys_cons id h m d).2 (.inr ⟨z, hz, e⟩))
  · simp only [Gh.newMoved]
    split
    · rename_i e; subst e; rw [hf] at hc; cases hc
    · exact hc
  · simp only [Gh.newMoved]
    rw [if_neg (fun e => hc ((keys_cons id h m c).2 (.inl e)))]
  · have hc' : ¬ (look ((id, h) :: deads m) c).isSome = true := hc
    simp only [Gh.newMoved]
    rw [if_neg hc']
  · have hc' : (look ((id, h) :: deads m) c).isSome = true := hc
    simp only [Gh.newMoved]
    rw [if_pos hc']; omega
  · simp only [Gh.newMoved]
    simp only [World.size_alloc] at hb
    rw [if_neg (by omega)]
    have := hi b (by omega)
    rw [moveL_miss (by rw [this]; simp), this]

/-- A new slice: a new block of these cells, each element given away to it. -/
theorem good_newslice (hv : Vw x Γ ρ a w g sl ch) {id : Nat} (h0 : id ≠ 0) (hid : ch id = some .fresh) {e : Sh} {et : TypeId} {len cap : Nat} (hlc : len ≤ cap) (hcm : cap ≤ maxLen) {cells : Array Value} (hcs : cap * e.sz ≤ cells.size)
    {ems : List Em} {y : E} {xs : List V} (hy : y.den ρ = some (.l xs)) (hlen : xs.length = len) {m : List (Nat × List Nat)} (hm : movesOk id m = true)
    (hel : ∀ (w' : World) (L' : Nat → List Nat), (∀ d rp, (d, rp) ∈ m → ∀ b q, g.L b = q ++ [d] → w'.heap[b]? = w.heap[b]? ∧ L' b = q ++ (rp ++ [id])) →
      ∀ i v, xs[i]? = some v → Own w' L' e v ((cells.toList.drop (0 + i * e.sz)).take e.sz) (i :: [id]))
    (hr : (execOp a.eval o).run x.P w = .ok (.value (.slice (some ⟨w.heap.size, 0, none⟩) len cap)) (w.alloc (.cells cells et)))
    (hres : res = ⟨ems, (id, .arr 1 e et y) :: deads m, .cv (.own id)⟩) : Good x ρ a w g o res := by
  subst hres
  have hfr : Ch.fresh.ok x w g ρ id := hv.chok hid
  obtain ⟨hm1, hm2, hm3⟩ := movesOk_spec hm
  have f : Fr (keys ((id, Ch.arr 1 e et y) :: deads m)) w g _ _ := Fr.allocMoved (h := Ch.arr 1 e et y) hm h0 hv.rel.high hfr.1 (.cells cells et) (.slice (some ⟨w.heap.size, 0, none⟩) len cap) [id]
  refine good_value hr f (fun c k hl => ?_) ⟨rfl, by simp [Gh.newMoved]⟩
  rcases look_deads hl with ⟨rfl, rfl⟩ | rfl
  · refine ⟨_, _, by simp [Gh.newMoved], hy, ?_, xs, _, len, cap, rfl, rfl, hlen.symm, hlc, hcm, .inr ⟨w.heap.size, 0, cells, rfl, by simp [Gh.newMoved], heap_alloc_new w _, by simpa using hcs, ?_⟩⟩
    · simp only [Gh.newMoved, look_cons_self]
      simp [hfr.2]
    · refine hel _ _ (fun d rp hdm b q hb => ?_)
      have hlt := last_lt (g := g) hv.rel.high (b := b) (c := d) (by rw [hb]; simp)
      refine ⟨Below.heap_alloc w _ b hlt, ?_⟩
      simp only [Gh.newMoved]
      rw [if_neg (by omega)]
      exact moveL_hit hb (moved_hit hm1 [c] hdm)
  · trivial

def stepMake (n id : Nat) (T : Nat → Option TI) (Z : Nat → Option Sh) (sl : Nat → SV) (ch : Nat → Option Ch) (t : TypeId) (l c : Operand) : Option Res :=
  match T t with
  | none => none
  | some ti => match ti.kind with
    | .sl e' => (match T e', Z e', opnd sl l, opnd sl c, ch id with
      | some te, some e, .cv (.sc (.int _) le), .cv (.sc (.int _) ce), some .fresh =>
        if Nat.beq te.size e.sz && !(Nat.beq e.sz 0) && !(Nat.beq id 0) then (match closeEl ch e te.zero with
          | some (ze, []) => some ⟨[.pm (.lmk te.bytes) [le, ce, ze]], [(id, .arr 1 e e' (.v n))], .cv (.own id)⟩
          | _ => none) else none
      | _, _, _, _, _ => none)
    | _ => none

theorem run_makeSlice {P : Program} {t e' : TypeId} {ti te : TI} (h : ti.ok P t) (hk : ti.kind = .sl e') (he : te.ok P e') (hs : te.size ≠ 0) {k1 k2 : IntKind} {n c : Int} (h1 : 0 ≤ n) (h2 : n ≤ c) (h3 : roomFor c.toNat te.bytes) (w : World) :
    ∃ z : Value, z.cells.size = te.size ∧ z.cells.toList.map constCV = te.zero ∧
      (Instr.makeSlice t (.int k1 n) (.int k2 c)).run P w = .ok (.slice (some ⟨w.heap.size, 0, none⟩) n.toNat c.toNat) (w.alloc (.cells ((Array.range (c.toNat * te.size)).map (z.cells[· % z.cells.size]!)) e')) := by
  obtain ⟨i, z, hi, hsz, hb, hz, hz1, hz2, hz3⟩ := he.info
  have hd := h.slice hk
  refine ⟨z, hz1, hz2, ?_⟩
  obtain ⟨h4, h5⟩ := h3
  have hw1 : IntKind.i64.wrap n = n := IntWalk.i64_in n (by omega)
  have hw2 : IntKind.i64.wrap c = c := IntWalk.i64_in c (by omega)
  have hbc : ((te.bytes : Nat) : Int) * c ≤ ((140737488355328 : Nat) : Int) := by
    have hc : ((c.toNat : Nat) : Int) = c := by omega
    have h6 := Int.ofNat_le.2 h5
    rw [Int.natCast_mul, hc, Int.mul_comm] at h6
    exact h6
  have hbn : ((te.bytes : Nat) : Int) * n ≤ ((140737488355328 : Nat) : Int) := Int.le_trans (Int.mul_le_mul_of_nonneg_left h2 (by omega)) hbc
  have h48 : (2 : Int) ^ 48 = 281474976710656 := by decide
  have g1 : ¬ (c < 0 ∨ ((te.bytes : Nat) : Int) * c > 2 ^ 48) := by
    rw [h48]
    intro e; rcases e with e | e
    · omega
    · generalize ((te.bytes : Nat) : Int) * c = q at *; omega
  have g2 : ¬ n < 0 := by omega
  have g3 : ¬ n > c := by omega
  have hty : (typeInfo e').run P w = .ok i w := by simp [typeInfo, hi]
  have hso : ∀ w, (Go.sizeOf e').run P w = .ok te.size w := fun w => he.run_sizeOf w
  have hze : ∀ w, (zeroValue e').run P w = .ok z w := fun w => by simp [zeroValue, typeInfo, hi, hz]
  unfold Instr.makeSlice
  simp only [Sem.run_bind, run_underlying hd, Result.andThen_ok, asInt, asIntOf, Sem.run_pure, hty, hb, hw1, hw2]
  have g1' : (decide (c < 0) || decide (((te.bytes : Nat) : Int) * c > 2 ^ 48)) = false := by
    rw [Bool.or_eq_false_iff, decide_eq_false_iff_not, decide_eq_false_iff_not]
    exact ⟨fun e => g1 (.inl e), fun e => g1 (.inr e)⟩
  simp only [g1', Bool.false_or, Bool.false_eq_true, decide_eq_false g2, decide_eq_false g3, Bool.or_self, if_false, Sem.run_bind, run_askRoom, Result.andThen_ok, hso, Sem.run_pure]
  by_cases hn : c.toNat * te.size = 0
  · have hc0 : c.toNat = 0 := by
      rcases Nat.mul_eq_zero.1 hn with h | h
      · exact h
      · exact absurd h hs
    simp [hn, newRow, hc0, show Array.range 0 = #[] from rfl]
  · simp only [if_neg hn, Sem.run_bind, hze, Result.andThen_ok, Sem.run_pure, newRow, run_newObj]
    rfl

theorem good_make {T : Nat → Option TI} (hT : TabOk x.P T) {Z : Nat → Option Sh} (hv : Vw x Γ ρ a w g sl ch) {C : Nat → List V → List V → Prop} {n id : Nat} {t : TypeId} {l c : Operand} (ho : o.op = .makeSlice t l c)
    (hr : stepMake n id T Z sl ch t l c = some res) (he : EmsOk C ρ n res.ems) : Good x ρ a w g o res := by
  unfold stepMake at hr
  split at hr
  · cases hr
  · rename_i ti hti
    have hti := hT _ _ hti
    split at hr
    · rename_i e' hk
      split at hr
      · rename_i te e k1 le k2 ce hte hz hl hc hid
        have hte := hT _ _ hte
        split at hr
        · rename_i hcond
          simp only [Bool.and_eq_true, Bool.not_eq_true'] at hcond
          have hsz := Nat.eq_of_beq_eq_true hcond.1.1
          have hs0 : e.sz ≠ 0 := by intro e0; rw [e0] at hcond; simp at hcond
          have h0 : id ≠ 0 := by intro e0; subst e0; simp at hcond
          split at hr
          · rename_i ze hcl
            cases hr
            obtain ⟨⟨us, v, hd, hev, hn⟩, _⟩ := he
            obtain ⟨u1, u2, u3, e1, e2, e3, rfl⟩ := denL_three hd
            obtain ⟨vl, hvl, nl, rfl, el⟩ := hv.cv hl
            obtain ⟨vc, hvc, nc, rfl, ec⟩ := hv.cv hc
            rw [hvl] at e1; cases e1
            rw [hvc] at e2; cases e2
            simp only [Pm.ev] at hev
            split at hev
            · rename_i hb
              cases hev
              obtain ⟨z, hz1, hz2, hrun⟩ := run_makeSlice hti hk hte (by omega) (k1 := k1) (k2 := k2) hb.1 hb.2.1 hb.2.2 w
              have hzc : cellsOk (CV.ok x w g ρ) te.zero z.cells.toList := by rw [← hz2]; exact cellsOk_const x w g ρ _
              obtain ⟨vz, hvz, hown⟩ := closeEl_ok hv hzc hcl
              rw [hvz] at e3; cases e3
              refine good_newslice hv h0 hid (m := []) (len := nl.toNat) (cap := nc.toNat) (cells := (Array.range (nc.toNat * te.size)).map (z.cells[· % z.cells.size]!)) (xs := List.replicate nl.toNat u3) (by omega) (by have := hb.2.2.1; simp only [maxLen]; omega) ?_ (y := .v n) hn (by simp) rfl (fun w' L' hm i v hi => ?_) ?_ rfl
              · simp [hsz]
              · have hin : i < nl.toNat := by have := (List.getElem?_eq_some_iff.1 hi).1; simpa using this
                rw [List.getElem?_replicate, if_pos hin] at hi
                cases hi
                have := hown w' L' (i :: [id]) (fun d rp hd => by simp at hd)
                rw [← hsz, ← hz1, window_zeros z.cells nc.toNat i (by omega) (by omega)]
                exact this
              · simp only [execOp, ho, el, ec]
                simp [hrun]
            · cases hev
          · cases hr
        · cases hr
      · cases hr
    · cases hr

/-- Each element of a row of cells, given away. -/
def closeEls (ch : Nat → Option Ch) (e : Sh) : Nat → Nat → List CV → Option (List E × List (Nat × List Nat))
  | 0, _, _ => some ([], [])
  | k + 1, i, cs => match closeEl ch e (cs.take e.sz), closeEls ch e k (i + 1) (cs.drop e.sz) with
    | some (y, m), some (ys, m') => some (y :: ys, m.map (fun d => (d.1, d.2 ++ [i])) ++ m')
    | _, _ => none

theorem closeEls_ok (hv : Vw x Γ ρ a w g sl ch) {e : Sh} : ∀ {k i : Nat} {cs : List CV} {vals : List Value}, cellsOk (CV.ok x w g ρ) cs vals → ∀ {ys : List E} {m : List (Nat × List Nat)}, closeEls ch e k i cs = some (ys, m) →
    ys.length = k ∧ ∃ vs, denL ρ ys = some vs ∧ ∀ (w' : World) (L' : Nat → List Nat) (p : List Nat), (∀ d rp, (d, rp) ∈ m → ∀ b q, g.L b = q ++ [d] → w'.heap[b]? = w.heap[b]? ∧ L' b = q ++ (rp ++ p)) →
      ∀ j v, vs[j]? = some v → Own w' L' e v ((vals.drop (j * e.sz)).take e.sz) ((i + j) :: p)
  | 0, i, cs, vals, hc, ys, m, h => by
    simp only [closeEls, Option.some.injEq, Prod.mk.injEq] at h
    obtain ⟨rfl, rfl⟩ := h
    exact ⟨rfl, [], rfl, fun _ _ _ _ j v hj => by simp at hj⟩
  | k + 1, i, cs, vals, hc, ys, m, h => by
    simp only [closeEls] at h
    split at h
    · rename_i y m1 ys' m2 h1 h2
      cases h
      obtain ⟨v, hy, how⟩ := closeEl_ok hv (hc.take e.sz) h1
      obtain ⟨hlen, vs, hvs, hrest⟩ := closeEls_ok hv (hc.drop e.sz) h2
      refine ⟨by simp [hlen], v :: vs, by simp [denL, hy, hvs], fun w' L' p hm j v' hj => ?_⟩
      cases j with
      | zero =>
        simp at hj; subst hj
        have := how w' L' (i :: p) (fun d rp hd b q hb => by
          have := hm d (rp ++ [i]) (List.mem_append_left _ (List.mem_map.2 ⟨(d, rp), hd, rfl⟩)) b q hb
          simpa using this)
        simpa using this
      | succ j =>
        have := hrest w' L' p (fun d rp hdm b q hb => hm d rp (List.mem_append_right _ hdm) b q hb) j v' (by simpa using hj)
        rw [List.drop_drop] at this
        rw [show (j + 1) * e.sz = e.sz + j * e.sz by rw [Nat.add_mul]; omega, show i + (j + 1) = i + 1 + j by omega]
        exact this
    · cases h

def stepBuildSlice (n id : Nat) (T : Nat → Option TI) (Z : Nat → Option Sh) (sl : Nat → SV) (ch : Nat → Option Ch) (t : TypeId) (len : Nat) (parts : List (Nat × Operand)) : Option Res :=
  match T t with
  | none => none
  | some ti => match ti.kind with
    | .sl e' => (match T e', Z e', ch id with
      | some te, some e, some .fresh =>
        if Nat.beq te.size e.sz && !(Nat.beq e.sz 0) && !(Nat.beq id 0) then
          (if Nat.beq len 0 then (match parts with
            | [] => some ⟨[], [(id, .arr 1 e e' .kl)], .cv (.own id)⟩
            | _ => none)
          else if Nat.ble (len * te.size) 16777216 then
            (match fillCV (fun i => some (i * te.size, te.size)) (zerosCV te.zero (len * te.size)) (parts.map fun (i, y) => (i, opnd sl y)) with
            | some cs => (match closeEls ch e len 0 cs with
              | some (ys, m) => if movesOk id m then some ⟨[.pm .lits ys], (id, .arr 1 e e' (.v n)) :: deads m, .cv (.own id)⟩ else none
              | none => none)
            | none => none)
          else none)
        else none
      | _, _, _ => none)
    | _ => none

theorem fillCV_length {place : Nat → Option (Nat × Nat)} : ∀ {parts : List (Nat × SV)} {cells out : List CV}, fillCV place cells parts = some out → out.length = cells.length
  | [], cells, out, h => by simp only [fillCV, Option.some.injEq] at h; rw [h]
  | (i, s) :: parts, cells, out, h => by
    simp only [fillCV] at h
    split at h
    · rename_i off size cs hp hcs
      split at h
      · rename_i hb
        simp only [Bool.and_eq_true] at hb
        have h1 := Nat.eq_of_beq_eq_true hb.1
        have h2 := Nat.le_of_ble_eq_true hb.2
        rw [fillCV_length h, ← h1]
        exact splice_length (by omega)
      · cases h
    · cases h

theorem good_buildSlice {T : Nat → Option TI} (hT : TabOk x.P T) {Z : Nat → Option Sh} (hv : Vw x Γ ρ a w g sl ch) {C : Nat → List V → List V → Prop} {n id : Nat} {t : TypeId} {len : Nat} {parts : Array (Nat × Operand)} (ho : o.op = .buildSlice t len parts)
    (hr : stepBuildSlice n id T Z sl ch t len parts.toList = some res) (he : EmsOk C ρ n res.ems) : Good x ρ a w g o res := by
  unfold stepBuildSlice at hr
  split at hr
  · cases hr
  · rename_i ti hti
    have hti := hT _ _ hti
    split at hr
    · rename_i e' hk
      have hd := hti.slice hk
      split at hr
      · rename_i te e hte hz hid
        have hte := hT _ _ hte
        split at hr
        · rename_i hcond
          simp only [Bool.and_eq_true, Bool.not_eq_true'] at hcond
          have hsz := Nat.eq_of_beq_eq_true hcond.1.1
          have hs0 : e.sz ≠ 0 := by intro e0; rw [e0] at hcond; simp at hcond
          have h0 : id ≠ 0 := by intro e0; subst e0; simp at hcond
          obtain ⟨i, z, hi, his, _, hzz, hz1, hz2, _⟩ := hte.info
          split at hr
          · rename_i hl0
            have hl0 := Nat.eq_of_beq_eq_true hl0
            subst hl0
            split at hr
            · rename_i hp
              cases hr
              refine good_newslice hv h0 hid (m := []) (len := 0) (cap := 0) (cells := #[]) (xs := []) (Nat.le_refl _) (by simp) (by simp) rfl rfl rfl (fun w' L' hm i v hi => by simp at hi) ?_ rfl
              have hpp : parts = #[] := by simpa using hp
              subst hpp
              simp only [execOp, ho]
              simp [Instr.buildSlice, run_underlying hd, sizeOf, typeInfo, hi, Instr.fill, newRow, show Array.range 0 = #[] from rfl]
            · cases hr
          · rename_i hl0
            split at hr
            · rename_i hsm
              have hsm := Nat.le_of_ble_eq_true hsm
              have hlen0 : len ≠ 0 := by intro e0; subst e0; simp at hl0
              split at hr
              · rename_i cs hf
                split at hr
                · rename_i ys m hcl
                  split at hr
                  · rename_i hmv
                    cases hr
                    obtain ⟨⟨us, v, hdn, hev, hn⟩, _⟩ := he
                    have hzz' := zeros_ok (x := x) (w := w) (g := g) (ρ := ρ) z (len * te.size) (by omega)
                    rw [hz2] at hzz'
                    obtain ⟨vs', hfill, hok⟩ := fill_ok hv hzz' hf
                    have hvl : vs'.size = len * te.size := by
                      have h1 := hok.length
                      have h2 := fillCV_length hf
                      simp only [Array.length_toList] at h1
                      rw [← h1, h2]; simp [zerosCV]
                    obtain ⟨hyl, vs, hvs, hown⟩ := closeEls_ok hv hok hcl
                    rw [hvs] at hdn
                    have hdn := Option.some.inj hdn
                    subst hdn
                    simp only [Pm.ev, Option.some.injEq] at hev
                    subst hev
                    refine good_newslice hv h0 hid (m := m) (len := len) (cap := len) (cells := vs') (xs := vs) (Nat.le_refl _) ?_ (by rw [hvl, hsz]; exact Nat.le_refl _) (y := .v n) hn (by rw [denL_length hvs, hyl]) hmv (fun w' L' hm j v hj => ?_) ?_ rfl
                    · have : len ≤ len * te.size := Nat.le_mul_of_pos_right _ (by omega)
                      simp only [maxLen]; omega
                    · have := hown w' L' [id] hm j v hj
                      simpa using this
                    · simp only [execOp, ho]
                      have h24 : (2 : Nat) ^ 24 = 16777216 := by decide
                      have hpos : ¬ len * i.size = 0 := by rw [his]; intro h; rcases Nat.mul_eq_zero.1 h with h | h <;> omega
                      have hrun := run_buildSlice (P := x.P) w t e' len (parts.map fun (i, y) => (i, a.eval y)) vs' i z hd hi hzz (by rw [his, h24]; omega) hpos (by rw [his, ← hfill]; simp)
                      simp [hrun]
                  · cases hr
                · cases hr
              · cases hr
            · cases hr
        · cases hr
      · cases hr
    · cases hr

end
end Go.Proofs.YteleedlkdadogaaGreat.Fw
