/- Steps of operations, 4: parts of strings and slices; structs put together; bytes to strings. -/
import Derived.Test.YteleedlkdadogaaGreatFw6
import Derived.Laws.BytesString
namespace Go.Proofs.YteleedlkdadogaaGreat.Fw
open Go.RowKit

section
variable {x : Fx} {Γ : G} {ρ : List V} {a : Act} {w : World} {g : Gh} {sl : Nat → SV} {ch : Nat → Option Ch} {o : Oper} {res : Res}

/-- The bounds of x[lo:hi]: what is computed ahead, and the two bounds. -/
def boundLo (sl : Nat → SV) : Option Operand → Option E
  | none => some (.ki 0)
  | some y => match opnd sl y with
    | .cv (.sc (.int _) e) => some e
    | _ => none

def boundHi (sl : Nat → SV) : Option Operand → Option (Option E)
  | none => some none
  | some y => match opnd sl y with
    | .cv (.sc (.int _) e) => some (some e)
    | _ => none

def stepSlice (n : Nat) (T : Nat → Option TI) (sl : Nat → SV) (ch : Nat → Option Ch) (t : TypeId) (y : Operand) (lo hi mx : Option Operand) : Option Res :=
  match mx with
  | some _ => none
  | none => match T t, boundLo sl lo, boundHi sl hi with
    | some ti, some l, some h =>
      (match ti.kind with
      | .str => (match opnd sl y with
        | .cv (.sc .str e) => (match h with
          | some h => some ⟨[.pm .ssub [e, l, h]], [], .cv (.sc .str (.v n))⟩
          | none => some ⟨[.pm .slen [e], .pm .ssub [e, l, .v n]], [], .cv (.sc .str (.v (n + 1)))⟩)
        | _ => none)
      | .sl e' => (match T e' with
        | some te => (match opnd sl y with
          | .cv (.rd src e et q) => if liveIn ch src && Nat.beq te.size e.sz then (match h with
            | some h => some ⟨[.pm .lsub [q, l, h]], [], .cv (.rd src e et (.v n))⟩
            | none => some ⟨[.pm .llen [q], .pm .lsub [q, l, .v n]], [], .cv (.rd src e et (.v (n + 1)))⟩) else none
          | .cv (.own c) => (match ch c with
            | some (.arr ver e et q) => if Nat.beq te.size e.sz then (match h with
              | some h => some ⟨[.pm .lsub [q, l, h]], [], .cv (.rd (.ch c ver) e et (.v n))⟩
              | none => some ⟨[.pm .llen [q], .pm .lsub [q, l, .v n]], [], .cv (.rd (.ch c ver) e et (.v (n + 1)))⟩) else none
            | _ => none)
          | _ => none)
        | none => none)
      | _ => none)
    | _, _, _ => none

theorem run_sliceBound_in (P : Program) (k : IntKind) (i : Int) (y : Nat) (code : BoundsCode) (h : 0 ≤ i ∧ i ≤ y) (w : World) : (Instr.sliceBound (.int k i) y code).run P w = .ok i.toNat w := by
  simp [Instr.sliceBound, asIntOf, h]

theorem run_sliceBounds_in (P : Program) (isS : Bool) (len cap : Nat) (lo hi : Option Value) (l h : Nat) (hlo : match lo with | none => l = 0 | some v => ∃ k, v = .int k (l : Int))
    (hhi : match hi with | none => h = len | some v => ∃ k, v = .int k (h : Int)) (h1 : l ≤ h) (h2 : h ≤ len) (h3 : len ≤ cap) (w : World) :
    (Instr.sliceBounds isS len cap lo hi none).run P w = .ok (l, h, cap) w := by
  unfold Instr.sliceBounds
  cases lo with
  | none => cases hi with
    | none => simp only at hlo hhi; subst hlo hhi; simp
    | some v => simp only at hlo hhi; subst hlo; obtain ⟨k, rfl⟩ := hhi; simp [run_sliceBound_in P k h cap _ (by omega)]
  | some u => cases hi with
    | none =>
      simp only at hlo hhi; subst hhi; obtain ⟨k, rfl⟩ := hlo
      simp [run_sliceBound_in P k l h _ (by omega)]
    | some v =>
      simp only at hlo hhi; obtain ⟨k, rfl⟩ := hlo; obtain ⟨k', rfl⟩ := hhi
      simp [run_sliceBound_in P k l h _ (by omega), run_sliceBound_in P k' h cap _ (by omega)]

theorem boundLo_ok (hv : Vw x Γ ρ a w g sl ch) {lo : Option Operand} {e : E} (h : boundLo sl lo = some e) {l : Nat} (he : e.den ρ = some (.i l)) :
    match lo.map a.eval with | none => l = 0 | some v => ∃ k, v = .int k (l : Int) := by
  cases lo with
  | none => simp only [boundLo, Option.some.injEq] at h; subst h; simp [E.den] at he; simp; omega
  | some y =>
    simp only [boundLo] at h
    split at h
    · rename_i k e' hy
      cases h
      obtain ⟨v, hvv, m, rfl, ey⟩ := hv.cv hy
      rw [he] at hvv; cases hvv
      exact ⟨k, ey⟩
    · cases h

theorem boundHi_ok (hv : Vw x Γ ρ a w g sl ch) {hi : Option Operand} {e : E} (h : boundHi sl hi = some (some e)) {l : Nat} (he : e.den ρ = some (.i l)) (len : Nat) :
    match hi.map a.eval with | none => l = len | some v => ∃ k, v = .int k (l : Int) := by
  cases hi with
  | none => cases h
  | some y =>
    simp only [boundHi] at h
    split at h
    · rename_i k e' hy
      cases h
      obtain ⟨v, hvv, m, rfl, ey⟩ := hv.cv hy
      rw [he] at hvv; cases hvv
      exact ⟨k, ey⟩
    · cases h

theorem boundHi_none {hi : Option Operand} (h : boundHi sl hi = some none) : hi = none := by
  cases hi with
  | none => rfl
  | some y => simp only [boundHi] at h; split at h <;> cases h

theorem subL_some {α : Type} {xs ys : List α} {lo hi : Int} (h : subL xs lo hi = some ys) : ∃ l m : Nat, lo = l ∧ hi = m ∧ l ≤ m ∧ m ≤ xs.length ∧ ys = (xs.take m).drop l := by
  unfold subL at h
  split at h
  · rename_i hc; cases h; exact ⟨lo.toNat, hi.toNat, by omega, by omega, by omega, by omega, rfl⟩
  · cases h

theorem exec_slice {t : TypeId} {y : Operand} {lo hi : Option Operand} (ho : o.op = .slice t y lo hi none) {d : TypeDesc} (hd : x.P.underlying t = some d) (hna : ∀ n e, d ≠ .array n e) {v' val : Value} (hy : a.eval y = v')
    (h : (Instr.slice t v' (lo.map a.eval) (hi.map a.eval) none).run x.P w = .ok val w) : (execOp a.eval o).run x.P w = .ok (.value val) w := by
  simp only [execOp, ho, hy]
  have : (Instr.sliceAt t v' (lo.map a.eval) (hi.map a.eval) (none.map a.eval)).run x.P w = .ok val w := by
    unfold Instr.sliceAt
    simp only [Sem.run_bind, run_underlying hd, Result.andThen_ok, Option.map_none]
    cases d <;> first | exact h | exact absurd rfl (hna _ _)
  simp only [Option.map_none] at this
  simp [this]

theorem run_slice_str (P : Program) {t : TypeId} (hd : P.underlying t = some .string) (s : List UInt8) (lo hi : Option Value) (l h : Nat) (hlo : match lo with | none => l = 0 | some v => ∃ k, v = .int k (l : Int))
    (hhi : match hi with | none => h = s.length | some v => ∃ k, v = .int k (h : Int)) (h1 : l ≤ h) (h2 : h ≤ s.length) (w : World) :
    (Instr.slice t (.string ⟨s.toArray⟩) lo hi none).run P w = .ok (.string ⟨((s.take h).drop l).toArray⟩) w := by
  have hb := run_sliceBounds_in P false s.length s.length lo hi l h hlo hhi h1 h2 (Nat.le_refl _) w
  have hsz : (ByteArray.mk s.toArray).size = s.length := by simp [ByteArray.size]
  unfold Instr.slice
  simp only [Sem.run_bind, run_underlying hd, Result.andThen_ok, hsz]
  simp only [Option.isSome_none, Bool.false_eq_true, if_false, Sem.run_bind, Sem.run_pure, Result.andThen_ok, hb]
  congr 2
  apply ByteArray.ext
  rw [ByteArray.data_extract]
  simp [List.extract_eq_take_drop, List.drop_take]

theorem run_slice_sl (P : Program) {t e' : TypeId} {te : TI} (hd : P.underlying t = some (.slice e')) (hte : te.ok P e') (ad : Option Addr) (len cap : Nat) (lo hi : Option Value) (l h : Nat)
    (hlo : match lo with | none => l = 0 | some v => ∃ k, v = .int k (l : Int)) (hhi : match hi with | none => h = len | some v => ∃ k, v = .int k (h : Int)) (h1 : l ≤ h) (h2 : h ≤ len) (h3 : len ≤ cap) (w : World) :
    (Instr.slice t (.slice ad len cap) lo hi none).run P w = .ok (.slice (if cap = l then ad else ad.map (·.add (l * te.size))) (h - l) (cap - l)) w := by
  have hb := run_sliceBounds_in P true len cap lo hi l h hlo hhi h1 h2 h3 w
  unfold Instr.slice
  simp only [Sem.run_bind, run_underlying hd, Result.andThen_ok, hb, hte.run_sizeOf, Sem.run_pure]

theorem get_take_drop {α : Type} {xs : List α} {l h i : Nat} {v : α} (hi : ((xs.take h).drop l)[i]? = some v) : xs[l + i]? = some v ∧ l + i < h := by
  rw [List.getElem?_drop, List.getElem?_take] at hi
  split at hi
  · exact ⟨hi, by assumption⟩
  · cases hi

/-- Part of a slice that can be read can be read. -/
theorem Rd.part {S : Nat → Prop} {e : Sh} {et : TypeId} {xs : List V} {ad : Option Addr} {len cap : Nat} (hr : Rd w S (.sl e et) (.l xs) [.slice ad len cap]) {l h s : Nat} (h1 : l ≤ h) (h2 : h ≤ len) (hs : s = e.sz) :
    Rd w S (.sl e et) (.l ((xs.take h).drop l)) [.slice (if cap = l then ad else ad.map (·.add (l * s))) (h - l) (cap - l)] := by
  subst hs
  obtain ⟨xs', ad', len', cap', hx, hc, hl, h3, h4, h5, h6⟩ := hr
  cases hx
  simp only [List.cons.injEq, Value.slice.injEq, and_true] at hc
  obtain ⟨rfl, rfl, rfl⟩ := hc
  refine ⟨_, _, _, _, rfl, rfl, by simp; omega, by omega, by omega, fun e0 => ?_, ?_⟩
  · split at e0
    · omega
    · rename_i hne
      cases ad with
      | none => have := h5 rfl; omega
      | some _ => simp at e0
  · rcases h6 with h6 | ⟨gb, k, ha, hS, hel⟩
    · subst h6; exact .inl (by simp)
    · subst ha
      by_cases hcl : cap = l
      · left
        have : h - l = 0 := by omega
        apply List.eq_nil_of_length_eq_zero
        simp; omega
      · right
        refine ⟨gb, k + l * e.sz, by simp [hcl, Addr.add_lit], hS, fun i v hi => ?_⟩
        obtain ⟨hi, _⟩ := get_take_drop hi
        obtain ⟨ds, hdl, hcell, hrd⟩ := hel _ _ hi
        refine ⟨ds, hdl, fun j d hj => ?_, hrd⟩
        rw [← hcell j d hj]
        congr 2
        rw [Nat.add_mul]; omega

theorem good_slice {T : Nat → Option TI} (hT : TabOk x.P T) (hv : Vw x Γ ρ a w g sl ch) {C : Nat → List V → List V → Prop} {n : Nat} {t : TypeId} {y : Operand} {lo hi mx : Option Operand} (ho : o.op = .slice t y lo hi mx)
    (hr : stepSlice n T sl ch t y lo hi mx = some res) (he : EmsOk C ρ n res.ems) : Good x ρ a w g o res := by
  unfold stepSlice at hr
  split at hr
  · cases hr
  · split at hr
    · rename_i ti l hh hti hlo hhi
      have hti := hT _ _ hti
      split at hr
      · rename_i hk
        have hd := hti.string hk
        split at hr
        · rename_i e hy
          obtain ⟨vy, hvy, s, rfl, ey⟩ := hv.cv hy
          have hna : ∀ (n : Nat) (e : TypeId), TypeDesc.string ≠ .array n e := fun _ _ h => by cases h
          split at hr
          · rename_i h
            cases hr
            obtain ⟨⟨vs, v, hd', hev, hn⟩, _⟩ := he
            obtain ⟨u1, u2, u3, e1, e2, e3, rfl⟩ := denL_three hd'
            rw [hvy] at e1; cases e1
            cases u2 <;> simp only [Pm.ev, reduceCtorEq] at hev
            cases u3 <;> simp only [reduceCtorEq] at hev
            simp only [Option.map_eq_some_iff] at hev
            obtain ⟨ys, hsub, rfl⟩ := hev
            obtain ⟨l', m, rfl, rfl, hlm, hms, rfl⟩ := subL_some hsub
            exact good_pure hv (exec_slice ho hd hna ey (run_slice_str x.P hd s _ _ l' m (boundLo_ok hv hlo e2) (boundHi_ok hv hhi e3 _) hlm hms w)) rfl ⟨_, hn, _, rfl, rfl⟩
          · cases hr
            obtain ⟨⟨vs0, v0, hd0, hev0, hn0⟩, ⟨vs, v, hd', hev, hn⟩, _⟩ := he
            obtain ⟨u0, e0, rfl⟩ := denL_one hd0
            rw [hvy] at e0; cases e0
            cases hev0
            obtain ⟨u1, u2, u3, e1, e2, e3, rfl⟩ := denL_three hd'
            rw [hvy] at e1; cases e1
            simp only [E.den] at e3
            rw [hn0] at e3; cases e3
            cases u2 <;> simp only [Pm.ev, reduceCtorEq] at hev
            simp only [Option.map_eq_some_iff] at hev
            obtain ⟨ys, hsub, rfl⟩ := hev
            obtain ⟨l', m, rfl, hm, hlm, hms, rfl⟩ := subL_some hsub
            have hm' : s.length = m := by omega
            subst hm'
            have hno := boundHi_none hhi
            subst hno
            exact good_pure hv (exec_slice ho hd hna ey (run_slice_str x.P hd s _ _ l' s.length (boundLo_ok hv hlo e2) rfl hlm hms w)) rfl ⟨_, hn, _, rfl, rfl⟩
        · cases hr
      · rename_i e' hk
        have hd := hti.slice hk
        have hna : ∀ (n : Nat) (e : TypeId), TypeDesc.slice e' ≠ .array n e := fun _ _ h => by cases h
        split at hr
        · rename_i te hte
          have hte := hT _ _ hte
          split at hr
          · rename_i src e et q hy
            split at hr
            · rename_i hc
              simp only [Bool.and_eq_true] at hc
              have hl := liveIn_ok hv hc.1
              have hsz := Nat.eq_of_beq_eq_true hc.2
              obtain ⟨_, hp, hb⟩ := hv.cv hy
              obtain ⟨vq, hq, hrd⟩ := hb hl.2
              have hrd0 := hrd
              obtain ⟨xs, ad, len, cap, rfl, hcs, hlen, hcap, _⟩ := hrd
              have ey : a.eval y = .slice ad len cap := by simpa using hcs
              rw [ey] at hrd0
              split at hr
              · rename_i h
                cases hr
                obtain ⟨⟨vs, v, hd', hev, hn⟩, _⟩ := he
                obtain ⟨u1, u2, u3, e1, e2, e3, rfl⟩ := denL_three hd'
                rw [hq] at e1; cases e1
                cases u2 <;> simp only [Pm.ev, reduceCtorEq] at hev
                cases u3 <;> simp only [reduceCtorEq] at hev
                simp only [Option.map_eq_some_iff] at hev
                obtain ⟨ys, hsub, rfl⟩ := hev
                obtain ⟨l', m, rfl, rfl, hlm, hms, rfl⟩ := subL_some hsub
                refine good_pure hv (exec_slice ho hd hna ey (run_slice_sl x.P hd hte ad len cap _ _ l' m (boundLo_ok hv hlo e2) (boundHi_ok hv hhi e3 _) hlm (by omega) hcap w)) rfl ⟨rfl, hp, fun _ => ⟨_, hn, hrd0.part hlm (by omega) hsz⟩⟩
              · cases hr
                obtain ⟨⟨vs0, v0, hd0, hev0, hn0⟩, ⟨vs, v, hd', hev, hn⟩, _⟩ := he
                obtain ⟨u0, e0, rfl⟩ := denL_one hd0
                rw [hq] at e0; cases e0
                cases hev0
                obtain ⟨u1, u2, u3, e1, e2, e3, rfl⟩ := denL_three hd'
                rw [hq] at e1; cases e1
                simp only [E.den] at e3
                rw [hn0] at e3; cases e3
                cases u2 <;> simp only [Pm.ev, reduceCtorEq] at hev
                simp only [Option.map_eq_some_iff] at hev
                obtain ⟨ys, hsub, rfl⟩ := hev
                obtain ⟨l', m, rfl, hm, hlm, hms, rfl⟩ := subL_some hsub
                have hm' : len = m := by omega
                subst hm'
                have hno := boundHi_none hhi
                subst hno
                exact good_pure hv (exec_slice ho hd hna ey (run_slice_sl x.P hd hte ad len cap _ _ l' len (boundLo_ok hv hlo e2) rfl hlm (Nat.le_refl _) hcap w)) rfl ⟨rfl, hp, fun _ => ⟨_, hn, hrd0.part hlm (Nat.le_refl _) hsz⟩⟩
            · cases hr
          · rename_i c hy
            split at hr
            · rename_i ver e et q hcc
              split at hr
              · rename_i hsz
                have hsz := Nat.eq_of_beq_eq_true hsz
                obtain ⟨_, hio⟩ := hv.cv hy
                have hck := hv.rel.chunks c
                rw [hv.ch _ _ hcc] at hck
                obtain ⟨vq, val', hio', hq, hgv, how⟩ := hck
                rw [hio] at hio'; cases hio'
                have hlv : (Src.ch c ver).live g := hgv
                have hp : (Src.ch c ver).past g := by simp [Src.past, hgv]
                have hrd : Rd w ((Src.ch c ver).S x g) (.sl e et) vq [a.eval y] := how.rd (S := (Src.ch c ver).S x g) (fun b q hb => by simp only [Src.S]; rw [hb]; simp)
                have hrd0 := hrd
                obtain ⟨xs, ad, len, cap, rfl, hcs, hlen, hcap, _⟩ := hrd
                have ey : a.eval y = .slice ad len cap := by simpa using hcs
                rw [ey] at hrd0
                split at hr
                · rename_i h
                  cases hr
                  obtain ⟨⟨vs, v, hd', hev, hn⟩, _⟩ := he
                  obtain ⟨u1, u2, u3, e1, e2, e3, rfl⟩ := denL_three hd'
                  rw [hq] at e1; cases e1
                  cases u2 <;> simp only [Pm.ev, reduceCtorEq] at hev
                  cases u3 <;> simp only [reduceCtorEq] at hev
                  simp only [Option.map_eq_some_iff] at hev
                  obtain ⟨ys, hsub, rfl⟩ := hev
                  obtain ⟨l', m, rfl, rfl, hlm, hms, rfl⟩ := subL_some hsub
                  exact good_pure hv (exec_slice ho hd hna ey (run_slice_sl x.P hd hte ad len cap _ _ l' m (boundLo_ok hv hlo e2) (boundHi_ok hv hhi e3 _) hlm (by omega) hcap w)) rfl ⟨rfl, hp, fun _ => ⟨_, hn, hrd0.part hlm (by omega) hsz⟩⟩
                · cases hr
                  obtain ⟨⟨vs0, v0, hd0, hev0, hn0⟩, ⟨vs, v, hd', hev, hn⟩, _⟩ := he
                  obtain ⟨u0, e0, rfl⟩ := denL_one hd0
                  rw [hq] at e0; cases e0
                  cases hev0
                  obtain ⟨u1, u2, u3, e1, e2, e3, rfl⟩ := denL_three hd'
                  rw [hq] at e1; cases e1
                  simp only [E.den] at e3
                  rw [hn0] at e3; cases e3
                  cases u2 <;> simp only [Pm.ev, reduceCtorEq] at hev
                  simp only [Option.map_eq_some_iff] at hev
                  obtain ⟨ys, hsub, rfl⟩ := hev
                  obtain ⟨l', m, rfl, hm, hlm, hms, rfl⟩ := subL_some hsub
                  have hm' : len = m := by omega
                  subst hm'
                  have hno := boundHi_none hhi
                  subst hno
                  exact good_pure hv (exec_slice ho hd hna ey (run_slice_sl x.P hd hte ad len cap _ _ l' len (boundLo_ok hv hlo e2) rfl hlm (Nat.le_refl _) hcap w)) rfl ⟨rfl, hp, fun _ => ⟨_, hn, hrd0.part hlm (Nat.le_refl _) hsz⟩⟩
              · cases hr
            · cases hr
          · cases hr
        · cases hr
      · cases hr
    · cases hr

/-- Parts laid into a row of cells. -/
def fillCV (place : Nat → Option (Nat × Nat)) : List CV → List (Nat × SV) → Option (List CV)
  | cells, [] => some cells
  | cells, (i, s) :: rest => match place i, cellsOf s with
    | some (off, size), some cs => if Nat.beq cs.length size && Nat.ble (off + size) cells.length then fillCV place (cells.take off ++ cs ++ cells.drop (off + size)) rest else none
    | _, _ => none

theorem foldl_set (off : Nat) : ∀ (vs : List Value) (k : Nat) (cells : Array Value), off + k + vs.length ≤ cells.size →
    (vs.zipIdx k).foldl (fun cs (c, j) => cs.setIfInBounds (off + j) c) cells = (cells.toList.take (off + k) ++ vs ++ cells.toList.drop (off + k + vs.length)).toArray
  | [], k, cells, _ => by simp
  | v :: vs, k, cells, h => by
    simp only [List.length_cons] at h
    simp only [List.zipIdx_cons, List.foldl_cons]
    rw [foldl_set off vs (k + 1) _ (by simp; omega)]
    congr 1
    have e := list_seg_step cells.toList (off + k) v vs (by simp; omega)
    simpa [Array.toList_setIfInBounds, Nat.add_assoc] using e

theorem fill_ok (hv : Vw x Γ ρ a w g sl ch) {place : Nat → Option (Nat × Nat)} : ∀ {parts : List (Nat × Operand)} {cells : List CV} {vs : Array Value} {out : List CV}, cellsOk (CV.ok x w g ρ) cells vs.toList →
    fillCV place cells (parts.map fun (i, y) => (i, opnd sl y)) = some out →
    ∃ vs', Instr.fill place vs (parts.map fun (i, y) => (i, a.eval y)) = some vs' ∧ cellsOk (CV.ok x w g ρ) out vs'.toList
  | [], cells, vs, out, hc, h => by
    simp only [List.map_nil, fillCV, Option.some.injEq] at h
    subst h
    exact ⟨vs, rfl, hc⟩
  | (i, y) :: parts, cells, vs, out, hc, h => by
    simp only [List.map_cons, fillCV] at h
    split at h
    · rename_i off size cs hp hcs
      split at h
      · rename_i hb
        simp only [Bool.and_eq_true] at hb
        have h1 := Nat.eq_of_beq_eq_true hb.1
        have h2 := Nat.le_of_ble_eq_true hb.2
        have hcv := cellsOf_ok (hv.opnd y) hcs
        have hl1 := hcv.length
        have hl2 := hc.length
        simp only [Array.length_toList] at hl1 hl2
        have hf := foldl_set off (a.eval y).cells.toList 0 vs (by simp; omega)
        simp only [Nat.add_zero, Array.length_toList] at hf
        obtain ⟨vs', h3, h4⟩ := fill_ok hv (parts := parts) (vs := (vs.toList.take off ++ (a.eval y).cells.toList ++ vs.toList.drop (off + (a.eval y).cells.size)).toArray)
          (cells := cells.take off ++ cs ++ cells.drop (off + size)) (by rw [show off + size = off + (a.eval y).cells.size by omega]; simpa using ((hc.take off).append hcv).append (hc.drop (off + (a.eval y).cells.size))) h
        refine ⟨vs', ?_, h4⟩
        simp only [List.map_cons, Instr.fill, hp]
        rw [if_neg (by simp; omega)]
        have hz : ((a.eval y).cells.zipIdx.foldl (fun cs (c, j) => cs.setIfInBounds (off + j) c) vs) = (vs.toList.take off ++ (a.eval y).cells.toList ++ vs.toList.drop (off + (a.eval y).cells.size)).toArray := by
          rw [← hf, ← Array.foldl_toList]
          congr 1
          simp
        rw [hz]
        exact h3
      · cases h
    · cases h

def stepBuild (T : Nat → Option TI) (sl : Nat → SV) (t : TypeId) (parts : List (Nat × Operand)) : Option Res :=
  match T t with
  | none => none
  | some ti => match ti.kind with
    | .st fs => (match fillCV (fun i => fs[i]?) ti.zero (parts.map fun (i, y) => (i, opnd sl y)) with
      | some cs => some ⟨[], [], .agg cs⟩
      | none => none)
    | _ => none

theorem good_build {T : Nat → Option TI} (hT : TabOk x.P T) (hv : Vw x Γ ρ a w g sl ch) {t : TypeId} {parts : Array (Nat × Operand)} (ho : o.op = .build t parts)
    (hr : stepBuild T sl t parts.toList = some res) : Good x ρ a w g o res := by
  unfold stepBuild at hr
  split at hr
  · cases hr
  · rename_i ti hti
    have hti := hT _ _ hti
    split at hr
    · rename_i fs hk
      split at hr
      · rename_i cs hcs
        cases hr
        obtain ⟨i, z, hi, _, _, hz, _, hzc, _⟩ := hti.info
        obtain ⟨F, hF, hm⟩ := hti.stp fs hk
        obtain ⟨vs', hf, hc⟩ := fill_ok hv (parts := parts.toList) (vs := z.cells) (by rw [← hzc]; exact cellsOk_const x w g ρ _) hcs
        have hb : x.P.built t (parts.map fun (i, y) => (i, a.eval y)).toList = some vs' := by
          unfold Program.built
          simp only [hi, hF, hz, hm]
          rw [← hf]
          simp
        refine good_pure hv (val := .agg vs') ?_ rfl ⟨vs'.toList, by simp, hc⟩
        simp only [execOp, ho]
        simp [run_build w t _ vs' hb]
      · cases hr
    · cases hr

end
end Go.Proofs.YteleedlkdadogaaGreat.Fw
