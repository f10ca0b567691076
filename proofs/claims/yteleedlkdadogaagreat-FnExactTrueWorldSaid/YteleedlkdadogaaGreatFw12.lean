/- Steps of operations, 9: append out of its step; bytes to strings; checks for nil; max, min. -/
import Derived.Test.YteleedlkdadogaaGreatFw11
namespace Go.Proofs.YteleedlkdadogaaGreat.Fw
open Go.RowKit

section
variable {x : Fx} {Γ : G} {ρ : List V} {a : Act} {w : World} {g : Gh} {sl : Nat → SV} {ch : Nat → Option Ch} {o : Oper} {res : Res}

theorem TI.ok.notInt {P : Program} {t : TypeId} {ti : TI} (h : ti.ok P t) (hk : (∃ e, ti.kind = .sl e) ∨ ti.kind = .str) : ∃ d, P.underlying t = some d ∧ ∀ k, d ≠ .int k := by
  rcases hk with ⟨e, hk⟩ | hk
  · exact ⟨_, h.slice hk, fun k h => by cases h⟩
  · exact ⟨_, h.string hk, fun k h => by cases h⟩

/-- The cells of what can be read, one behind the other. -/
theorem rd_row {S : Nat → Prop} {w : World} {e : Sh} {et : TypeId} {xs : List V} {ad : Option Addr} {len cap : Nat} (h : Rd w S (.sl e et) (.l xs) [.slice ad len cap]) (hs0 : e.sz ≠ 0) :
    ∃ news : List Value, news.length = xs.length * e.sz ∧ (∀ i v, xs[i]? = some v → Rd w S e v ((news.drop (0 + i * e.sz)).take e.sz)) ∧
      (xs = [] ∨ ∃ b k, ad = some ⟨b, k, none⟩ ∧ ∀ j v, news[j]? = some v → w.cell? ⟨b, k + j, none⟩ = some v) := by
  obtain ⟨xs', ad', len', cap', hx, hcs, hl, _, _, _, hor⟩ := h
  cases hx
  simp only [List.cons.injEq, Value.slice.injEq, and_true] at hcs
  obtain ⟨rfl, rfl, rfl⟩ := hcs
  rcases hor with h | ⟨b, k, had, hS, hel⟩
  · subst h; exact ⟨[], by simp, fun i v hi => by simp at hi, .inl rfl⟩
  · -- the cells, as memory has them
    refine ⟨(List.range (xs.length * e.sz)).map (fun j => (w.cell? ⟨b, k + j, none⟩).getD undef), by simp, fun i v hi => ?_, .inr ⟨b, k, had, fun j v hj => ?_⟩⟩
    · obtain ⟨ds, hdl, hcell, hrd⟩ := hel i v hi
      have hin : i < xs.length := (List.getElem?_eq_some_iff.1 hi).1
      have : (((List.range (xs.length * e.sz)).map (fun j => (w.cell? ⟨b, k + j, none⟩).getD undef)).drop (0 + i * e.sz)).take e.sz = ds := by
        apply List.ext_getElem?
        intro j
        have hle : (i + 1) * e.sz ≤ xs.length * e.sz := Nat.mul_le_mul_right _ (by omega)
        rw [Nat.add_mul] at hle
        rw [List.getElem?_take]
        by_cases hj : j < e.sz
        · rw [if_pos hj, List.getElem?_drop, List.getElem?_map, List.getElem?_range (by omega)]
          obtain ⟨d, hd⟩ : ∃ d, ds[j]? = some d := ⟨ds[j]'(by omega), List.getElem?_eq_getElem (by omega)⟩
          have := hcell j d hd
          rw [hd]
          simp only [Option.map_some, Nat.zero_add]
          rw [show k + (i * e.sz + j) = k + i * e.sz + j by omega, this]
          rfl
        · rw [if_neg hj, List.getElem?_eq_none (by omega)]
      rw [this]
      exact hrd
    · rw [List.getElem?_map] at hj
      have hj2 : j < xs.length * e.sz := by
        rcases Nat.lt_or_ge j (xs.length * e.sz) with h | h
        · exact h
        · rw [List.getElem?_eq_none (by simpa using h)] at hj; cases hj
      rw [List.getElem?_range hj2] at hj
      simp only [Option.map_some, Option.some.injEq] at hj
      have hdiv : j / e.sz < xs.length := by
        rw [Nat.div_lt_iff_lt_mul (by omega)]; exact hj2
      obtain ⟨ds, hdl, hcell, hrd⟩ := hel (j / e.sz) _ (List.getElem?_eq_getElem hdiv)
      have hmod : j % e.sz < e.sz := Nat.mod_lt _ (by omega)
      have := hcell (j % e.sz) _ (List.getElem?_eq_getElem (by omega : j % e.sz < ds.length))
      have e1 : k + j / e.sz * e.sz + j % e.sz = k + j := by rw [Nat.add_assoc, Nat.mul_comm, Nat.div_add_mod]
      rw [e1] at this
      rw [this] at hj ⊢
      rw [← hj]; rfl

theorem Rd.one {S : Nat → Prop} {w : World} : ∀ {sh : Sh} {v : V} {cs : List Value}, Rd w S sh v cs → ∀ d ∈ cs, d.oneCell' = true := by
  intro sh
  induction sh with
  | int k => intro v cs ⟨c, h, hs⟩ d hd; subst h; simp at hd; subst hd; exact hs.one
  | bool => intro v cs ⟨c, h, hs⟩ d hd; subst h; simp at hd; subst hd; exact hs.one
  | str => intro v cs ⟨c, h, hs⟩ d hd; subst h; simp at hd; subst hd; exact hs.one
  | sl e et ih => intro v cs ⟨xs, a, len, cap, _, h, _⟩ d hd; subst h; simp at hd; subst hd; rfl
  | nil => intro v cs ⟨_, h⟩ d hd; subst h; simp at hd
  | cons a t ih1 ih2 =>
    intro v cs ⟨y, ys, c, cs', _, h2, h3, h4⟩ d hd
    subst h2
    cases hd with
    | head => exact ih1 h3 c (by simp)
    | tail _ hd => exact ih2 h4 d hd

theorem row_one {S : Nat → Prop} {w : World} {e : Sh} {xs : List V} {news : List Value} (hs0 : e.sz ≠ 0) (hl : news.length = xs.length * e.sz) (h : ∀ i v, xs[i]? = some v → Rd w S e v ((news.drop (0 + i * e.sz)).take e.sz)) :
    ∀ d ∈ news, d.oneCell' = true := by
  intro d hd
  obtain ⟨j, hj, rfl⟩ := List.mem_iff_getElem.1 hd
  have hdiv : j / e.sz < xs.length := by rw [Nat.div_lt_iff_lt_mul (by omega)]; omega
  have hmod : j % e.sz < e.sz := Nat.mod_lt _ (by omega)
  refine (h (j / e.sz) _ (List.getElem?_eq_getElem hdiv)).one _ ?_
  rw [List.mem_iff_getElem?]
  refine ⟨j % e.sz, ?_⟩
  rw [List.getElem?_take, if_pos hmod, List.getElem?_drop]
  have : 0 + j / e.sz * e.sz + j % e.sz = j := by rw [Nat.zero_add, Nat.mul_comm, Nat.div_add_mod]
  rw [this, List.getElem?_eq_getElem hj]

theorem run_firstCells_row {P : Program} {w : World} {s m : Nat} {ad : Option Addr} {len cap : Nat} {news : List Value} (hl : news.length = m * s) (h : (m = 0) ∨ ∃ b k, ad = some ⟨b, k, none⟩ ∧ ∀ j v, news[j]? = some v → w.cell? ⟨b, k + j, none⟩ = some v) :
    (Builtin.firstCells s m (.slice ad len cap)).run P w = .ok news.toArray w := by
  rcases h with h | ⟨b, k, rfl, hc⟩
  · subst h
    have : news = [] := List.eq_nil_of_length_eq_zero (by simpa using hl)
    subst this
    cases ad with
    | none => simp [Builtin.firstCells]
    | some ad => simp [Builtin.firstCells, loadCells, loadCellsFrom]
  · exact run_firstCells_some (P := P) w s m ⟨b, k, none⟩ len cap news hl (fun j v hj => by rw [Addr.add_lit]; exact hc j v hj)

theorem bytesV_own (w : World) (L : Nat → List Nat) (s : List UInt8) (n : Nat) (p : List Nat) : elemsAt w L (.int .u8) (bytesV s) (s.map fun b => Value.int .u8 b.toNat) 0 n p := by
  intro i v hi
  simp only [bytesV, List.getElem?_map, Option.map_eq_some_iff] at hi
  obtain ⟨b, hb, rfl⟩ := hi
  refine ⟨.int .u8 b.toNat, ?_, _, rfl, rfl⟩
  apply List.ext_getElem?
  intro j
  simp only [Sh.sz, Nat.mul_one, Nat.zero_add]
  rw [List.getElem?_take]
  cases j with
  | zero => simp [hb]
  | succ j => simp

theorem abase_ok {T : Nat → Option TI} {Z : Nat → Option Sh} {e' : TypeId} (hv : Vw x Γ ρ a w g sl ch) {y : Operand} {c : Option Nat} {e : Sh} {q : E} (h : abase sl ch Z e' y = some (c, e, q)) {xs : List V} (hq : q.den ρ = some (.l xs)) :
    c ≠ some 0 ∧ ((c = none ∧ a.eval y = .slice none 0 0 ∧ xs = []) ∨ ∃ c', c = some c' ∧ g.io c' = some (a.eval y) ∧ Own w g.L (.sl e e') (.l xs) [a.eval y] [c']) := by
  unfold abase at h
  split at h
  · rename_i hy
    split at h
    · cases h
      cases hq
      exact ⟨(fun h => by cases h), .inl ⟨rfl, hv.cv hy, rfl⟩⟩
    · cases h
  · rename_i c' hy
    split at h
    · rename_i ver e0 et q0 hc
      split at h
      · rename_i hb
        simp only [Bool.and_eq_true, Bool.not_eq_true'] at hb
        have het := Nat.eq_of_beq_eq_true hb.1
        subst het
        cases h
        obtain ⟨v, val, hio, hy', hgv, how⟩ := hv.chok hc
        obtain ⟨_, hio'⟩ := hv.cv hy
        rw [hio] at hio'; cases hio'
        rw [hq] at hy'; cases hy'
        exact ⟨fun h => by cases h; simp at hb, .inr ⟨c', rfl, hio, how⟩⟩
      · cases h
    · cases h
  · cases h

theorem abase_notfresh {Z : Nat → Option Sh} {e' : TypeId} {y : Operand} {c : Option Nat} {e : Sh} {q : E} {id : Nat} (hid : ch id = some .fresh) (h : abase sl ch Z e' y = some (c, e, q)) : c ≠ some id := by
  unfold abase at h
  intro hc
  subst hc
  split at h
  · split at h <;> cases h
  · split at h
    · rename_i hc
      split at h
      · cases h; rw [hid] at hc; cases hc
      · cases h
    · cases h
  · cases h

theorem lapp_ev {bytes : Nat} {u1 u2 v : V} (h : (Pm.lapp bytes).ev [u1, u2] = some v) : ∃ xs ys, u1 = .l xs ∧ u2 = .l ys ∧ roomFor (xs.length + ys.length) bytes ∧ v = .l (xs ++ ys) := by
  cases u1 <;> simp only [Pm.ev, reduceCtorEq] at h
  cases u2 <;> simp only [reduceCtorEq] at h
  split at h
  · cases h; exact ⟨_, _, rfl, rfl, by assumption, rfl⟩
  · cases h

def ASrc.chunk : ASrc → Option Nat
  | .own d _ => some d
  | _ => none

def ASrc.tells (ρ : List V) (ys : List V) : ASrc → Prop
  | .flat y => y.den ρ = some (.l ys)
  | .own _ y => y.den ρ = some (.l ys)
  | .str y => ∃ b, y.den ρ = some (.s b) ∧ ys = bytesV b

def AppSrc (x : Fx) (a : Act) (w : World) (g : Gh) (e : Sh) (z : Operand) (s : ASrc) (ys : List V) : Prop :=
  ∃ news : List Value, news.length = ys.length * e.sz ∧ (∀ w, (Builtin.lenOf (a.eval z)).run x.P w = .ok ys.length w) ∧
    (∀ w', (∀ b : Nat, w'.heap[b]? = w.heap[b]?) → (Builtin.firstCells e.sz ys.length (a.eval z)).run x.P w' = .ok news.toArray w') ∧ (∀ v ∈ news, v.oneCell' = true) ∧
    (∀ (w' : World) (L' : Nat → List Nat) (n : Nat) (p : List Nat), (∀ d', s.chunk = some d' → ∀ b q i, g.L b = q ++ [i, d'] → w'.heap[b]? = w.heap[b]? ∧ L' b = q ++ ((n + i) :: p)) → elemsAt w' L' e ys news 0 n p)

/-- What is appended, told as the core of append wants it. -/
theorem asrc_ok (hv : Vw x Γ ρ a w g sl ch) {e : Sh} {e' : TypeId} (hs0 : e.sz ≠ 0) {z : Operand} {s : ASrc} (h : asrc sl ch e e' z = some s) {ys : List V}
    (hy : s.tells ρ ys) : AppSrc x a w g e z s ys := by
  have hread : ∀ (S : Nat → Prop) (et : TypeId), e.flat = true → s.chunk = none → Rd w S (.sl e et) (.l ys) [a.eval z] → AppSrc x a w g e z s ys := by
    intro S et hfl hch hrd
    have hrd0 := hrd
    obtain ⟨xs', ad, len, cap, hx, hcs, hlen, _⟩ := hrd0
    cases hx
    have ez : a.eval z = .slice ad len cap := by simpa using hcs
    rw [ez] at hrd
    obtain ⟨news, h1, h2, h3⟩ := rd_row hrd hs0
    refine ⟨news, h1, fun w => by rw [ez]; simp [Builtin.lenOf, hlen], fun w' hw' => ?_, row_one hs0 h1 h2, fun w' L' n p _ i v hi => (h2 i v hi).flatOwn hfl⟩
    rw [ez]
    refine run_firstCells_row h1 ?_
    rcases h3 with h3 | ⟨b, k, had, hc⟩
    · left; rw [h3]; rfl
    · right
      exact ⟨b, k, had, fun j v hj => (World.cell?_of_block (w := w) (hw' b)).trans (hc j v hj)⟩
  unfold asrc at h
  split at h
  · rename_i hz
    cases h
    cases hy
    have ez := hv.cv hz
    exact ⟨[], by simp, fun w => by rw [ez]; simp [Builtin.lenOf], fun w' _ => by rw [ez]; simp [Builtin.firstCells], by simp, fun w' L' n p _ i v hi => by simp at hi⟩
  · rename_i src e0 et y hz
    split at h
    · rename_i hb
      simp only [Bool.and_eq_true] at hb
      have := Sh.beq_eq hb.2
      subst this
      cases h
      obtain ⟨_, _, hbody⟩ := hv.cv hz
      obtain ⟨v, hyv, hrd⟩ := hbody (liveIn_ok hv hb.1.1).2
      simp only [ASrc.tells] at hy
      rw [hy] at hyv; cases hyv
      exact hread _ et hb.1.2 rfl hrd
    · cases h
  · rename_i d hz
    split at h
    · rename_i ver e0 et y hc
      split at h
      · rename_i hb
        simp only [Bool.and_eq_true] at hb
        have := Sh.beq_eq hb.1
        subst this
        have := Nat.eq_of_beq_eq_true hb.2
        subst this
        obtain ⟨v, val, hio, hyv, hgv, how⟩ := hv.chok hc
        obtain ⟨_, hio'⟩ := hv.cv hz
        rw [hio] at hio'; cases hio'
        split at h
        · rename_i hfl
          cases h
          simp only [ASrc.tells] at hy
          rw [hy] at hyv; cases hyv
          exact hread (fun _ => True) _ hfl rfl (how.rd (fun _ _ _ => trivial))
        · cases h
          simp only [ASrc.tells] at hy
          rw [hy] at hyv; cases hyv
          have how0 := how
          obtain ⟨xs', ad, len, cap, hx, hcs, hlen, hcap, hmax, hor⟩ := how
          cases hx
          have ez : a.eval z = .slice ad len cap := by simpa using hcs
          rcases hor with ⟨had, hcap0, hxn⟩ | ⟨gb, k, cur, had, hLg, hh, hsz0, hall⟩
          · subst hxn
            refine ⟨[], by simp, fun w => by rw [ez, hlen]; simp [Builtin.lenOf], fun w' _ => by rw [ez, had]; simp [Builtin.firstCells], by simp, fun w' L' n p _ i v hi => by simp at hi⟩
          · have hle : ys.length * e.sz ≤ cap * e.sz := Nat.mul_le_mul_right _ (by omega)
            have hwin : ∀ i, i < ys.length → (((cur.toList.drop k).take (ys.length * e.sz)).drop (0 + i * e.sz)).take e.sz = (cur.toList.drop (k + i * e.sz)).take e.sz := by
              intro i hi
              have : (i + 1) * e.sz ≤ ys.length * e.sz := Nat.mul_le_mul_right _ (by omega)
              rw [Nat.add_mul] at this
              rw [List.drop_take, List.drop_drop, List.take_take, Nat.min_eq_left (by omega)]
              congr 2; omega
            have hl : ((cur.toList.drop k).take (ys.length * e.sz)).length = ys.length * e.sz := by simp; omega
            refine ⟨(cur.toList.drop k).take (ys.length * e.sz), hl, fun w => by rw [ez]; simp [Builtin.lenOf, hlen], fun w' hw' => ?_, ?_, fun w' L' n p hm i v hi => ?_⟩
            · rw [ez]
              refine run_firstCells_row hl (.inr ⟨gb, k, had, fun j v hj => ?_⟩)
              obtain ⟨hj, _⟩ := take_drop_get hj
              rw [cell_of_row w' gb _ cur _ (0, 0) (by rw [hw']; exact hh)]
              simpa using hj
            · refine row_one (S := fun _ => True) (w := w) (e := e) (xs := ys) hs0 hl (fun i v hi => ?_)
              rw [hwin i (List.getElem?_eq_some_iff.1 hi).1]
              exact (hall i v hi).rd (fun _ _ _ => trivial)
            · rw [hwin i (List.getElem?_eq_some_iff.1 hi).1]
              refine (hall i v hi).frame (fun b q hb => ?_)
              exact hm d rfl b q i hb
      · cases h
    · cases h
  · rename_i y hz
    split at h
    · rename_i hb
      have := Sh.beq_eq hb
      subst this
      cases h
      obtain ⟨b, hyb, rfl⟩ := hy
      obtain ⟨v, hyv, s', rfl, ez⟩ := hv.cv hz
      rw [hyb] at hyv; cases hyv
      refine ⟨b.map fun c => Value.int .u8 c.toNat, by simp [bytesV, Sh.sz], fun w => by rw [ez]; simp [Builtin.lenOf, bytesV, ByteArray.size], fun w' _ => ?_, ?_, fun w' L' n p _ => bytesV_own w' L' b n p⟩
      · rw [ez]
        have hsz : (bytesV b).length = b.length := by simp [bytesV]
        simp only [Builtin.firstCells, Sem.run_pure, hsz]
        congr 1
        apply Array.ext'
        simp
      · intro v hv'
        simp only [List.mem_map] at hv'
        obtain ⟨c, _, rfl⟩ := hv'
        rfl
    · cases h
  · cases h

theorem asrc_notfresh {e : Sh} {e' : TypeId} {z : Operand} {s : ASrc} {id : Nat} (hid : ch id = some .fresh) (h : asrc sl ch e e' z = some s) : s.chunk ≠ some id := by
  unfold asrc at h
  intro hc
  split at h
  · cases h; cases hc
  · split at h
    · cases h; cases hc
    · cases h
  · split at h
    · rename_i hch
      split at h
      · split at h
        · cases h; cases hc
        · cases h; cases hc; rw [hid] at hch; cases hch
      · cases h
    · cases h
  · split at h
    · cases h; cases hc
    · cases h
  · cases h

theorem good_append {T : Nat → Option TI} (hT : TabOk x.P T) {Z : Nat → Option Sh} (hv : Vw x Γ ρ a w g sl ch) {C : Nat → List V → List V → Prop} {n id : Nat} {t u : TypeId} {y z : Operand}
    (ho : o.op = .call { callee := .builtin .append, args := #[y, z], argTypes := #[t, u] }) (hr : stepAppend n id T Z sl ch t u y z = some res) (he : EmsOk C ρ n res.ems) : Good x ρ a w g o res := by
  unfold stepAppend at hr
  split at hr
  · rename_i ti tu hti htu hid
    have hti := hT _ _ hti
    have htu := hT _ _ htu
    split at hr
    · rename_i e' hk
      split at hr
      · rename_i te c e q hte hb
        have hte := hT _ _ hte
        split at hr
        · rename_i hcond
          simp only [Bool.and_eq_true, Bool.not_eq_true'] at hcond
          have hsz := Nat.eq_of_beq_eq_true hcond.1.1
          have hs0 : e.sz ≠ 0 := by intro e0; rw [e0] at hcond; simp at hcond
          have h0 : id ≠ 0 := by intro e0; subst e0; simp at hcond
          have hcid := abase_notfresh hid hb
          split at hr
          · rename_i q' eu hsrc hku
            cases hr
            obtain ⟨du, hdu, hni⟩ := htu.notInt (.inl ⟨_, hku⟩)
            obtain ⟨⟨vs, v, hd, hev, hn⟩, _⟩ := he
            obtain ⟨u1, u2, e1, e2, rfl⟩ := denL_two hd
            obtain ⟨xs, ys, rfl, rfl, hroom, rfl⟩ := lapp_ev hev
            obtain ⟨hc0, hbase⟩ := abase_ok (T := T) hv hb e1
            obtain ⟨news, k1, k2, k3, k4, k5⟩ := asrc_ok hv hs0 hsrc (ys := ys) e2
            exact good_append_core hT hv h0 hid hti hk hte hdu hni hsz (c := c) (d := none) (q := q) hc0 (by simp) (by simp) hcid (by simp) ho rfl hbase k1 k2 (by rw [hsz]; exact k3) k4
              (fun w' L' n p _ => k5 w' L' n p (fun d' h => by cases h)) hroom (yv := .v n) hn rfl rfl
          · rename_i d q' eu hsrc hku
            split at hr
            · cases hr
            · rename_i hcd
              simp only [Bool.or_eq_true, not_or, Option.any_eq_true, not_exists, not_and] at hcd
              cases hr
              obtain ⟨du, hdu, hni⟩ := htu.notInt (.inl ⟨_, hku⟩)
              obtain ⟨⟨vs, v, hd, hev, hn⟩, _⟩ := he
              obtain ⟨u1, u2, e1, e2, rfl⟩ := denL_two hd
              obtain ⟨xs, ys, rfl, rfl, hroom, rfl⟩ := lapp_ev hev
              obtain ⟨hc0, hbase⟩ := abase_ok (T := T) hv hb e1
              obtain ⟨news, k1, k2, k3, k4, k5⟩ := asrc_ok hv hs0 hsrc (ys := ys) e2
              exact good_append_core hT hv h0 hid hti hk hte hdu hni hsz (c := c) (d := some d) (q := q) hc0 (fun h => by cases h; exact hcd.2 (by simp)) (fun k h1 h2 => by cases h2; exact hcd.1 _ h1 (by simp)) hcid (asrc_notfresh hid hsrc) ho rfl hbase k1 k2 (by rw [hsz]; exact k3) k4
                k5 hroom (yv := .v n) hn rfl rfl
          · rename_i q' hsrc hku
            cases hr
            obtain ⟨du, hdu, hni⟩ := htu.notInt (.inr hku)
            obtain ⟨⟨vs0, v0, hd0, hev0, hn0⟩, ⟨vs, v, hd, hev, hn⟩, _⟩ := he
            obtain ⟨u0, e0, rfl⟩ := denL_one hd0
            obtain ⟨u1, u2, e1, e2, rfl⟩ := denL_two hd
            simp only [E.den] at e2
            rw [hn0] at e2; cases e2
            cases u0 <;> simp only [Pm.ev, reduceCtorEq] at hev0
            rename_i b
            cases hev0
            obtain ⟨xs, ys, rfl, hys, hroom, rfl⟩ := lapp_ev hev
            cases hys
            obtain ⟨hc0, hbase⟩ := abase_ok (T := T) hv hb e1
            obtain ⟨news, k1, k2, k3, k4, k5⟩ := asrc_ok hv hs0 hsrc (ys := bytesV b) ⟨b, e0, rfl⟩
            exact good_append_core hT hv h0 hid hti hk hte hdu hni hsz (c := c) (d := none) (q := q) hc0 (by simp) (by simp) hcid (by simp) ho rfl hbase k1 k2 (by rw [hsz]; exact k3) k4
              (fun w' L' n p _ => k5 w' L' n p (fun d' h => by cases h)) hroom (yv := .v (n + 1)) hn rfl rfl
          · cases hr
        · cases hr
      · cases hr
    · cases hr
  · cases hr

/-- string(bytes) -/
def stepStr (n : Nat) (T : Nat → Option TI) (sl : Nat → SV) (ch : Nat → Option Ch) (src dst : TypeId) (y : Operand) : Option Res :=
  match T src, T dst with
  | some ts, some td => (match ts.kind, td.kind with
    | .sl e', .str => (match T e' with
      | some te => (match te.kind with
        | .int .u8 => (match opnd sl y with
          | .cv (.rd s e _ q) => if liveIn ch s && e.beq (.int .u8) then some ⟨[.pm .strl [q]], [], .cv (.sc .str (.v n))⟩ else none
          | .cv (.own c) => (match ch c with
            | some (.arr _ e _ q) => if e.beq (.int .u8) then some ⟨[.pm .strl [q]], [], .cv (.sc .str (.v n))⟩ else none
            | _ => none)
          | .cv .nil => some ⟨[], [], .cv (.sc .str (.ks []))⟩
          | _ => none)
        | _ => none)
      | none => none)
    | _, _ => none)
  | _, _ => none

theorem strBytes_some : ∀ {xs : List V} {s : List UInt8}, strBytes xs = some s → s.length = xs.length ∧ ∀ (i : Nat) v, xs[i]? = some v → ∃ n : Int, v = .i n ∧ s[i]? = some (UInt8.ofNat n.toNat)
  | [], s, h => by simp only [strBytes, Option.some.injEq] at h; subst h; exact ⟨rfl, fun i v hi => by simp at hi⟩
  | .i n :: xs, s, h => by
    simp only [strBytes, Option.map_eq_some_iff] at h
    obtain ⟨s', h1, rfl⟩ := h
    obtain ⟨h2, h3⟩ := strBytes_some h1
    refine ⟨by simp [h2], fun i v hi => ?_⟩
    cases i with
    | zero => simp at hi; subst hi; exact ⟨n, rfl, rfl⟩
    | succ i => simpa using h3 i v (by simpa using hi)
  | .un :: _, _, h => by cases h
  | .b _ :: _, _, h => by cases h
  | .s _ :: _, _, h => by cases h
  | .l _ :: _, _, h => by cases h
  | .t _ :: _, _, h => by cases h

theorem foldl_push : ∀ (ns : List Int) (r : ByteArray), ns.foldl (fun r n => r.push (UInt8.ofNat n.toNat)) r = ⟨(r.data.toList ++ ns.map fun n => UInt8.ofNat n.toNat).toArray⟩
  | [], r => by cases r; simp
  | n :: ns, r => by
    rw [List.foldl_cons, foldl_push ns]
    simp [ByteArray.push]

def intOfV : V → Int
  | .i n => n
  | _ => 0

theorem run_str_rd {S : Nat → Prop} {et : TypeId} {xs : List V} {val : Value} (h : Rd w S (.sl (.int .u8) et) (.l xs) [val]) {s : List UInt8} (hs : strBytes xs = some s) :
    (Conv.bytesToString val).run x.P w = .ok (.string ⟨s.toArray⟩) w := by
  have h0 := h
  obtain ⟨xs', ad, len, cap, hx, hcs, hlen, _⟩ := h0
  cases hx
  have ev : val = .slice ad len cap := by simpa using hcs
  subst ev
  obtain ⟨news, h1, h2, h3⟩ := rd_row h (by simp [Sh.sz])
  obtain ⟨hl, hst⟩ := strBytes_some hs
  rcases h3 with h3 | ⟨b, k, rfl, hc⟩
  · subst h3
    have : s = [] := List.eq_nil_of_length_eq_zero (by simpa using hl)
    subst this
    cases ad with
    | none => simp [Conv.bytesToString]; rfl
    | some ad =>
      have hl0 : len = 0 := by simpa using hlen
      subst hl0
      rw [run_bytesToString w ad 0 cap [] (by simp [loadCells, loadCellsFrom])]
      rfl
  · -- each cell is a byte
    have hcell : ∀ i, i < xs.length → ∃ n : Int, xs[i]? = some (.i n) ∧ news[i]? = some (.int .u8 n) := by
      intro i hi
      obtain ⟨n, hn, _⟩ := hst i _ (List.getElem?_eq_getElem hi)
      have hrd := h2 i _ (List.getElem?_eq_getElem hi)
      obtain ⟨c, hcs', m, hm, hcm⟩ := hrd
      rw [hn] at hm; cases hm
      refine ⟨n, by rw [List.getElem?_eq_getElem hi, hn], ?_⟩
      have := congrArg (·[0]?) hcs'
      simp only [Sh.sz, Nat.mul_one, Nat.zero_add, List.getElem?_take, Nat.lt_one_iff, if_true, List.getElem?_drop, Nat.add_zero, List.getElem?_cons_zero] at this
      rw [this, hcm]
    have hnl : news.length = xs.length := by simpa [Sh.sz] using h1
    have hmap : news = (xs.map intOfV).map (Value.int .u8) := by
      apply List.ext_getElem?
      intro i
      by_cases hi : i < xs.length
      · obtain ⟨n, e1, e2⟩ := hcell i hi
        rw [e2, List.getElem?_map, List.getElem?_map, e1]
        rfl
      · rw [List.getElem?_eq_none (by omega), List.getElem?_eq_none (by simp; omega)]
    have hload : (loadCells ⟨b, k, none⟩ len).run x.P w = .ok ((xs.map intOfV).map (Value.int .u8)).toArray w := by
      rw [← hmap]
      have := run_loadCells_list (P := x.P) w ⟨b, k, none⟩ news (fun j v hj => by rw [Addr.add_lit]; exact hc j v hj)
      rw [hnl, ← hlen] at this
      exact this
    have hns : (xs.map intOfV).map (fun n => UInt8.ofNat n.toNat) = s := by
      apply List.ext_getElem?
      intro i
      by_cases hi : i < xs.length
      · obtain ⟨n, e1, e2⟩ := hst i _ (List.getElem?_eq_getElem hi)
        rw [e2, List.getElem?_map, List.getElem?_map, List.getElem?_eq_getElem hi, e1]
        rfl
      · rw [List.getElem?_eq_none (by simp; omega), List.getElem?_eq_none (by omega)]
    rw [run_bytesToString w _ len cap (xs.map intOfV) hload, foldl_push, hns]
    rfl

theorem good_str {T : Nat → Option TI} (hT : TabOk x.P T) (hv : Vw x Γ ρ a w g sl ch) {C : Nat → List V → List V → Prop} {n : Nat} {src dst : TypeId} {y : Operand} (ho : o.op = .convert src dst y)
    (hr : stepStr n T sl ch src dst y = some res) (he : EmsOk C ρ n res.ems) : Good x ρ a w g o res := by
  unfold stepStr at hr
  split at hr
  · rename_i ts td hts htd
    have hts := hT _ _ hts
    have htd := hT _ _ htd
    split at hr
    · rename_i e' hk1 hk2
      split at hr
      · rename_i te hte
        have hte := hT _ _ hte
        split at hr
        · rename_i hk3
          have hu8 : x.P.underlying e' = some (.int .u8) := by
            obtain ⟨d, hd, hkd, _⟩ := hte.und
            rw [hk3] at hkd
            cases d <;> simp_all [TK.desc]
          have hex : ∀ {val : Value} {s : Value}, a.eval y = val → (∃ ad l c, val = .slice ad l c) → (Conv.bytesToString val).run x.P w = .ok s w → (execOp a.eval o).run x.P w = .ok (.value s) w := by
            intro val s ey hsl h
            obtain ⟨ad, l, c, rfl⟩ := hsl
            have : (convert src dst (.slice ad l c)).run x.P w = .ok s w := by
              unfold convert
              simp only [Sem.run_bind, run_underlying (hts.slice hk1), run_underlying (htd.string hk2), Result.andThen_ok, run_underlying hu8]
              exact h
            simp only [execOp, ho, ey]
            simp [this]
          split at hr
          · rename_i s e et q hy
            split at hr
            · rename_i hb
              simp only [Bool.and_eq_true] at hb
              have := Sh.beq_eq hb.2
              subst this
              cases hr
              obtain ⟨⟨vs, v, hd, hev, hn⟩, _⟩ := he
              obtain ⟨u1, h1, rfl⟩ := denL_one hd
              obtain ⟨_, _, hbody⟩ := hv.cv hy
              obtain ⟨vq, hq, hrd⟩ := hbody (liveIn_ok hv hb.1).2
              rw [hq] at h1; cases h1
              have hrd0 := hrd
              obtain ⟨xs, ad, len, cap, rfl, hcs, _⟩ := hrd0
              simp only [Pm.ev, Option.map_eq_some_iff] at hev
              obtain ⟨s', hs, rfl⟩ := hev
              exact good_pure hv (hex rfl ⟨ad, len, cap, by simpa using hcs⟩ (run_str_rd hrd hs)) rfl ⟨_, hn, _, rfl, rfl⟩
            · cases hr
          · rename_i c hy
            split at hr
            · rename_i ver e et q hc
              split at hr
              · rename_i hb
                have := Sh.beq_eq hb
                subst this
                cases hr
                obtain ⟨⟨vs, v, hd, hev, hn⟩, _⟩ := he
                obtain ⟨u1, h1, rfl⟩ := denL_one hd
                obtain ⟨vq, val, hio, hq, hgv, how⟩ := hv.chok hc
                obtain ⟨_, hio'⟩ := hv.cv hy
                rw [hio] at hio'; cases hio'
                rw [hq] at h1; cases h1
                have hrd : Rd w (fun _ => True) (.sl (.int .u8) et) u1 [a.eval y] := how.rd (fun _ _ _ => trivial)
                have hrd0 := hrd
                obtain ⟨xs, ad, len, cap, rfl, hcs, _⟩ := hrd0
                simp only [Pm.ev, Option.map_eq_some_iff] at hev
                obtain ⟨s', hs, rfl⟩ := hev
                exact good_pure hv (hex rfl ⟨ad, len, cap, by simpa using hcs⟩ (run_str_rd hrd hs)) rfl ⟨_, hn, _, rfl, rfl⟩
              · cases hr
            · cases hr
          · rename_i hy
            cases hr
            have ey := hv.cv hy
            refine good_pure hv (hex ey ⟨none, 0, 0, rfl⟩ ?_) rfl ⟨_, rfl, _, rfl, rfl⟩
            simp [Conv.bytesToString]
            rfl
          · cases hr
        · cases hr
      · cases hr
    · cases hr
  · cases hr

/-- a check that a pointer is none of nil -/
def stepNil (sl : Nat → SV) (y : Operand) : Option Res :=
  match opnd sl y with
  | .cv (.ptr c off) => some ⟨[], [], .cv (.ptr c off)⟩
  | .cv (.ep c s i off) => some ⟨[], [], .cv (.ep c s i off)⟩
  | _ => none

theorem good_nil (hv : Vw x Γ ρ a w g sl ch) {y : Operand} (ho : o.op = .nilCheck y) (hr : stepNil sl y = some res) : Good x ρ a w g o res := by
  unfold stepNil at hr
  split at hr
  · rename_i c off hy
    cases hr
    have h := hv.cv hy
    obtain ⟨b, hio, ey⟩ := h
    exact good_pure hv (val := a.eval y) (by simp [execOp, ho, ey]) rfl ⟨b, hio, ey⟩
  · rename_i c s i off hy
    cases hr
    have h := hv.cv hy
    obtain ⟨b, o', len, cap, n, h1, h2, ey⟩ := h
    exact good_pure hv (val := a.eval y) (by simp [execOp, ho, ey]) rfl ⟨b, o', len, cap, n, h1, h2, ey⟩
  · cases hr

/-- max, min of two integers -/
def stepMM (n : Nat) (sl : Nat → SV) (mx : Bool) (y z : Operand) : Option Res :=
  match opnd sl y, opnd sl z with
  | .cv (.sc (.int k) e), .cv (.sc (.int k') e') => if kindEq k k' then some ⟨[.pm (if mx then .max2 else .min2) [e, e']], [], .cv (.sc (.int k) (.v n))⟩ else none
  | _, _ => none

theorem good_mm (hv : Vw x Γ ρ a w g sl ch) {C : Nat → List V → List V → Prop} {n : Nat} {mx : Bool} {y z : Operand} {ts : Array TypeId}
    (ho : o.op = .call { callee := .builtin (if mx then .max else .min), args := #[y, z], argTypes := ts }) (hr : stepMM n sl mx y z = some res) (he : EmsOk C ρ n res.ems) : Good x ρ a w g o res := by
  unfold stepMM at hr
  split at hr
  · rename_i k e k' e' hy hz
    split at hr
    · rename_i hk
      have := kindEq_eq hk
      subst this
      cases hr
      obtain ⟨⟨vs, v, hd, hev, hn⟩, _⟩ := he
      obtain ⟨u1, u2, h1, h2, rfl⟩ := denL_two hd
      obtain ⟨vy, hvy, ny, rfl, ey⟩ := hv.cv hy
      obtain ⟨vz, hvz, nz, rfl, ez⟩ := hv.cv hz
      rw [hvy] at h1; cases h1; rw [hvz] at h2; cases h2
      cases mx with
      | true =>
        simp only [if_true, Pm.ev, Option.some.injEq] at hev
        subst hev
        refine good_pure hv (val := .int k (if nz > ny then nz else ny)) ?_ rfl ⟨_, hn, _, rfl, rfl⟩
        simp only [execOp, ho]
        simp [resolve, invoke, builtin, ey, ez, run_max_int2]
      | false =>
        simp only [Bool.false_eq_true, if_false, Pm.ev, Option.some.injEq] at hev
        subst hev
        refine good_pure hv (val := .int k (if nz < ny then nz else ny)) ?_ rfl ⟨_, hn, _, rfl, rfl⟩
        simp only [execOp, ho]
        simp [resolve, invoke, builtin, ey, ez, run_min_int2]
    · cases hr
  · cases hr

end
end Go.Proofs.YteleedlkdadogaaGreat.Fw
