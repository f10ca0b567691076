/- Steps of operations, 3: places in memory, parts of strings and slices, values put together. -/
import Derived.Test.YteleedlkdadogaaGreatFw5
namespace Go.Proofs.YteleedlkdadogaaGreat.Fw
open Go.RowKit

section
variable {x : Fx} {Γ : G} {ρ : List V} {a : Act} {w : World} {g : Gh} {sl : Nat → SV} {ch : Nat → Option Ch} {o : Oper} {res : Res}

def stepFieldAddr (T : Nat → Option TI) (sl : Nat → SV) (t : TypeId) (y : Operand) (f : Nat) : Option Res :=
  match T t with
  | none => none
  | some ti => match ti.kind with
    | .st fs => (match fs[f]? with
      | some (fo, s) => if Nat.beq s 0 then none else (match opnd sl y with
        | .cv (.ptr c off) => some ⟨[], [], .cv (.ptr c (off + fo))⟩
        | .cv (.rp src e z off) => some ⟨[], [], .cv (.rp src e z (off + fo))⟩
        | .cv (.ep c esz i off) => some ⟨[], [], .cv (.ep c esz i (off + fo))⟩
        | _ => none)
      | none => none)
    | _ => none

theorem run_fieldAt {P : Program} {t : TypeId} {ti : TI} (h : ti.ok P t) {fs : List (Nat × Nat)} (hk : ti.kind = .st fs) {f fo s : Nat} (hf : fs[f]? = some (fo, s)) (hs : s ≠ 0) (b k : Nat) (w : World) :
    (Instr.fieldAt t (.pointer (some ⟨b, k, none⟩)) f).run P w = .ok (.pointer (some ⟨b, k + fo, none⟩)) w := by
  obtain ⟨d, hd, hkd, hfl⟩ := h.und
  rw [hk] at hkd
  cases d <;> simp only [TK.desc] at hkd
  rename_i F
  obtain ⟨fl, i, h1, h2, h3, h4⟩ := hfl fs F hk rfl f fo s hf
  have hsz : (Go.sizeOf fl.type).run P w = .ok s w := by simp [Go.sizeOf, typeInfo, h3, h4]
  unfold Instr.fieldAt
  simp only [Sem.run_bind, run_underlying hd, Result.andThen_ok, h1, Instr.sureAddr, Sem.run_pure, fieldPlace, hsz, if_neg hs, h2, Addr.add_lit]

theorem exec_fieldAddr {t : TypeId} {y : Operand} {f : Nat} (ho : o.op = .fieldAddr t y f) {val v' : Value} (hy : a.eval y = v') (h : (Instr.fieldAt t v' f).run x.P w = .ok val w) :
    (execOp a.eval o).run x.P w = .ok (.value val) w := by
  simp only [execOp, ho, hy]
  simp [h]

theorem pointer_of_one {src : Src} {e : Sh} {z : E} {off : Nat} {val : Value} (h : (CV.rp src e z off).ok x w g ρ val) (hl : src.live g) : ∃ b k, val = .pointer (some ⟨b, k + off, none⟩) := by
  obtain ⟨_, _, hb⟩ := h
  obtain ⟨v, ds, b, k, _, _, hval, _⟩ := hb hl
  exact ⟨b, k, hval⟩

theorem good_fieldAddr {T : Nat → Option TI} (hT : TabOk x.P T) (hv : Vw x Γ ρ a w g sl ch) {t : TypeId} {y : Operand} {f : Nat} (ho : o.op = .fieldAddr t y f)
    (hlive : ∀ src e z off, opnd sl y = .cv (.rp src e z off) → liveIn ch src = true)
    (hr : stepFieldAddr T sl t y f = some res) : Good x ρ a w g o res := by
  unfold stepFieldAddr at hr
  split at hr
  · cases hr
  · rename_i ti hti
    have hti := hT _ _ hti
    split at hr
    · rename_i fs hk
      split at hr
      · rename_i fo s hf
        split at hr
        · cases hr
        · rename_i hs
          have hs' : s ≠ 0 := by intro e; subst e; simp at hs
          split at hr
          · rename_i c off hy
            cases hr
            obtain ⟨b, hio, hval⟩ := hv.cv hy
            exact good_pure hv (exec_fieldAddr ho hval (run_fieldAt hti hk hf hs' b off w)) rfl ⟨b, hio, rfl⟩
          · rename_i src e z off hy
            cases hr
            have hl := liveIn_ok hv (hlive _ _ _ _ hy)
            obtain ⟨h0, hp, hb⟩ := hv.cv hy
            obtain ⟨v, ds, b, k, hz, hrd, hval, hS, hcell⟩ := hb hl.2
            refine good_pure hv (exec_fieldAddr ho hval (run_fieldAt hti hk hf hs' b (k + off) w)) rfl ⟨rfl, hp, fun _ => ⟨v, ds, b, k, hz, hrd, by rw [Nat.add_assoc], hS, hcell⟩⟩
          · rename_i c esz i off hy
            cases hr
            obtain ⟨b, k, len, cap, m, hio, hi, hval⟩ := hv.cv hy
            exact good_pure hv (exec_fieldAddr ho hval (run_fieldAt hti hk hf hs' b _ w)) rfl ⟨b, k, len, cap, m, hio, hi, by rw [Nat.add_assoc]⟩
          · cases hr
      · cases hr
    · cases hr

def stepFieldAddr' (T : Nat → Option TI) (sl : Nat → SV) (ch : Nat → Option Ch) (t : TypeId) (y : Operand) (f : Nat) : Option Res :=
  match opnd sl y with
  | .cv (.rp src _ _ _) => if liveIn ch src then stepFieldAddr T sl t y f else none
  | _ => stepFieldAddr T sl t y f

theorem good_fieldAddr' {T : Nat → Option TI} (hT : TabOk x.P T) (hv : Vw x Γ ρ a w g sl ch) {t : TypeId} {y : Operand} {f : Nat} (ho : o.op = .fieldAddr t y f)
    (hr : stepFieldAddr' T sl ch t y f = some res) : Good x ρ a w g o res := by
  unfold stepFieldAddr' at hr
  split at hr
  · rename_i src e z off hy
    split at hr
    · rename_i hl
      exact good_fieldAddr hT hv ho (fun src' e' z' off' h => by rw [hy] at h; cases h; exact hl) hr
    · cases hr
  · rename_i hno
    exact good_fieldAddr hT hv ho (fun src' e' z' off' h => absurd h (hno src' e' z' off')) hr

/-- an index into a slice: the element's place -/
def stepIndexAddr (n : Nat) (T : Nat → Option TI) (sl : Nat → SV) (ch : Nat → Option Ch) (t : TypeId) (y z : Operand) : Option Res :=
  match T t with
  | none => none
  | some ti => match ti.kind with
    | .sl e' => (match T e', opnd sl z with
      | some te, .cv (.sc (.int _) i) => (match opnd sl y with
        | .cv (.rd src e _ q) => if liveIn ch src && Nat.beq te.size e.sz then some ⟨[.pm .lget [q, i]], [], .cv (.rp src e (.v n) 0)⟩ else none
        | .cv (.own c) => (match ch c with
          | some (.arr _ e _ q) => if Nat.beq te.size e.sz then some ⟨[.pm .lget [q, i]], [], .cv (.ep c e.sz i 0)⟩ else none
          | _ => none)
        | _ => none)
      | _, _ => none)
    | _ => none

theorem run_indexAt_sl {P : Program} {t e' : TypeId} {ti te : TI} (h : ti.ok P t) (hk : ti.kind = .sl e') (he : te.ok P e') (b k len cap : Nat) (kk : IntKind) (m : Nat) (hm : m < len) (w : World) :
    (Instr.indexAt t (.slice (some ⟨b, k, none⟩) len cap) (.int kk (m : Int))).run P w = .ok (.pointer (some ⟨b, k + m * te.size, none⟩)) w := by
  obtain ⟨d, hd, hkd, _⟩ := h.und
  rw [hk] at hkd
  cases d <;> simp only [TK.desc] at hkd
  subst hkd
  have hsz := he.run_sizeOf w
  have h1 : (0 : Int) ≤ (m : Int) ∧ (m : Int) < (len : Int) := by omega
  unfold Instr.indexAt
  simp only [Sem.run_bind, run_underlying hd, Result.andThen_ok, asIntOf, Sem.run_pure, if_pos h1, hsz, Addr.add_lit, Int.toNat_natCast]

theorem lget_some {q : List V} {i : Int} {v : V} (h : (if 0 ≤ i then q[i.toNat]? else none) = some v) : ∃ m : Nat, i = m ∧ q[m]? = some v := by
  split at h
  · exact ⟨i.toNat, by omega, h⟩
  · cases h

theorem good_indexAddr {T : Nat → Option TI} (hT : TabOk x.P T) (hv : Vw x Γ ρ a w g sl ch) {C : Nat → List V → List V → Prop} {n : Nat} {t : TypeId} {y z : Operand} (ho : o.op = .indexAddr t y z)
    (hr : stepIndexAddr n T sl ch t y z = some res) (he : EmsOk C ρ n res.ems) : Good x ρ a w g o res := by
  unfold stepIndexAddr at hr
  split at hr
  · cases hr
  · rename_i ti hti
    have hti := hT _ _ hti
    split at hr
    · rename_i e' hk
      split at hr
      · rename_i te kk i hte hz
        have hte := hT _ _ hte
        obtain ⟨vi, hi, ni, rfl, ez⟩ := hv.cv hz
        split at hr
        · rename_i src e et q hy
          split at hr
          · rename_i hc
            simp only [Bool.and_eq_true] at hc
            cases hr
            obtain ⟨⟨vs, v, hd, hev, hn⟩, _⟩ := he
            obtain ⟨u1, u2, h1, h2, rfl⟩ := denL_two hd
            have hl := liveIn_ok hv hc.1
            have hsz := Nat.eq_of_beq_eq_true hc.2
            obtain ⟨_, hp, hb⟩ := hv.cv hy
            obtain ⟨vq, hq, xs, ad, len, cap, rfl, hcs, hlen, _, _, _, hor⟩ := hb hl.2
            rw [hq] at h1; cases h1
            rw [hi] at h2; cases h2
            simp only [Pm.ev] at hev
            obtain ⟨m, rfl, hm⟩ := lget_some hev
            have hml : m < xs.length := by have := List.getElem?_eq_some_iff.1 hm; exact this.1
            rcases hor with hnil | ⟨gb, k, ha, hS, hel⟩
            · subst hnil; simp at hm
            · obtain ⟨ds, hdl, hcell, hrd⟩ := hel m v hm
              have ey : a.eval y = .slice (some ⟨gb, k, none⟩) len cap := by rw [← ha]; simpa using hcs
              refine good_pure hv (val := .pointer (some ⟨gb, k + m * te.size, none⟩)) ?_ rfl ?_
              · simp only [execOp, ho, ey, ez]
                rw [Sem.run_bind, run_indexAt_sl hti hk hte gb k len cap kk m (by omega) w]
                rfl
              · refine ⟨rfl, hp, fun _ => ⟨v, ds, gb, k + m * te.size, hn, hrd, rfl, hS, fun j d hj => ?_⟩⟩
                rw [hsz]; exact hcell j d hj
          · cases hr
        · rename_i c hy
          split at hr
          · rename_i ver e et q hc
            split at hr
            · rename_i hsz
              have hsz := Nat.eq_of_beq_eq_true hsz
              cases hr
              obtain ⟨⟨vs, v, hd, hev, hn⟩, _⟩ := he
              obtain ⟨u1, u2, h1, h2, rfl⟩ := denL_two hd
              obtain ⟨_, hio⟩ := hv.cv hy
              have hck := hv.rel.chunks c
              rw [hv.ch _ _ hc] at hck
              obtain ⟨vq, val', hio', hq, hgv, how⟩ := hck
              rw [hio] at hio'; cases hio'
              rw [hq] at h1; cases h1
              rw [hi] at h2; cases h2
              obtain ⟨xs, ad, len, cap, rfl, hcs, hlen, _, _, hor⟩ := how
              simp only [Pm.ev] at hev
              obtain ⟨m, rfl, hm⟩ := lget_some hev
              have hml : m < xs.length := by have := List.getElem?_eq_some_iff.1 hm; exact this.1
              rcases hor with ⟨_, _, hnil⟩ | ⟨gb, k, cur, ha, hL, hh, hsz', hel⟩
              · subst hnil; simp at hm
              · have ey : a.eval y = .slice (some ⟨gb, k, none⟩) len cap := by rw [← ha]; simpa using hcs
                refine good_pure hv (val := .pointer (some ⟨gb, k + m * te.size, none⟩)) ?_ rfl ?_
                · simp only [execOp, ho, ey, ez]
                  rw [Sem.run_bind, run_indexAt_sl hti hk hte gb k len cap kk m (by omega) w]
                  rfl
                · exact ⟨gb, k, len, cap, m, by rw [hio, ey], hi, by rw [hsz, Nat.add_zero]⟩
            · cases hr
          · cases hr
        · cases hr
      · cases hr
    · cases hr

/-- a byte of a string -/
def stepIndex (n : Nat) (T : Nat → Option TI) (sl : Nat → SV) (t : TypeId) (y z : Operand) : Option Res :=
  match T t with
  | none => none
  | some ti => match ti.kind with
    | .str => (match opnd sl y, opnd sl z with
      | .cv (.sc .str e), .cv (.sc (.int _) i) => some ⟨[.pm .sidx [e, i]], [], .cv (.sc (.int .u8) (.v n))⟩
      | _, _ => none)
    | _ => none

theorem TI.ok.string {P : Program} {t : TypeId} {ti : TI} (h : ti.ok P t) (hk : ti.kind = .str) : P.underlying t = some .string := by
  obtain ⟨d, hd, hkd, _⟩ := h.und
  rw [hk] at hkd
  cases d <;> simp_all [TK.desc]

theorem TI.ok.slice {P : Program} {t e : TypeId} {ti : TI} (h : ti.ok P t) (hk : ti.kind = .sl e) : P.underlying t = some (.slice e) := by
  obtain ⟨d, hd, hkd, _⟩ := h.und
  rw [hk] at hkd
  cases d <;> simp_all [TK.desc]

theorem good_index {T : Nat → Option TI} (hT : TabOk x.P T) (hv : Vw x Γ ρ a w g sl ch) {C : Nat → List V → List V → Prop} {n : Nat} {t : TypeId} {y z : Operand} (ho : o.op = .index t y z)
    (hr : stepIndex n T sl t y z = some res) (he : EmsOk C ρ n res.ems) : Good x ρ a w g o res := by
  unfold stepIndex at hr
  split at hr
  · cases hr
  · rename_i ti hti
    have hti := hT _ _ hti
    split at hr
    · rename_i hk
      split at hr
      · rename_i e kk i hy hz
        cases hr
        obtain ⟨⟨vs, v, hd, hev, hn⟩, _⟩ := he
        obtain ⟨u1, u2, h1, h2, rfl⟩ := denL_two hd
        obtain ⟨vy, hvy, s, rfl, ey⟩ := hv.cv hy
        obtain ⟨vi, hi, ni, rfl, ez⟩ := hv.cv hz
        rw [hvy] at h1; cases h1
        rw [hi] at h2; cases h2
        simp only [Pm.ev] at hev
        split at hev
        · rename_i h0
          cases hc : s[ni.toNat]? with
          | none => rw [hc] at hev; cases hev
          | some c =>
            rw [hc] at hev
            cases hev
            have hlt := (List.getElem?_eq_some_iff.1 hc).1
            refine good_pure hv (val := .int .u8 c.toNat) ?_ rfl ⟨_, hn, _, rfl, rfl⟩
            simp only [execOp, ho, ey, ez]
            rw [Sem.run_bind, run_index_string w t _ kk ni (hti.string hk), dif_pos ⟨h0, by simp [ByteArray.size]; omega⟩]
            have : (ByteArray.mk s.toArray)[ni.toNat]'(by simp [ByteArray.size]; omega) = c := by
              have := (List.getElem?_eq_some_iff.1 hc).2
              rw [← this]; rfl
            simp [this]
        · cases hev
      · cases hr
    · cases hr

/-- len -/
def stepLen (n : Nat) (T : Nat → Option TI) (sl : Nat → SV) (ch : Nat → Option Ch) (t : TypeId) (y : Operand) : Option Res :=
  match T t with
  | none => none
  | some ti => match ti.kind, opnd sl y with
    | .str, .cv (.sc .str e) => some ⟨[.pm .slen [e]], [], .cv (.sc (.int .i64) (.v n))⟩
    | .sl _, .cv .nil => some ⟨[], [], .cv (.sc (.int .i64) (.ki 0))⟩
    | .sl _, .cv (.rd src _ _ q) => if liveIn ch src then some ⟨[.pm .llen [q]], [], .cv (.sc (.int .i64) (.v n))⟩ else none
    | .sl _, .cv (.own c) => (match ch c with
      | some (.arr _ _ _ q) => some ⟨[.pm .llen [q]], [], .cv (.sc (.int .i64) (.v n))⟩
      | _ => none)
    | _, _ => none

theorem exec_len {t : TypeId} {y : Operand} (ho : o.op = .call { callee := .builtin .len, args := #[y], argTypes := #[t] }) {v' val : Value} (hy : a.eval y = v')
    (h : (Builtin.len_ #[t] o.type #[v']).run x.P w = .ok val w) : (execOp a.eval o).run x.P w = .ok (.value val) w := by
  simp only [execOp, ho]
  simp [resolve, invoke, builtin, hy, h]

theorem good_len {T : Nat → Option TI} (hT : TabOk x.P T) (hv : Vw x Γ ρ a w g sl ch) {C : Nat → List V → List V → Prop} {n : Nat} {t : TypeId} {y : Operand}
    (ho : o.op = .call { callee := .builtin .len, args := #[y], argTypes := #[t] }) (hr : stepLen n T sl ch t y = some res) (he : EmsOk C ρ n res.ems) : Good x ρ a w g o res := by
  unfold stepLen at hr
  split at hr
  · cases hr
  · rename_i ti hti
    have hti := hT _ _ hti
    split at hr
    · rename_i e hk hy
      cases hr
      obtain ⟨⟨vs, v, hd, hev, hn⟩, _⟩ := he
      obtain ⟨u1, h1, rfl⟩ := denL_one hd
      obtain ⟨vy, hvy, s, rfl, ey⟩ := hv.cv hy
      rw [hvy] at h1; cases h1
      cases hev
      exact good_pure hv (exec_len ho ey (run_len_string w t _ _ (hti.string hk))) rfl ⟨_, hn, _, rfl, by simp [goInt, ByteArray.size]⟩
    · rename_i e' hk hy
      cases hr
      have ey := hv.cv hy
      refine good_pure hv (exec_len ho ey ?_) rfl ⟨_, rfl, _, rfl, rfl⟩
      simp [Builtin.len_, run_underlying (hti.slice hk), goInt]
    · rename_i e' src e et q hk hy
      split at hr
      · rename_i hl
        cases hr
        obtain ⟨⟨vs, v, hd, hev, hn⟩, _⟩ := he
        obtain ⟨u1, h1, rfl⟩ := denL_one hd
        have hl := liveIn_ok hv hl
        obtain ⟨_, hp, hb⟩ := hv.cv hy
        obtain ⟨vq, hq, xs, ad, len, cap, rfl, hcs, hlen, _⟩ := hb hl.2
        rw [hq] at h1; cases h1
        cases hev
        have ey : a.eval y = .slice ad len cap := by simpa using hcs
        refine good_pure hv (val := .int .i64 (len : Int)) (exec_len ho ey ?_) rfl ⟨_, hn, _, rfl, by rw [hlen]⟩
        simp [Builtin.len_, run_underlying (hti.slice hk), goInt]
      · cases hr
    · rename_i e' c hk hy
      split at hr
      · rename_i ver e et q hc
        cases hr
        obtain ⟨⟨vs, v, hd, hev, hn⟩, _⟩ := he
        obtain ⟨u1, h1, rfl⟩ := denL_one hd
        obtain ⟨_, hio⟩ := hv.cv hy
        have hck := hv.rel.chunks c
        rw [hv.ch _ _ hc] at hck
        obtain ⟨vq, val', hio', hq, hgv, how⟩ := hck
        rw [hio] at hio'; cases hio'
        rw [hq] at h1; cases h1
        obtain ⟨xs, ad, len, cap, rfl, hcs, hlen, _⟩ := how
        cases hev
        have ey : a.eval y = .slice ad len cap := by simpa using hcs
        refine good_pure hv (val := .int .i64 (len : Int)) (exec_len ho ey ?_) rfl ⟨_, hn, _, rfl, by rw [hlen]⟩
        simp [Builtin.len_, run_underlying (hti.slice hk), goInt]
      · cases hr
    · cases hr

/-- !b, -n -/
def stepUn (n : Nat) (sl : Nat → SV) (op : UnOp) (y : Operand) : Option Res :=
  match op, opnd sl y with
  | .not, .cv (.sc .bool (.kb b)) => some ⟨[], [], .cv (.sc .bool (.kb (!b)))⟩
  | .not, .cv (.sc .bool e) => some ⟨[.pm .not [e]], [], .cv (.sc .bool (.v n))⟩
  | .neg, .cv (.sc (.int k) e) => some ⟨[.pm (.sub k) [.ki 0, e]], [], .cv (.sc (.int k) (.v n))⟩
  | _, _ => none

theorem good_un (hv : Vw x Γ ρ a w g sl ch) {C : Nat → List V → List V → Prop} {n : Nat} {op : UnOp} {t : TypeId} {y : Operand} (ho : o.op = .unOp op t y)
    (hr : stepUn n sl op y = some res) (he : EmsOk C ρ n res.ems) : Good x ρ a w g o res := by
  unfold stepUn at hr
  split at hr
  · rename_i b hy
    cases hr
    obtain ⟨vy, hvy, b', rfl, ey⟩ := hv.cv hy
    cases hvy
    exact good_pure hv (val := .bool (!b)) (by simp [execOp, ho, ey, Op.unary]) rfl ⟨_, rfl, _, rfl, rfl⟩
  · rename_i e _ hy
    cases hr
    obtain ⟨⟨vs, v, hd, hev, hn⟩, _⟩ := he
    obtain ⟨u1, h1, rfl⟩ := denL_one hd
    obtain ⟨vy, hvy, b', rfl, ey⟩ := hv.cv hy
    rw [hvy] at h1; cases h1
    cases hev
    exact good_pure hv (val := .bool (!b')) (by simp [execOp, ho, ey, Op.unary]) rfl ⟨_, hn, _, rfl, rfl⟩
  · rename_i k e hy
    cases hr
    obtain ⟨⟨vs, v, hd, hev, hn⟩, _⟩ := he
    obtain ⟨u1, u2, h1, h2, rfl⟩ := denL_two hd
    obtain ⟨vy, hvy, b', rfl, ey⟩ := hv.cv hy
    cases h1
    rw [hvy] at h2; cases h2
    cases hev
    exact good_pure hv (val := .int k (k.wrap (0 - b'))) (by simp [execOp, ho, ey, Op.unary, Op.intArith]) rfl ⟨_, hn, _, rfl, rfl⟩
  · cases hr

/-- integers to integers -/
def stepConvInt (n : Nat) (T : Nat → Option TI) (sl : Nat → SV) (src dst : TypeId) (y : Operand) : Option Res :=
  match T src, T dst, opnd sl y with
  | some _, some td, .cv (.sc (.int _) e) => (match td.kind with
    | .int k => some ⟨[.pm (.cvt k) [e]], [], .cv (.sc (.int k) (.v n))⟩
    | _ => none)
  | _, _, _ => none

theorem good_convInt {T : Nat → Option TI} (hT : TabOk x.P T) (hv : Vw x Γ ρ a w g sl ch) {C : Nat → List V → List V → Prop} {n : Nat} {src dst : TypeId} {y : Operand} (ho : o.op = .convert src dst y)
    (hr : stepConvInt n T sl src dst y = some res) (he : EmsOk C ρ n res.ems) : Good x ρ a w g o res := by
  unfold stepConvInt at hr
  split at hr
  · rename_i ts td k e hts htd hy
    split at hr
    · rename_i k' hk
      cases hr
      obtain ⟨⟨vs, v, hd, hev, hn⟩, _⟩ := he
      obtain ⟨u1, h1, rfl⟩ := denL_one hd
      obtain ⟨vy, hvy, b', rfl, ey⟩ := hv.cv hy
      rw [hvy] at h1; cases h1
      cases hev
      obtain ⟨d, hd', _⟩ := (hT _ _ hts).und
      have hu : x.P.underlying dst = some (.int k') := by
        obtain ⟨d, hd, hkd, _⟩ := (hT _ _ htd).und
        rw [hk] at hkd
        cases d <;> simp_all [TK.desc]
      refine good_pure hv (val := .int k' (k'.wrap b')) ?_ rfl ⟨_, hn, _, rfl, rfl⟩
      simp only [execOp, ho, ey]
      simp [convert, run_underlying hd', run_underlying hu, Conv.intToInt]
    · cases hr
  · cases hr

/-- one of several results -/
def stepExtract (sl : Nat → SV) (y : Operand) (i : Nat) : Option Res :=
  match opnd sl y with
  | .tup xs => (match xs[i]? with
    | some (false, [c]) => some ⟨[], [], .cv c⟩
    | some (true, cs) => some ⟨[], [], .agg cs⟩
    | _ => none)
  | _ => none

theorem tupOk.get {ok : CV → Value → Prop} : ∀ {xs : List (Bool × List CV)} {vs : List Value}, tupOk ok xs vs → ∀ {i : Nat} {c : Bool × List CV}, xs[i]? = some c → ∃ v, vs[i]? = some v ∧ oneOk ok c v
  | [], [], _, i, c, h => by simp at h
  | c0 :: xs, v0 :: vs, hk, i, c, h => by
    cases i with
    | zero => simp at h; subst h; exact ⟨v0, rfl, hk.1⟩
    | succ i => simpa using tupOk.get hk.2 (by simpa using h)
  | [], _ :: _, hk, _, _, _ => hk.elim
  | _ :: _, [], hk, _, _, _ => hk.elim

theorem good_extract (hv : Vw x Γ ρ a w g sl ch) {y : Operand} {i : Nat} (ho : o.op = .extract y i) (hr : stepExtract sl y i = some res) : Good x ρ a w g o res := by
  unfold stepExtract at hr
  split at hr
  · rename_i xs hy
    have h := hv.opnd y
    rw [hy] at h
    obtain ⟨vs, ey, ht⟩ := h
    split at hr
    · rename_i c hc
      cases hr
      obtain ⟨v, hvi, hk⟩ := ht.get hc
      exact good_pure hv (val := v) (by simp [execOp, ho, ey, Instr.extract, hvi]) rfl hk.1
    · rename_i cs hc
      cases hr
      obtain ⟨v, hvi, hk⟩ := ht.get hc
      exact good_pure hv (val := v) (by simp [execOp, ho, ey, Instr.extract, hvi]) rfl hk
    · cases hr
  · cases hr

end
end Go.Proofs.YteleedlkdadogaaGreat.Fw
