/- Steps of operations, 1: tables, constants, operations that leave memory alone. -/
import Derived.Test.YteleedlkdadogaaGreatFw3
namespace Go.Proofs.YteleedlkdadogaaGreat.Fw
open Go.RowKit

inductive TK where
  | st (fs : List (Nat × Nat))
  | sl (e : TypeId)
  | arr (n : Nat) (e : TypeId)
  | int (k : IntKind)
  | bool
  | str
  | other

/-- What the steps ask of a type. -/
structure TI where
  size : Nat
  bytes : Nat
  zero : List CV
  kind : TK
  eqs : Option (List Sh)

def constCV : Value → CV
  | .int k n => .sc (.int k) (.ki n)
  | .bool b => .sc .bool (.kb b)
  | .string s => .sc .str (.ks s.data.toList)
  | .slice none 0 0 => .nil
  | _ => .junk

theorem constCV_ok (x : Fx) (w : World) (g : Gh) (ρ : List V) (v : Value) : (constCV v).ok x w g ρ v := by
  unfold constCV
  split
  · exact ⟨_, rfl, _, rfl, rfl⟩
  · exact ⟨_, rfl, _, rfl, rfl⟩
  · rename_i s; exact ⟨_, rfl, s.data.toList, rfl, by cases s; rfl⟩
  · rfl
  · trivial

def constSV : Value → SV
  | .agg cs => .agg (cs.toList.map constCV)
  | v => .cv (constCV v)

theorem cellsOk_const (x : Fx) (w : World) (g : Gh) (ρ : List V) : ∀ vs : List Value, cellsOk (CV.ok x w g ρ) (vs.map constCV) vs
  | [] => trivial
  | v :: vs => ⟨constCV_ok x w g ρ v, cellsOk_const x w g ρ vs⟩

theorem constSV_ok (x : Fx) (w : World) (g : Gh) (ρ : List V) (v : Value) : (constSV v).ok (CV.ok x w g ρ) v := by
  unfold constSV
  split
  · rename_i cs; exact ⟨cs.toList, rfl, cellsOk_const x w g ρ _⟩
  · exact constCV_ok x w g ρ _

def TK.desc : TK → TypeDesc → Prop
  | .st _, .struct _ => True
  | .sl e, .slice e' => e' = e
  | .arr n e, .array n' e' => n' = n ∧ e' = e
  | .int k, .int k' => k' = k
  | .bool, .bool => True
  | .str, .string => True
  | .other, .struct _ => False
  | .other, .array _ _ => False
  | .other, _ => True
  | _, _ => False

def TI.isAgg (ti : TI) : Bool := match ti.kind with | .st _ | .arr _ _ => true | _ => false

/-- A struct of numbers, bools and strings, cell by cell: how it is compared. -/
def eqFs (P : Program) : List Field → Nat → Option (List Sh)
  | [], _ => some []
  | f :: fs, i => if f.name == "_" || !(Nat.beq f.offset i) then none else match P.underlying f.type, eqFs P fs (i + 1) with
    | some (.int k), some l => some (.int k :: l)
    | some .bool, some l => some (.bool :: l)
    | some .string, some l => some (.str :: l)
    | _, _ => none

def eqOf (P : Program) (t : TypeId) : Option (List Sh) :=
  match P.underlying t with
  | some (.struct F) => if P.stoodInHeld t || P.eqGuardType P.depth t then none else eqFs P F.toList 0
  | _ => none

structure TI.ok (P : Program) (t : TypeId) (ti : TI) : Prop where
  info : ∃ i z, P.info? t = some i ∧ i.size = ti.size ∧ i.bytes = ti.bytes ∧ i.zero = some z ∧ z.cells.size = ti.size ∧ z.cells.toList.map constCV = ti.zero ∧ ∀ v ∈ z.cells.toList, v.oneCell' = true
  eq : ∀ l, ti.eqs = some l → eqOf P t = some l
  stp : ∀ fs, ti.kind = .st fs → ∃ F, P.underlying t = some (.struct F) ∧ F.toList.mapM (fun f => (P.info? f.type).map fun i => (f.offset, i.size)) = some fs
  und : ∃ d, P.underlying t = some d ∧ ti.kind.desc d ∧
    ∀ fs F, ti.kind = .st fs → d = .struct F → ∀ (f off n : Nat), fs[f]? = some (off, n) → ∃ (fl : Field) (i : TypeInfo), F[f]? = some fl ∧ fl.offset = off ∧ P.info? fl.type = some i ∧ i.size = n

def fieldsOf (P : Program) : List Field → Option (List (Nat × Nat))
  | [] => some []
  | f :: fs => match P.info? f.type, fieldsOf P fs with
    | some i, some l => some ((f.offset, i.size) :: l)
    | _, _ => none

def kindOf (P : Program) : TypeDesc → Option TK
  | .struct F => (fieldsOf P F.toList).map .st
  | .slice e => some (.sl e)
  | .array n e => some (.arr n e)
  | .int k => some (.int k)
  | .bool => some .bool
  | .string => some .str
  | _ => some .other

def mkTI (P : Program) (t : TypeId) : Option TI :=
  match P.info? t, P.underlying t with
  | some i, some d => match i.zero, kindOf P d with
    | some z, some k => if Nat.beq z.cells.size i.size && z.cells.toList.all Value.oneCell' then some { size := i.size, bytes := i.bytes, zero := z.cells.toList.map constCV, kind := k, eqs := eqOf P t } else none
    | _, _ => none
  | _, _ => none

theorem fieldsOf_get {P : Program} : ∀ {F : List Field} {fs : List (Nat × Nat)}, fieldsOf P F = some fs → ∀ (f off n : Nat), fs[f]? = some (off, n) → ∃ (fl : Field) (i : TypeInfo), F[f]? = some fl ∧ fl.offset = off ∧ P.info? fl.type = some i ∧ i.size = n
  | [], fs, h, f, off, n, hf => by simp only [fieldsOf, Option.some.injEq] at h; subst h; simp at hf
  | fl :: F, fs, h, f, off, n, hf => by
    simp only [fieldsOf] at h
    split at h
    · rename_i i l h1 h2
      cases h
      cases f with
      | zero => simp at hf; exact ⟨fl, i, rfl, hf.1, h1, hf.2⟩
      | succ f => simpa using fieldsOf_get h2 f off n (by simpa using hf)
    · cases h

theorem fieldsOf_mapM {P : Program} : ∀ {F : List Field} {fs : List (Nat × Nat)}, fieldsOf P F = some fs → F.mapM (fun f => (P.info? f.type).map fun i => (f.offset, i.size)) = some fs
  | [], fs, h => by simpa [fieldsOf] using h
  | fl :: F, fs, h => by
    simp only [fieldsOf] at h
    split at h
    · rename_i i l h1 h2
      cases h
      simp [List.mapM_cons, h1, fieldsOf_mapM h2]
    · cases h

theorem mkTI_ok {P : Program} {t : TypeId} {ti : TI} (h : mkTI P t = some ti) : ti.ok P t := by
  unfold mkTI at h
  split at h
  · rename_i i d hi hd
    split at h
    · rename_i z k hz hk
      split at h
      · rename_i hc
        simp only [Bool.and_eq_true, List.all_eq_true] at hc
        cases h
        refine ⟨⟨i, z, hi, rfl, rfl, hz, Nat.eq_of_beq_eq_true hc.1, rfl, hc.2⟩, (fun l hl => hl), ?_, d, hd, ?_, ?_⟩
        · intro fs hfs
          simp only at hfs
          subst hfs
          cases d <;> simp only [kindOf, Option.map_eq_some_iff, Option.some.injEq, reduceCtorEq] at hk
          rename_i F
          obtain ⟨l, hl, he⟩ := hk
          cases he
          exact ⟨F, hd, fieldsOf_mapM hl⟩
        · cases d <;> simp only [kindOf, Option.map_eq_some_iff, Option.some.injEq] at hk <;> first | (subst hk; simp [TK.desc]; done) | (obtain ⟨_, _, rfl⟩ := hk; trivial)
        · intro fs F hfs hF f off n hf
          subst hF
          simp only [kindOf, Option.map_eq_some_iff] at hk
          obtain ⟨l, hl, rfl⟩ := hk
          cases hfs
          obtain ⟨fl, i', h1, h2⟩ := fieldsOf_get hl f off n hf
          exact ⟨fl, i', by simpa using h1, h2⟩
      · cases h
    · cases h
  · cases h

/-- The tables that the steps look into tell what the program's tell. -/
def TabOk (P : Program) (T : Nat → Option TI) : Prop := ∀ t ti, T t = some ti → ti.ok P t

section
variable {P : Program} {t : TypeId} {ti : TI} (h : ti.ok P t) (w : World)
include h

theorem TI.ok.run_isAgg : (Go.isAgg t).run P w = .ok ti.isAgg w := by
  obtain ⟨d, hd, hk, _⟩ := h.und
  unfold Go.isAgg
  simp only [Sem.run_bind, run_underlying hd, Result.andThen_ok]
  unfold TI.isAgg
  cases hkk : ti.kind <;> rw [hkk] at hk <;> cases d <;> simp_all [TK.desc]

theorem TI.ok.run_sizeOf : (sizeOf t).run P w = .ok ti.size w := by
  obtain ⟨i, z, hi, hs, _⟩ := h.info
  simp [sizeOf, typeInfo, hi, hs]

theorem TI.ok.run_typeInfo : ∃ i, (typeInfo t).run P w = .ok i w ∧ P.info? t = some i ∧ i.size = ti.size ∧ i.bytes = ti.bytes := by
  obtain ⟨i, z, hi, hs, hb, _⟩ := h.info
  exact ⟨i, by simp [typeInfo, hi], hi, hs, hb⟩

theorem TI.ok.run_zero : ∃ z, (zeroValue t).run P w = .ok z w ∧ z.cells.size = ti.size ∧ z.cells.toList.map constCV = ti.zero ∧ ∀ v ∈ z.cells.toList, v.oneCell' = true := by
  obtain ⟨i, z, hi, hs, hb, hz, h1, h2, h3⟩ := h.info
  exact ⟨z, by simp [zeroValue, typeInfo, hi, hz], h1, h2, h3⟩

end

/-- What a step is looked at from: the state, and as much of it as the step may look at. -/
structure Vw (x : Fx) (Γ : G) (ρ : List V) (a : Act) (w : World) (g : Gh) (sl : Nat → SV) (ch : Nat → Option Ch) : Prop where
  rel : Rel x Γ ρ a w g
  sl : ∀ t, (sl t).ok (CV.ok x w g ρ) (a.tmps.getD t undef)
  ch : ∀ c h, ch c = some h → Γ.chunk c = h

/-- What stands in an element is read as any slice of its chunk. -/
def asRd : SV → SV
  | .cv (.el c ver _ _ _ e et y) => .cv (.rd (.ch c ver) e et y)
  | s => s

theorem asRd_ok {x : Fx} {w : World} {g : Gh} {ρ : List V} {s : SV} {v : Value} (h : s.ok (CV.ok x w g ρ) v) : (asRd s).ok (CV.ok x w g ρ) v := by
  unfold asRd
  split
  · exact ⟨h.1, h.2.1, fun hl => (h.2.2 hl).1⟩
  · exact h

def opnd (sl : Nat → SV) : Operand → SV
  | .tmp t => asRd (sl t)
  | .const v => constSV v
  | .func f => .cv (.fn f)
  | .global _ => .cv .junk

inductive Em where
  | pm (p : Pm) (args : List E)
  | cl (f : Nat) (args : List E) (m : Nat)

def Em.len : Em → Nat
  | .pm _ _ => 1
  | .cl _ _ m => m

def EmsOk (C : Nat → List V → List V → Prop) (ρ : List V) : Nat → List Em → Prop
  | _, [] => True
  | n, .pm p args :: r => (∃ vs v, denL ρ args = some vs ∧ p.ev vs = some v ∧ ρ[n]? = some v) ∧ EmsOk C ρ (n + 1) r
  | n, .cl f args m :: r => (∃ vs rs, denL ρ args = some vs ∧ C f vs rs ∧ rs.length = m ∧ ∀ j, j < m → ρ[n + j]? = rs[j]?) ∧ EmsOk C ρ (n + m) r

structure Res where
  ems : List Em
  upd : List (Nat × Ch)
  sv : SV

def keys (u : List (Nat × Ch)) (c : Nat) : Prop := (look u c).isSome = true

/-- An operation does what its step tells. -/
def Good (x : Fx) (ρ : List V) (a : Act) (w : World) (g : Gh) (o : Oper) (res : Res) : Prop :=
  ∀ (K : Act → World → Prop) (Q : Exit → Act → World → Prop),
    (∀ val w' g', Fr (keys res.upd) w g w' g' → (∀ c h, look res.upd c = some h → h.ok x w' g' ρ c) → res.sv.ok (CV.ok x w' g' ρ) val → K (a.put o.dst val) w') → o.wp x.P a w K Q

section
variable {x : Fx} {Γ : G} {ρ : List V} {a : Act} {w : World} {g : Gh} {sl : Nat → SV} {ch : Nat → Option Ch} {o : Oper} {res : Res}

theorem Vw.opnd (hv : Vw x Γ ρ a w g sl ch) (y : Operand) : (opnd sl y).ok (CV.ok x w g ρ) (a.eval y) := by
  cases y with
  | tmp t => exact asRd_ok (hv.sl t)
  | const v => exact constSV_ok x w g ρ v
  | global n => trivial
  | func n => rfl

theorem Vw.cv (hv : Vw x Γ ρ a w g sl ch) {y : Operand} {c : CV} (h : Fw.opnd sl y = .cv c) : c.ok x w g ρ (a.eval y) := by
  have := hv.opnd y; rw [h] at this; exact this

theorem good_value {val : Value} {w' : World} {g' : Gh} (hr : (execOp a.eval o).run x.P w = .ok (.value val) w') (f : Fr (keys res.upd) w g w' g')
    (hu : ∀ c h, look res.upd c = some h → h.ok x w' g' ρ c) (hs : res.sv.ok (CV.ok x w' g' ρ) val) : Good x ρ a w g o res := by
  intro K Q hK
  unfold Oper.wp
  rw [hr]
  exact hK val w' g' f hu hs

theorem good_skip {w' : World} {g' : Gh} (hr : (execOp a.eval o).run x.P w = .ok .skip w') (f : Fr (keys res.upd) w g w' g')
    (hu : ∀ c h, look res.upd c = some h → h.ok x w' g' ρ c) (hs : res.sv = .cv .junk) : Good x ρ a w g o res := by
  intro K Q hK
  unfold Oper.wp
  rw [hr]
  exact hK undef w' g' f hu (by rw [hs]; trivial)

theorem good_pure (hv : Vw x Γ ρ a w g sl ch) {val : Value} (hr : (execOp a.eval o).run x.P w = .ok (.value val) w) (hn : res.upd = [])
    (hs : res.sv.ok (CV.ok x w g ρ) val) : Good x ρ a w g o res :=
  good_value hr (Fr.refl _ w g hv.rel.high (by simp [hn, keys, look])) (by simp [hn, look]) hs

/-- move, assign -/
theorem good_move (hv : Vw x Γ ρ a w g sl ch) {y : Operand} (ho : o.op = .move y ∨ o.op = .assign y) (hr : res = ⟨[], [], opnd sl y⟩) : Good x ρ a w g o res := by
  subst hr
  refine good_pure hv (val := a.eval y) ?_ rfl (hv.opnd y)
  rcases ho with ho | ho <;> simp [execOp, ho]

def stepPick (sl : Nat → SV) (c u v : Operand) : Option Res :=
  match opnd sl c with
  | .cv (.sc .bool (.kb true)) => some ⟨[], [], opnd sl u⟩
  | .cv (.sc .bool (.kb false)) => some ⟨[], [], opnd sl v⟩
  | _ => none

theorem good_pick (hv : Vw x Γ ρ a w g sl ch) {c u v : Operand} (ho : o.op = .pick c u v) (hr : stepPick sl c u v = some res) : Good x ρ a w g o res := by
  unfold stepPick at hr
  split at hr
  · rename_i hc
    obtain ⟨y, hy, z, hz, ev⟩ := hv.cv hc
    simp only [E.den, Option.some.injEq] at hy
    subst hy
    cases hz
    cases hr
    exact good_pure hv (val := a.eval u) (by simp [execOp, ho, ev, asBool]) rfl (hv.opnd u)
  · rename_i hc
    obtain ⟨y, hy, z, hz, ev⟩ := hv.cv hc
    simp only [E.den, Option.some.injEq] at hy
    subst hy
    cases hz
    cases hr
    exact good_pure hv (val := a.eval v) (by simp [execOp, ho, ev, asBool]) rfl (hv.opnd v)
  · cases hr

/-- integer operations -/
def binPm (op : BinOp) (k : IntKind) : Option (Pm × Sh) :=
  match op with
  | .add => some (.add k, .int k) | .sub => some (.sub k, .int k) | .mul => some (.mul k, .int k)
  | .quo => some (.quo k, .int k) | .rem => some (.rem k, .int k)
  | .and => some (.band k, .int k) | .or => some (.bor k, .int k) | .xor => some (.bxor k, .int k)
  | .eql => some (.eq, .bool) | .neq => some (.ne, .bool) | .lss => some (.lt, .bool) | .leq => some (.le, .bool) | .gtr => some (.gt, .bool) | .geq => some (.ge, .bool)
  | _ => none

def stepBin (n : Nat) (sl : Nat → SV) (T : Nat → Option TI) (op : BinOp) (xt : TypeId) (y z : Operand) : Option Res :=
  match opnd sl y, opnd sl z with
  | .cv (.sc (.int k) e), .cv (.sc (.int k') e') =>
    match op with
    | .shl => some ⟨[.pm (.shl k) [e, e']], [], .cv (.sc (.int k) (.v n))⟩
    | .shr => some ⟨[.pm (.shr k) [e, e']], [], .cv (.sc (.int k) (.v n))⟩
    | _ => if kindEq k k' then (match binPm op k with
      | some (p, sh) => some ⟨[.pm p [e, e']], [], .cv (.sc sh (.v n))⟩
      | none => none) else none
  | .cv (.sc .bool e), .cv (.sc .bool e') =>
    match T xt with
    | some ti => (match ti.kind with
      | .bool => (match op with
        | .eql => some ⟨[.pm .beq [e, e']], [], .cv (.sc .bool (.v n))⟩
        | .neq => some ⟨[.pm .bne [e, e']], [], .cv (.sc .bool (.v n))⟩
        | _ => none)
      | _ => none)
    | none => none
  | .cv (.sc .str e), .cv (.sc .str e') =>
    match op with
    | .add => some ⟨[.pm .scat [e, e']], [], .cv (.sc .str (.v n))⟩
    | .eql => some ⟨[.pm .seq [e, e']], [], .cv (.sc .bool (.v n))⟩
    | .neq => some ⟨[.pm .sne [e, e']], [], .cv (.sc .bool (.v n))⟩
    | _ => none
  | _, _ => none

theorem denL_two {ρ : List V} {e e' : E} {vs : List V} (h : denL ρ [e, e'] = some vs) : ∃ u v, e.den ρ = some u ∧ e'.den ρ = some v ∧ vs = [u, v] := by
  simp only [denL] at h
  cases h1 : e.den ρ with
  | none => simp [h1] at h
  | some u => cases h2 : e'.den ρ with
    | none => simp [h1, h2] at h
    | some v => rw [h1, h2] at h; cases h; exact ⟨u, v, rfl, rfl, rfl⟩

theorem denL_one {ρ : List V} {e : E} {vs : List V} (h : denL ρ [e] = some vs) : ∃ u, e.den ρ = some u ∧ vs = [u] := by
  simp only [denL] at h
  cases h1 : e.den ρ with
  | none => simp [h1] at h
  | some u => rw [h1] at h; cases h; exact ⟨u, rfl, rfl⟩

theorem denL_three {ρ : List V} {e e' e'' : E} {vs : List V} (h : denL ρ [e, e', e''] = some vs) : ∃ u v z, e.den ρ = some u ∧ e'.den ρ = some v ∧ e''.den ρ = some z ∧ vs = [u, v, z] := by
  simp only [denL] at h
  cases h1 : e.den ρ with
  | none => simp [h1] at h
  | some u => cases h2 : e'.den ρ with
    | none => simp [h1, h2] at h
    | some v => cases h3 : e''.den ρ with
      | none => simp [h1, h2, h3] at h
      | some z => rw [h1, h2, h3] at h; cases h; exact ⟨u, v, z, rfl, rfl, rfl, rfl⟩

theorem run_guard_int (op : BinOp) (xt : TypeId) (y z : Operand) (k : IntKind) (m : Int) (v : Value) (P : Program) (w : World) :
    (do eqGuard op xt y z (.int k m) v; binOp op xt (.int k m) v : Sem Value).run P w = (binOp op xt (.int k m) v).run P w := by
  simp [eqGuard_at_int]

theorem exec_bin {op : BinOp} {xt yt : TypeId} {y z : Operand} (ho : o.op = .binOp op xt y z yt) {val : Value} {w' : World}
    (hg : eqGuard op xt y z (a.eval y) (a.eval z) = Pure.pure ()) (h : (binOp op xt (a.eval y) (a.eval z)).run x.P w = .ok val w') :
    (execOp a.eval o).run x.P w = .ok (.value val) w' := by
  simp only [execOp, ho, hg]
  simp [h]

theorem toList_mk (l : List UInt8) : (ByteArray.mk l.toArray).toList = l := ByteArray.toList_mk l

theorem mk_append (a b : List UInt8) : (ByteArray.mk a.toArray) ++ (ByteArray.mk b.toArray) = ByteArray.mk (a ++ b).toArray := by
  apply ByteArray.ext
  rw [ByteArray.data_append]
  simp

theorem good_bin {T : Nat → Option TI} (hT : TabOk x.P T) (hv : Vw x Γ ρ a w g sl ch) {C : Nat → List V → List V → Prop} {n : Nat} {op : BinOp} {xt yt : TypeId} {y z : Operand}
    (ho : o.op = .binOp op xt y z yt) (hr : stepBin n sl T op xt y z = some res) (he : EmsOk C ρ n res.ems) : Good x ρ a w g o res := by
  unfold stepBin at hr
  split at hr
  · rename_i k e k' e' hy hz
    obtain ⟨vy, hvy, ny, rfl, ey⟩ := hv.cv hy
    obtain ⟨vz, hvz, nz, rfl, ez⟩ := hv.cv hz
    have hg : eqGuard op xt y z (a.eval y) (a.eval z) = Pure.pure () := by rw [ey]; exact eqGuard_at_int op xt y z _ k ny
    split at hr
    · cases hr
      obtain ⟨⟨vs, v, hd, hev, hn⟩, _⟩ := he
      obtain ⟨u1, u2, h1, h2, rfl⟩ := denL_two hd
      rw [hvy] at h1; cases h1; rw [hvz] at h2; cases h2
      simp only [Pm.ev] at hev
      split at hev
      · cases hev
      · rename_i hneg
        cases hev
        refine good_pure hv (val := .int k (k.wrap (ny * 2 ^ min nz.toNat k.bits))) (exec_bin ho hg ?_) rfl ⟨_, hn, _, rfl, rfl⟩
        rw [ey, ez]; simp [binOp, Op.shift, hneg]
    · cases hr
      obtain ⟨⟨vs, v, hd, hev, hn⟩, _⟩ := he
      obtain ⟨u1, u2, h1, h2, rfl⟩ := denL_two hd
      rw [hvy] at h1; cases h1; rw [hvz] at h2; cases h2
      simp only [Pm.ev] at hev
      split at hev
      · cases hev
      · rename_i hneg
        cases hev
        refine good_pure hv (val := .int k (ny.fdiv (2 ^ min nz.toNat k.bits))) (exec_bin ho hg ?_) rfl ⟨_, hn, _, rfl, rfl⟩
        rw [ey, ez]; simp [binOp, Op.shift, hneg]
    · split at hr
      · rename_i hk
        have hk := kindEq_eq hk
        subst hk
        split at hr
        · rename_i p sh hp
          cases hr
          obtain ⟨⟨vs, v, hd, hev, hn⟩, _⟩ := he
          obtain ⟨u1, u2, h1, h2, rfl⟩ := denL_two hd
          rw [hvy] at h1; cases h1; rw [hvz] at h2; cases h2
          cases op <;> simp only [binPm, Option.some.injEq, Prod.mk.injEq, reduceCtorEq] at hp <;> obtain ⟨rfl, rfl⟩ := hp <;> simp only [Pm.ev, Option.some.injEq] at hev
          case quo =>
            split at hev
            · cases hev
            · rename_i h0
              cases hev
              refine good_pure hv (val := .int k (k.wrap (ny.tdiv nz))) (exec_bin ho hg ?_) rfl ⟨_, hn, _, rfl, rfl⟩
              rw [ey, ez, binOp_quo]; simp [Op.intDiv, h0]
          case rem =>
            split at hev
            · cases hev
            · rename_i h0
              cases hev
              refine good_pure hv (val := .int k (ny.tmod nz)) (exec_bin ho hg ?_) rfl ⟨_, hn, _, rfl, rfl⟩
              rw [ey, ez, binOp_rem]; simp [Op.intDiv, h0]
          all_goals subst hev
          case add => exact good_pure hv (exec_bin ho hg (by rw [ey, ez, binOp_add]; simp [Op.intArith])) rfl ⟨_, hn, _, rfl, rfl⟩
          case sub => exact good_pure hv (exec_bin ho hg (by rw [ey, ez, binOp_sub]; simp [Op.intArith])) rfl ⟨_, hn, _, rfl, rfl⟩
          case mul => exact good_pure hv (exec_bin ho hg (by rw [ey, ez, binOp_mul]; simp [Op.intArith])) rfl ⟨_, hn, _, rfl, rfl⟩
          case and => exact good_pure hv (exec_bin ho hg (by rw [ey, ez, binOp_and]; simp [Op.intBits])) rfl ⟨_, hn, _, rfl, rfl⟩
          case or => exact good_pure hv (exec_bin ho hg (by rw [ey, ez, binOp_or]; simp [Op.intBits])) rfl ⟨_, hn, _, rfl, rfl⟩
          case xor => exact good_pure hv (exec_bin ho hg (by rw [ey, ez, binOp_xor]; simp [Op.intBits])) rfl ⟨_, hn, _, rfl, rfl⟩
          case eql => exact good_pure hv (exec_bin ho hg (by rw [ey, ez, binOp_eql]; rfl)) rfl ⟨_, hn, _, rfl, rfl⟩
          case neq => exact good_pure hv (exec_bin ho hg (by rw [ey, ez, binOp_neq]; rfl)) rfl ⟨_, hn, _, rfl, rfl⟩
          case lss => exact good_pure hv (exec_bin ho hg (by rw [ey, ez, binOp_lss]; rfl)) rfl ⟨_, hn, _, rfl, rfl⟩
          case leq => exact good_pure hv (exec_bin ho hg (by rw [ey, ez, binOp_leq]; rfl)) rfl ⟨_, hn, _, rfl, rfl⟩
          case gtr => exact good_pure hv (exec_bin ho hg (by rw [ey, ez, binOp_gtr]; rfl)) rfl ⟨_, hn, _, rfl, rfl⟩
          case geq => exact good_pure hv (exec_bin ho hg (by rw [ey, ez, binOp_geq]; rfl)) rfl ⟨_, hn, _, rfl, rfl⟩
        · cases hr
      · cases hr
  · rename_i e e' hy hz
    obtain ⟨vy, hvy, ny, rfl, ey⟩ := hv.cv hy
    obtain ⟨vz, hvz, nz, rfl, ez⟩ := hv.cv hz
    have hg : eqGuard op xt y z (a.eval y) (a.eval z) = Pure.pure () := by rw [ey]; exact eqGuard_at_bool op xt y z _ ny
    split at hr
    · rename_i ti hti
      split at hr
      · rename_i hk
        have hu : x.P.underlying xt = some .bool := by
          obtain ⟨d, hd, hkd, _⟩ := (hT _ _ hti).und
          rw [hk] at hkd
          cases d <;> simp_all [TK.desc]
        split at hr <;> first | (cases hr; done) | skip
        all_goals
          cases hr
          obtain ⟨⟨vs, v, hd, hev, hn⟩, _⟩ := he
          obtain ⟨u1, u2, h1, h2, rfl⟩ := denL_two hd
          rw [hvy] at h1; cases h1; rw [hvz] at h2; cases h2
          simp only [Pm.ev, Option.some.injEq] at hev
          subst hev
        · exact good_pure hv (exec_bin ho hg (by rw [ey, ez]; exact run_eql_bool w xt ny nz hu)) rfl ⟨_, hn, _, rfl, rfl⟩
        · exact good_pure hv (exec_bin ho hg (by rw [ey, ez]; exact run_neq_bool w xt ny nz hu)) rfl ⟨_, hn, _, rfl, rfl⟩
      · cases hr
    · cases hr
  · rename_i e e' hy hz
    obtain ⟨vy, hvy, ny, rfl, ey⟩ := hv.cv hy
    obtain ⟨vz, hvz, nz, rfl, ez⟩ := hv.cv hz
    have hg : eqGuard op xt y z (a.eval y) (a.eval z) = Pure.pure () := by rw [ey]; exact eqGuard_at_string op xt y z _ _
    split at hr <;> first | (cases hr; done) | skip
    all_goals
      cases hr
      obtain ⟨⟨vs, v, hd, hev, hn⟩, _⟩ := he
      obtain ⟨u1, u2, h1, h2, rfl⟩ := denL_two hd
      rw [hvy] at h1; cases h1; rw [hvz] at h2; cases h2
      simp only [Pm.ev, Option.some.injEq] at hev
    · split at hev
      · rename_i hle
        cases hev
        refine good_pure hv (exec_bin ho hg ?_) rfl ⟨_, hn, _, rfl, rfl⟩
        rw [ey, ez, binOp_string_add]
        have : ¬ (((ByteArray.mk ny.toArray).size + (ByteArray.mk nz.toArray).size : Nat) : Int) > IntKind.i64.max := by
          simp [ByteArray.size]; omega
        simp only [Op.stringOp, if_neg this]
        rw [Sem.run_pure, mk_append]
      · cases hev
    · subst hev
      exact good_pure hv (exec_bin ho hg (by rw [ey, ez, binOp_string_eql, toList_mk, toList_mk]; rfl)) rfl ⟨_, hn, _, rfl, rfl⟩
    · subst hev
      exact good_pure hv (exec_bin ho hg (by rw [ey, ez, binOp_string_neq, toList_mk, toList_mk]; rfl)) rfl ⟨_, hn, _, rfl, rfl⟩
  · cases hr

end
end Go.Proofs.YteleedlkdadogaaGreat.Fw
