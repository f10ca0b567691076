/- One operation's step; a region's operations in the order of the text. -/
import Derived.Test.YteleedlkdadogaaGreatFw36
namespace Go.Proofs.YteleedlkdadogaaGreat.Fw
open Go.RowKit

/-- What is known of booleans on this way. -/
def KnOk (ρ : List V) (kn : List (E × Bool)) : Prop := ∀ e b, (e, b) ∈ kn → e.den ρ = some (.b b)

def knows : List (E × Bool) → E → Option Bool
  | _, .kb b => some b
  | [], _ => none
  | (e', b) :: l, e => if e'.beq e then some b else knows l e

theorem knows_ok {ρ : List V} : ∀ {kn : List (E × Bool)} {e : E} {b : Bool}, KnOk ρ kn → knows kn e = some b → e.den ρ = some (.b b) := by
  intro kn
  induction kn with
  | nil =>
    intro e b _ h
    cases e <;> simp only [knows, Option.some.injEq, reduceCtorEq] at h
    subst h; rfl
  | cons p l ih =>
    intro e b hk h
    obtain ⟨e', b'⟩ := p
    have hrest : (if e'.beq e then some b' else knows l e) = some b → e.den ρ = some (.b b) := by
      intro h
      split at h
      · rename_i hb
        rw [← E.beq_eq hb, ← Option.some.inj h]
        exact hk _ _ List.mem_cons_self
      · exact ih (fun e b hm => hk e b (List.mem_cons_of_mem _ hm)) h
    cases e <;> simp only [knows, Option.some.injEq] at h
    case kb x => subst h; rfl
    all_goals exact hrest h

structure Tabs where
  T : Nat → Option TI
  Z : Nat → Option Sh
  S : Nat → Option Sg

def stepPickK (kn : List (E × Bool)) (sl : Nat → SV) (c u v : Operand) : Option Res :=
  match opnd sl c with
  | .cv (.sc .bool e) => match knows kn e with
    | some true => some ⟨[], [], opnd sl u⟩
    | some false => some ⟨[], [], opnd sl v⟩
    | none => none
  | _ => none

def opstep (B : Tabs) (kn : List (E × Bool)) (n id : Nat) (sl : Nat → SV) (ch : Nat → Option Ch) : Op → Option Res
  | .move y => some ⟨[], [], opnd sl y⟩
  | .assign y => some ⟨[], [], opnd sl y⟩
  | .pick c u v => stepPickK kn sl c u v
  | .alloc t => stepAlloc B.T ch id t
  | .box t y => stepBox B.T sl ch id t y
  | .build t parts => stepBuild B.T sl t parts.toList
  | .buildSlice t len parts => (match stepBuildSlice n id B.T B.Z sl ch t len parts.toList with
    | some r => some r
    | none => stepRows n B.T B.Z sl t len parts.toList)
  | .load t y => stepLoad n B.T sl ch t y
  | .store t y z => stepStore n B.T sl ch t y z
  | .nilCheck y => stepNil sl y
  | .binOp op xt y z _ => (match stepBin n sl B.T op xt y z with
    | some r => some r
    | none => stepTeq n B.T sl op xt y z)
  | .unOp op _ y => stepUn n sl op y
  | .convert src dst y => (match stepConvInt n B.T sl src dst y with
    | some r => some r
    | none => stepStr n B.T sl ch src dst y)
  | .makeSlice t l c => stepMake n id B.T B.Z sl ch t l c
  | .slice t y lo hi mx => stepSlice n B.T sl ch t y lo hi mx
  | .fieldAddr t y f => stepFieldAddr' B.T sl ch t y f
  | .indexAddr t y z => stepIndexAddr n B.T sl ch t y z
  | .index t y z => stepIndex n B.T sl t y z
  | .extract y i => stepExtract sl y i
  | .call { callee := .value (.func f), args, .. } => (match stepCall n id B.S sl ch f args.toList with
    | some r => some r
    | none => (match stepCallW n id B.S sl ch f args.toList with
      | some r => some r
      | none => stepCallEl n id B.S sl ch f args.toList))
  | .call { callee := .builtin .len, args, argTypes } => (match args.toList, argTypes.toList with
    | [y], [t] => stepLen n B.T sl ch t y
    | _, _ => none)
  | .call { callee := .builtin .append, args, argTypes } => (match args.toList, argTypes.toList with
    | [y, z], [t, u] => stepAppend n id B.T B.Z sl ch t u y z
    | _, _ => none)
  | .call { callee := .builtin .max, args, .. } => (match args.toList with
    | [y, z] => stepMM n sl true y z
    | _ => none)
  | .call { callee := .builtin .min, args, .. } => (match args.toList with
    | [y, z] => stepMM n sl false y z
    | _ => none)
  | _ => none

section
variable {x : Fx} {Γ : G} {ρ : List V} {a : Act} {w : World} {g : Gh} {sl : Nat → SV} {ch : Nat → Option Ch} {o : Oper} {res : Res}

theorem good_pickK (hv : Vw x Γ ρ a w g sl ch) {kn : List (E × Bool)} (hk : KnOk ρ kn) {c u v : Operand} (ho : o.op = .pick c u v) (hr : stepPickK kn sl c u v = some res) : Good x ρ a w g o res := by
  unfold stepPickK at hr
  split at hr
  · rename_i e hc
    obtain ⟨y, hy, z, rfl, ev⟩ := hv.cv hc
    split at hr
    · rename_i hkn
      rw [knows_ok hk hkn] at hy
      cases hy
      cases hr
      exact good_pure hv (val := a.eval u) (by simp [execOp, ho, ev, asBool]) rfl (hv.opnd u)
    · rename_i hkn
      rw [knows_ok hk hkn] at hy
      cases hy
      cases hr
      exact good_pure hv (val := a.eval v) (by simp [execOp, ho, ev, asBool]) rfl (hv.opnd v)
    · cases hr
  · cases hr

theorem arr1 {α : Type} {l : Array α} {y : α} (h : l.toList = [y]) : l = #[y] := by apply Array.ext'; rw [h]
theorem arr2 {α : Type} {l : Array α} {y z : α} (h : l.toList = [y, z]) : l = #[y, z] := by apply Array.ext'; rw [h]

/-- Each operation does what its step tells. -/
theorem good_op {B : Tabs} (hT : TabOk x.P B.T) {kn : List (E × Bool)} (hk : KnOk ρ kn) (hv : Vw x Γ ρ a w g sl ch) {n id : Nat} {op : Op} (ho : o.op = op) (hr : opstep B kn n id sl ch op = some res)
    (he : EmsOk (CC x.P B.S) ρ n res.ems) : Good x ρ a w g o res := by
  unfold opstep at hr
  split at hr
  · exact good_move hv (.inl ho) (Option.some.inj hr).symm
  · exact good_move hv (.inr ho) (Option.some.inj hr).symm
  · exact good_pickK hv hk ho hr
  · exact good_alloc hT hv ho hr
  · exact good_box (T := B.T) hv ho hr
  · exact good_build hT hv ho hr
  · split at hr
    · rename_i r hr'
      cases hr
      exact good_buildSlice hT hv ho hr' he
    · exact good_rows hT hv ho hr he
  · exact good_load hT hv ho hr he
  · exact good_store hT hv ho hr he
  · exact good_nil hv ho hr
  · split at hr
    · rename_i r hr'
      cases hr
      exact good_bin hT hv ho hr' he
    · exact good_teq hT hv ho hr he
  · exact good_un hv ho hr he
  · split at hr
    · rename_i r hr'
      cases hr
      exact good_convInt hT hv ho hr' he
    · exact good_str hT hv ho hr he
  · exact good_make hT hv ho hr he
  · exact good_slice hT hv ho hr he
  · exact good_fieldAddr' hT hv ho hr
  · exact good_indexAddr hT hv ho hr he
  · exact good_index hT hv ho hr he
  · exact good_extract hv ho hr
  · split at hr
    · rename_i r hr'
      cases hr
      exact good_call hv ho hr' he
    · split at hr
      · rename_i r hr'
        cases hr
        exact good_callW hv ho hr' he
      · exact good_callEl hv ho hr he
  · split at hr
    · rename_i h1 h2
      exact good_len hT hv (by rw [ho, arr1 h1, arr1 h2]) hr he
    · cases hr
  · split at hr
    · rename_i h1 h2
      exact good_append hT hv (by rw [ho, arr2 h1, arr2 h2]) hr he
    · cases hr
  · split at hr
    · rename_i h1
      exact good_mm (mx := true) hv (by rw [ho, arr2 h1]; rfl) hr he
    · cases hr
  · split at hr
    · rename_i h1
      exact good_mm (mx := false) hv (by rw [ho, arr2 h1]; rfl) hr he
    · cases hr
  · cases hr

end

def tmpsOf (op : Op) : List Nat := op.operands.toList.filterMap fun | .tmp t => some t | _ => none

def memN (k : Nat) : List Nat → Bool
  | [] => false
  | a :: l => Nat.beq a k || memN k l

theorem memN_iff {k : Nat} : ∀ {l : List Nat}, memN k l = true ↔ k ∈ l
  | [] => by simp [memN]
  | a :: l => by
    simp only [memN, Bool.or_eq_true, List.mem_cons, memN_iff (l := l)]
    constructor
    · rintro (h | h)
      · exact .inl (Nat.eq_of_beq_eq_true h).symm
      · exact .inr h
    · rintro (h | h)
      · subst h; left; simp
      · exact .inr h

def sumSz : List Sh → Nat
  | [] => 0
  | r :: rs => r.sz + sumSz rs

/-- How many chunk numbers an operation may take. -/
def widthOf (B : Tabs) : Op → Nat
  | .alloc _ => 1
  | .box _ _ => 1
  | .buildSlice _ _ _ => 1
  | .makeSlice _ _ _ => 1
  | .call { callee := .builtin .append, .. } => 1
  | .call { callee := .value (.func f), .. } => (match B.S f with
    | some (.rd _ rs) => sumSz rs
    | some (.w ps rs) => sumKd (rs.map Rk.kd) + sumNw ps
    | none => 0)
  | _ => 0

/-- The chunks that an operation may look at: those that its operands name, and the new numbers. -/
def Ch.inner : Ch → List Nat
  | .box cells _ => cells.flatMap CV.chunks
  | _ => []

def deepOf (B : Tabs) : Op → Bool
  | .call { callee := .value (.func f), .. } => (match B.S f with
    | some (.w _ _) => true
    | _ => false)
  | _ => false

def chunksOf (B : Tabs) (Γ : G) (id : Nat) (op : Op) : List Nat :=
  let cs := (tmpsOf op).flatMap (fun t => (Γ.slot t).chunks)
  (if deepOf B op then cs ++ cs.flatMap (fun c => (Γ.chunk c).inner) else cs) ++ (List.range (widthOf B op)).map (id + ·)

def seeS (Γ : G) (ts : List Nat) (t : Nat) : SV := if memN t ts then Γ.slot t else .cv .junk
def seeC (Γ : G) (cs : List Nat) (c : Nat) : Option Ch := if memN c cs then some (Γ.chunk c) else none

def stepAt (B : Tabs) (Γ : G) (kn : List (E × Bool)) (n id : Nat) (op : Op) : Option Res :=
  opstep B kn n id (seeS Γ (tmpsOf op)) (seeC Γ (chunksOf B Γ id op)) op

/-- What became of an operation: what its step told, or nothing, where its guard held it back. -/
structure Rc where
  o : Oper
  r : Option Res
  cs : List Nat

def Rc.app (Γ : G) (rc : Rc) : G :=
  match rc.r with
  | some res => (match rc.o.dst with
    | some d => (Γ.putChunks res.upd).putSlot d res.sv
    | none => Γ.putChunks res.upd)
  | none => (match rc.o.dst with
    | some d => Γ.putSlot d (.cv .und)
    | none => Γ)

def emLen : List Em → Nat
  | [] => 0
  | e :: es => e.len + emLen es

def emA : List Em → A → A
  | [], k => k
  | .pm p args :: es, k => .pm p args (emA es k)
  | .cl f args m :: es, k => .cl f args m (emA es k)

theorem EmsOk.app {C : Nat → List V → List V → Prop} {ρ : List V} (δ : List V) : ∀ {es : List Em} {n : Nat}, EmsOk C ρ n es → EmsOk C (ρ ++ δ) n es
  | [], _, _ => trivial
  | .pm p args :: es, n, ⟨⟨vs, v, h1, h2, h3⟩, h4⟩ => ⟨⟨vs, v, denL_app δ h1, h2, by rw [List.getElem?_append_left (List.getElem?_eq_some_iff.1 h3).1]; exact h3⟩, h4.app δ⟩
  | .cl f args m :: es, n, ⟨⟨vs, us, h1, h2, h3, h4⟩, h5⟩ => by
    refine ⟨⟨vs, us, denL_app δ h1, h2, h3, fun j hj => ?_⟩, h5.app δ⟩
    have := h4 j hj
    have hu : us[j]? = some us[j] := List.getElem?_eq_getElem (by omega)
    rw [hu] at this ⊢
    rw [List.getElem?_append_left (List.getElem?_eq_some_iff.1 this).1]
    exact this

/-- What a program asks of its first steps, and what is left to ask. -/
theorem emA_wp {C : Nat → List V → List V → Prop} {Q : Nat → List V → Prop} : ∀ {es : List Em} {k : A} {ρ : List V}, (emA es k).wp C Q ρ →
    ∃ δ, δ.length = emLen es ∧ EmsOk C (ρ ++ δ) ρ.length es ∧ k.wp C Q (ρ ++ δ)
  | [], k, ρ, h => ⟨[], rfl, trivial, by simpa [emA] using h⟩
  | .pm p args :: es, k, ρ, ⟨vs, v, h1, h2, h3⟩ => by
    obtain ⟨δ, d1, d2, d3⟩ := emA_wp h3
    refine ⟨v :: δ, by simp [emLen, Em.len, d1]; omega, ⟨⟨vs, v, denL_app _ h1, h2, by simp⟩, ?_⟩, by simpa using d3⟩
    simpa using d2
  | .cl f args m :: es, k, ρ, ⟨vs, us, h1, h2, h3, h4⟩ => by
    obtain ⟨δ, d1, d2, d3⟩ := emA_wp h4
    refine ⟨us ++ δ, by simp [emLen, Em.len, d1, h3], ⟨⟨vs, us, denL_app _ h1, h2, h3, fun j hj => ?_⟩, ?_⟩, by simpa using d3⟩
    · rw [List.getElem?_append_right (by omega), List.getElem?_append_left (by omega)]
      congr 1; omega
    · have : (ρ ++ us).length = ρ.length + m := by simp [h3]
      rw [this] at d2
      simpa using d2

/-- The state on the way. -/
structure St where
  Γ : G
  kn : List (E × Bool)
  n : Nat
  id : Nat

def guardOf (all : List Oper) (o : Oper) : Option (Option (Nat × Bool)) :=
  match o.guard with
  | none => some none
  | some (j, want) => match (all[j]?).bind (·.dst) with
    | some t => some (some (t, want))
    | none => none

/-- A region's operations, one by one; `fin` goes on behind the last, with what became of each. -/
def regT (B : Tabs) (all : List Oper) (fin : St → List Rc → Option A) : List Oper → St → List Rc → Option A
  | [], s, rs => fin s rs
  | o :: l, s, rs =>
    let go (kn : List (E × Bool)) : Option A :=
      match stepAt B s.Γ kn s.n s.id o.op with
      | none => none
      | some res => (regT B all fin l ⟨(Rc.mk o (some res) []).app s.Γ, kn, s.n + emLen res.ems, s.id + widthOf B o.op⟩ (rs ++ [⟨o, some res, chunksOf B s.Γ s.id o.op⟩])).map (emA res.ems)
    let skip (kn : List (E × Bool)) : Option A := regT B all fin l ⟨(Rc.mk o none []).app s.Γ, kn, s.n, s.id⟩ (rs ++ [⟨o, none, []⟩])
    match guardOf all o with
    | none => none
    | some none => go s.kn
    | some (some (t, want)) => match s.Γ.slot t with
      | .cv (.sc .bool e) => (match knows s.kn e with
        | some b => if b == want then go s.kn else skip s.kn
        | none => (match (if want then go ((e, true) :: s.kn) else skip ((e, true) :: s.kn)), (if want then skip ((e, false) :: s.kn) else go ((e, false) :: s.kn)) with
          | some A1, some A2 => some (.ite e A1 A2)
          | _, _ => none))
      | .cv .und => skip s.kn
      | _ => none

end Go.Proofs.YteleedlkdadogaaGreat.Fw
