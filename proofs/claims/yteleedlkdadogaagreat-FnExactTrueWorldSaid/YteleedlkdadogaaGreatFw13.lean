/- Contracts of functions, and their calls. -/
import Derived.Test.YteleedlkdadogaaGreatFw12
namespace Go.Proofs.YteleedlkdadogaaGreat.Fw
open Go.RowKit

/-- An argument: a struct is told by its cells, anything else is one cell. -/
def ArgOk (w : World) (p : Sh) (v : V) (a : Value) : Prop :=
  if p.isSt then ∃ cs : List Value, a = .agg cs.toArray ∧ Rd w (fun b => b < w.heap.size) p v cs else Rd w (fun b => b < w.heap.size) p v [a]

def argsOk (w : World) : List Sh → List V → List Value → Prop
  | [], [], [] => True
  | p :: ps, v :: vs, a :: as => ArgOk w p v a ∧ argsOk w ps vs as
  | _, _, _ => False

/-- A result: its own memory, each slice at the place that `lab` names. -/
def ResOk (w : World) (L : Nat → List Nat) (lab : Nat → List Nat) (r : Sh) (v : V) (a : Value) : Prop :=
  if r.isSt then ∃ (fs : List V) (cs : List Value), v = .t fs ∧ a = .agg cs.toArray ∧ r.chain = true ∧ fs.length = r.sz ∧ cs.length = r.sz ∧
      ∀ j s u d, r.leaf j = some s → fs[j]? = some u → cs[j]? = some d → Own w L s u [d] (lab j)
  else Own w L r v [a] (lab 0)

def ressOk (w : World) (L : Nat → List Nat) (lab : Nat → Nat → List Nat) : Nat → List Sh → List V → List Value → Prop
  | _, [], [], [] => True
  | k, r :: rs, v :: vs, a :: as => ResOk w L (lab k) r v a ∧ ressOk w L lab (k + 1) rs vs as
  | _, _, _, _ => False

def retVal : List Value → Value
  | [v] => v
  | vs => .tuple vs.toArray

/-- What stays behind a call that only reads what it was handed. -/
structure Left (w w' : World) (L' : Nat → List Nat) : Prop where
  env : Env w' w
  size : w.heap.size ≤ w'.heap.size
  old : ∀ b, b < w.heap.size → w'.heap[b]? = w.heap[b]? ∧ L' b = []
  high : ∀ b, w'.heap.size ≤ b → L' b = []

/-- Called with what shows vs, the function f returns what shows us, in memory of its own. -/
def SoundAt (P : Program) (f : FuncId) (ps rs : List Sh) (vs us : List V) : Prop :=
  ∀ (w : World) (args : List Value) (lab : Nat → Nat → List Nat), argsOk w ps vs args →
    Calls P f args.toArray w fun e w' => ∃ (L' : Nat → List Nat) (vals : List Value), e = .returned (retVal vals) ∧ Left w w' L' ∧ ressOk w' L' lab 0 rs us vals

/-- How a parameter is handed in: to be read alone; to be changed and told behind the call (or taken for good); by a pointer to its cells, of which those of kp stay as they are; a function. -/
inductive Pk where
  | rd (s : Sh)
  | own (s : Sh) (back : Bool)
  | ptr (s : Sh) (ty : TypeId) (kp : List Nat)
  | fn (f : Nat)

/-- A result: memory of its own; what can be read alone; a pointer to cells of its own. -/
inductive Rk where
  | val (s : Sh)
  | ro (s : Sh)
  | pt (s : Sh) (ty : TypeId)

inductive Sg where
  | rd (ps rs : List Sh)
  | w (ps : List Pk) (rs : List Rk)

/-- What is handed over, either way. -/
inductive Kd where
  | rd (s : Sh)
  | val (s : Sh)
  | pt (s : Sh) (ty : TypeId) (kp : List Nat)
  | fn (f : Nat)

def Pk.kd : Pk → Kd
  | .rd s => .rd s
  | .own s _ => .val s
  | .ptr s ty kp => .pt s ty kp
  | .fn f => .fn f

def Rk.kd : Rk → Kd
  | .val s => .val s
  | .ro s => .rd s
  | .pt s ty => .pt s ty []

/-- How many chunk numbers it takes. -/
def Kd.wd : Kd → Nat
  | .rd _ => 0
  | .val s => s.sz
  | .pt s _ _ => s.sz + 1
  | .fn _ => 0

def sumKd : List Kd → Nat
  | [] => 0
  | k :: ks => k.wd + sumKd ks

def memK (k : Nat) : List Nat → Bool
  | [] => false
  | a :: l => Nat.beq a k || memK k l

/-- A pointer to cells: the block's place is lab 0, that of the j-th cell lab (j + 1); the cells of kp are untold. -/
def PtrOk (w : World) (L : Nat → List Nat) (lab : Nat → List Nat) (s : Sh) (ty : TypeId) (kp : List Nat) (v : V) (a : Value) : Prop :=
  ∃ (b : Nat) (fs : List V) (cs : List Value), v = .t fs ∧ a = .pointer (some ⟨b, 0, none⟩) ∧ L b = lab 0 ∧ w.heap[b]? = some (.cells cs.toArray ty (0, 0)) ∧ s.chain = true ∧ fs.length = s.sz ∧ cs.length = s.sz ∧
    ∀ j s' u d, memK j kp = false → s.leaf j = some s' → fs[j]? = some u → cs[j]? = some d → Own w L s' u [d] (lab (j + 1))

/-- What can be read in S. -/
def RdOk (w : World) (S : Nat → Prop) (p : Sh) (v : V) (a : Value) : Prop :=
  if p.isSt then ∃ cs : List Value, a = .agg cs.toArray ∧ Rd w S p v cs else Rd w S p v [a]

def KdOk (w : World) (S : Nat → Prop) (L : Nat → List Nat) (lab : Nat → List Nat) : Kd → V → Value → Prop
  | .rd s, v, a => RdOk w S s v a
  | .val s, v, a => ResOk w L lab s v a
  | .pt s ty kp, v, a => PtrOk w L lab s ty kp v a
  | .fn f, _, a => a = .func (.func f) #[] #[]

def kdsOk (w : World) (S : Nat → Prop) (L : Nat → List Nat) (lab : Nat → Nat → List Nat) : Nat → List Kd → List V → List Value → Prop
  | _, [], [], [] => True
  | k, r :: rs, v :: vs, a :: as => KdOk w S L (lab k) r v a ∧ kdsOk w S L lab (k + 1) rs vs as
  | _, _, _, _ => False

/-- The place of the j-th cell of the k-th: a chunk each, from c on. -/
def kdLab : Nat → List Kd → Nat → Nat → List Nat
  | _, [], _, _ => []
  | c, _ :: _, 0, j => [c + j]
  | c, r :: rs, k + 1, j => kdLab (c + r.wd) rs k j

/-- The cells of kp are as they were. -/
def Kept (w w' : World) (kp : List Nat) (a : Value) : Prop :=
  ∀ (b : Nat) (ty ty' : TypeId) (cs cs' : Array Value), a = .pointer (some ⟨b, 0, none⟩) → w.heap[b]? = some (.cells cs ty (0, 0)) → w'.heap[b]? = some (.cells cs' ty' (0, 0)) → ∀ j, memK j kp = true → cs'[j]? = cs[j]?

def Pk.isBack : Pk → Bool
  | .own _ b => b
  | .ptr _ _ _ => true
  | _ => false

/-- What was handed in to be changed, behind the call. -/
def BackOk (w w' : World) (L : Nat → List Nat) (lab : Nat → List Nat) : Pk → Value → V → Prop
  | .own s _, a, u => ResOk w' L lab s u a
  | .ptr s ty kp, a, u => PtrOk w' L lab s ty kp u a ∧ Kept w w' kp a
  | _, _, _ => True

def backsOk (w w' : World) (L : Nat → List Nat) (lab : Nat → Nat → List Nat) : Nat → List Pk → List Value → List V → Prop
  | _, [], [], [] => True
  | k, p :: ps, a :: as, us => if p.isBack then (match us with
      | u :: us => BackOk w w' L (lab k) p a u ∧ backsOk w w' L lab (k + 1) ps as us
      | [] => False) else backsOk w w' L lab (k + 1) ps as us
  | _, _, _, _ => False

structure LeftW (w : World) (L0 : Nat → List Nat) (w' : World) (L' : Nat → List Nat) : Prop where
  env : Env w' w
  size : w.heap.size ≤ w'.heap.size
  old : ∀ b, b < w.heap.size → L0 b = [] → w'.heap[b]? = w.heap[b]? ∧ L' b = []
  high : ∀ b, w'.heap.size ≤ b → L' b = []

/-- Called with what shows vs, f answers us: its results, then what has become of what it was handed to change. -/
def SoundW (P : Program) (f : FuncId) (ps : List Pk) (rs : List Rk) (vs us : List V) : Prop :=
  ∀ (w : World) (args : List Value) (S : Nat → Prop) (L0 : Nat → List Nat) (lab : Nat → Nat → List Nat), (∀ b, S b → b < w.heap.size ∧ L0 b = []) → (∀ b, w.heap.size ≤ b → L0 b = []) →
    kdsOk w S L0 (kdLab 1 (ps.map Pk.kd)) 0 (ps.map Pk.kd) vs args →
    Calls P f args.toArray w fun e w' => ∃ (L' : Nat → List Nat) (vals : List Value) (us1 us2 : List V), us = us1 ++ us2 ∧ e = .returned (retVal vals) ∧ LeftW w L0 w' L' ∧
      kdsOk w' (fun b => S b ∨ (L' b).getLast? = some 0) L' lab 0 (rs.map Rk.kd) us1 vals ∧ backsOk w w' L' lab rs.length ps args us2

def callable (P : Program) (f : FuncId) : Bool :=
  match P.funcs[f]? with
  | some fn => fn.body.isSome && !(fn.name == "runtime.NumGoroutine")
  | none => false

/-- What a call may be taken to answer. -/
def CC (P : Program) (S : Nat → Option Sg) (f : Nat) (vs us : List V) : Prop :=
  callable P f = true ∧ match S f with
    | some (.rd ps rs) => SoundAt P f ps rs vs us
    | some (.w ps rs) => SoundW P f ps rs vs us
    | none => False

theorem run_callFunc {P : Program} {f : FuncId} (h : callable P f = true) (args : Array Value) (w : World) : (callFunc f args).run P w = .ok (.enter f args) w := by
  unfold callable at h
  split at h
  · rename_i fn hf
    simp only [Bool.and_eq_true, Bool.not_eq_true', Option.isSome_iff_exists] at h
    obtain ⟨⟨c, hc⟩, hn⟩ := h
    have hn' : ¬ fn.name = "runtime.NumGoroutine" := by simpa using hn
    simp [callFunc, hf, hc, hn']
  · cases h

/-- The readable value of a cell that is handed on. -/
def openLeaf (ch : Nat → Option Ch) : Sh → CV → Option E
  | .int k, .sc (.int k') e => if kindEq k k' then some e else none
  | .bool, .sc .bool e => some e
  | .str, .sc .str e => some e
  | .sl _ _, .nil => some .kl
  | .sl e _, .rd src e' _ y => if liveIn ch src && e.beq e' then some y else none
  | .sl e _, .own c => match ch c with
    | some (.arr _ e' _ y) => if e.beq e' then some y else none
    | _ => none
  | _, _ => none

def openCells (ch : Nat → Option Ch) : Sh → List CV → Option (List E)
  | .nil, [] => some []
  | .cons h t, c :: cs => match openLeaf ch h c, openCells ch t cs with
    | some y, some ys => some (y :: ys)
    | _, _ => none
  | _, _ => none

def openArg (ch : Nat → Option Ch) (p : Sh) (s : SV) : Option E :=
  if p.isSt then (match s with
    | .agg cs => (openCells ch p cs).map mkT
    | _ => none)
  else match s with
    | .cv c => openLeaf ch p c
    | _ => none

def openArgs (ch : Nat → Option Ch) (sl : Nat → SV) : List Sh → List Operand → Option (List E)
  | [], [] => some []
  | p :: ps, y :: ys => match openArg ch p (opnd sl y), openArgs ch sl ps ys with
    | some e, some es => some (e :: es)
    | _, _ => none
  | _, _ => none

section
variable {x : Fx} {Γ : G} {ρ : List V} {a : Act} {w : World} {g : Gh} {sl : Nat → SV} {ch : Nat → Option Ch} {o : Oper} {res : Res}

theorem Src.lt (hv : Vw x Γ ρ a w g sl ch) (src : Src) : ∀ b, src.S x g b → b < w.heap.size := by
  intro b hb
  cases src with
  | st =>
    rcases hb with hb | hb
    · exact (hv.rel.st b (x.sub b hb)).1
    · exact last_lt hv.rel.high hb
  | ch c ver => exact last_lt hv.rel.high hb

theorem openLeaf_ok (hv : Vw x Γ ρ a w g sl ch) {s : Sh} {c : CV} {val : Value} (hc : c.ok x w g ρ val) {y : E} (h : openLeaf ch s c = some y) :
    ∃ v, y.den ρ = some v ∧ Rd w (fun b => b < w.heap.size) s v [val] := by
  unfold openLeaf at h
  split at h
  · split at h
    · rename_i hk
      have := kindEq_eq hk
      subst this
      cases h
      obtain ⟨v, h1, h2⟩ := hc
      exact ⟨v, h1, val, rfl, h2⟩
    · cases h
  · cases h
    obtain ⟨v, h1, h2⟩ := hc
    exact ⟨v, h1, val, rfl, h2⟩
  · cases h
    obtain ⟨v, h1, h2⟩ := hc
    exact ⟨v, h1, val, rfl, h2⟩
  · cases h
    cases hc
    exact ⟨.l [], rfl, [], none, 0, 0, rfl, rfl, rfl, Nat.le_refl _, by simp [maxLen], fun _ => rfl, .inl rfl⟩
  · rename_i e et src e' et' y'
    split at h
    · rename_i hb
      simp only [Bool.and_eq_true] at hb
      have := Sh.beq_eq hb.2
      subst this
      cases h
      obtain ⟨_, _, hbody⟩ := hc
      obtain ⟨v, h1, h2⟩ := hbody (liveIn_ok hv hb.1).2
      exact ⟨v, h1, h2.frame (fun b hb => ⟨rfl, Src.lt hv src b hb⟩)⟩
    · cases h
  · rename_i e et c
    split at h
    · rename_i ver e' et' y' hch
      split at h
      · rename_i hb
        have := Sh.beq_eq hb
        subst this
        cases h
        obtain ⟨v, val', hio, hy, hgv, how⟩ := hv.chok hch
        obtain ⟨_, hio'⟩ := hc
        rw [hio] at hio'; cases hio'
        have h1 : Rd w (fun b => b < w.heap.size) (.sl e et') v [val] := how.rd (fun b q hb => last_lt (g := g) hv.rel.high (c := c) (by rw [hb]; simp))
        exact ⟨v, hy, h1⟩
      · cases h
    · cases h
  · cases h

theorem openCells_ok (hv : Vw x Γ ρ a w g sl ch) : ∀ {p : Sh} {cs : List CV} {vals : List Value}, cellsOk (CV.ok x w g ρ) cs vals → ∀ {ys : List E}, openCells ch p cs = some ys →
    ∃ vs, denL ρ ys = some vs ∧ Rd w (fun b => b < w.heap.size) p (.t vs) vals
  | .nil, [], [], _, ys, h => by
    simp only [openCells, Option.some.injEq] at h
    subst h
    exact ⟨[], rfl, rfl, rfl⟩
  | .cons s t, c :: cs, val :: vals, hc, ys, h => by
    simp only [openCells] at h
    split at h
    · rename_i y ys' h1 h2
      cases h
      obtain ⟨v, hy, hr⟩ := openLeaf_ok hv hc.1 h1
      obtain ⟨vs, hvs, hrs⟩ := openCells_ok hv hc.2 h2
      exact ⟨v :: vs, by simp [denL, hy, hvs], v, vs, val, vals, rfl, rfl, hr, hrs⟩
    · cases h
  | .nil, _ :: _, _, _, _, h => by cases h
  | .nil, [], _ :: _, hc, _, _ => hc.elim
  | .cons _ _, [], _, _, _, h => by cases h
  | .cons _ _, _ :: _, [], hc, _, _ => hc.elim
  | .int _, _, _, _, _, h => by cases h
  | .bool, _, _, _, _, h => by cases h
  | .str, _, _, _, _, h => by cases h
  | .sl _ _, _, _, _, _, h => by cases h

theorem openArg_ok (hv : Vw x Γ ρ a w g sl ch) {p : Sh} {s : SV} {val : Value} (hs : s.ok (CV.ok x w g ρ) val) {y : E} (h : openArg ch p s = some y) :
    ∃ v, y.den ρ = some v ∧ ArgOk w p v val := by
  unfold openArg at h
  unfold ArgOk
  split at h
  · rename_i hp
    simp only [hp, if_true]
    split at h
    · rename_i cs
      simp only [Option.map_eq_some_iff] at h
      obtain ⟨ys, h1, rfl⟩ := h
      obtain ⟨vs, rfl, hc⟩ := hs
      obtain ⟨us, hus, hr⟩ := openCells_ok hv hc h1
      exact ⟨.t us, mkT_den hus, vs, rfl, hr⟩
    · cases h
  · rename_i hp
    simp only [hp, if_false]
    split at h
    · exact openLeaf_ok hv hs h
    · cases h

theorem openArgs_ok (hv : Vw x Γ ρ a w g sl ch) : ∀ {ps : List Sh} {ys : List Operand} {es : List E}, openArgs ch sl ps ys = some es → ∃ vs, denL ρ es = some vs ∧ argsOk w ps vs (ys.map a.eval)
  | [], [], es, h => by
    simp only [openArgs, Option.some.injEq] at h
    subst h
    exact ⟨[], rfl, trivial⟩
  | p :: ps, y :: ys, es, h => by
    simp only [openArgs] at h
    split at h
    · rename_i e es' h1 h2
      cases h
      obtain ⟨v, hv1, ha⟩ := openArg_ok hv (hv.opnd y) h1
      obtain ⟨vs, hvs, has⟩ := openArgs_ok hv h2
      exact ⟨v :: vs, by simp [denL, hv1, hvs], ha, has⟩
    · cases h
  | [], _ :: _, _, h => by cases h
  | _ :: _, [], _, h => by cases h

/-- What a result's cells are known as: each slice a chunk of its own, numbered id + the cells ahead of it. -/
def resCV (id : Nat) (s : Sh) (y : E) : CV :=
  match s with
  | .int k => .sc (.int k) y
  | .bool => .sc .bool y
  | .str => .sc .str y
  | .sl _ _ => .own id
  | _ => .junk

def resCh (id : Nat) (s : Sh) (y : E) : List (Nat × Ch) :=
  match s with
  | .sl e et => [(id, .arr 1 e et y)]
  | _ => []

def resCells (id : Nat) (y : E) : Nat → Sh → List CV
  | j, .cons h t => resCV (id + j) h (.pj y j) :: resCells id y (j + 1) t
  | _, _ => []

def resChs (id : Nat) (y : E) : Nat → Sh → List (Nat × Ch)
  | j, .cons h t => resCh (id + j) h (.pj y j) ++ resChs id y (j + 1) t
  | _, _ => []

def resOne (id : Nat) (r : Sh) (y : E) : Bool × List CV := if r.isSt then (true, resCells id y 0 r) else (false, [resCV id r y])
def resOneCh (id : Nat) (r : Sh) (y : E) : List (Nat × Ch) := if r.isSt then resChs id y 0 r else resCh id r y

def resAll : Nat → Nat → List Sh → List (Bool × List CV)
  | _, _, [] => []
  | id, n, r :: rs => resOne id r (.v n) :: resAll (id + r.sz) (n + 1) rs

def resAllCh : Nat → Nat → List Sh → List (Nat × Ch)
  | _, _, [] => []
  | id, n, r :: rs => resOneCh id r (.v n) ++ resAllCh (id + r.sz) (n + 1) rs

def resSV (xs : List (Bool × List CV)) : SV :=
  match xs with
  | [(false, [c])] => .cv c
  | [(true, cs)] => .agg cs
  | xs => .tup xs

/-- the chunk of the j-th cell of the k-th result -/
def resLab : Nat → List Sh → Nat → Nat → List Nat
  | _, [], _, _ => []
  | id, _ :: _, 0, j => [id + j]
  | id, r :: rs, k + 1, j => resLab (id + r.sz) rs k j

def allFresh (ch : Nat → Option Ch) : List (Nat × Ch) → Bool
  | [] => true
  | (c, _) :: l => (match ch c with | some .fresh => !(Nat.beq c 0) | _ => false) && allFresh ch l

def stepCall (n id : Nat) (S : Nat → Option Sg) (sl : Nat → SV) (ch : Nat → Option Ch) (f : Nat) (args : List Operand) : Option Res :=
  match S f with
  | none => none
  | some (.w _ _) => none
  | some (.rd ps rs) => match openArgs ch sl ps args with
    | none => none
    | some es =>
      if allFresh ch (resAllCh id n rs) && nodupB ((resAllCh id n rs).map (·.1)) then some ⟨[.cl f es rs.length], resAllCh id n rs, resSV (resAll id n rs)⟩ else none

theorem allFresh_spec : ∀ {l : List (Nat × Ch)}, allFresh ch l = true → ∀ c h, (c, h) ∈ l → ch c = some .fresh ∧ c ≠ 0
  | (c0, h0) :: l, hl, c, h, hm => by
    simp only [allFresh, Bool.and_eq_true] at hl
    cases hm with
    | head =>
      split at hl
      · rename_i hc; exact ⟨hc, by intro e; subst e; simp at hl⟩
      · simp at hl
    | tail _ hm => exact allFresh_spec hl.2 c h hm

/-- The ghosts behind a call: what its results own, by the labels that they bear; the rest as it was. -/
def Gh.called (g : Gh) (n0 : Nat) (L' : Nat → List Nat) (vals : Nat → Option Value) (T : Nat → Bool) : Gh :=
  { L := fun b => if b < n0 then g.L b else L' b, io := fun c => if T c then vals c else g.io c, gv := fun c => if T c then g.gv c + 1 else g.gv c }

def resVal (r : Sh) (v : Value) (i : Nat) : Option Value := if r.isSt then (match v with | .agg cs => cs[i]? | _ => none) else some v

/-- The value that belongs to each chunk of the results. -/
def resVals (id : Nat) : List Sh → List Value → Nat → Option Value
  | [], _, _ => none
  | _ :: _, [], _ => none
  | r :: rs, v :: vs, c => if id ≤ c ∧ c < id + r.sz then resVal r v (c - id) else resVals (id + r.sz) rs vs c

theorem resOneCh_ge {id : Nat} {r : Sh} {y : E} : ∀ c h, (c, h) ∈ resOneCh id r y → id ≤ c ∧ c < id + r.sz := by
  unfold resOneCh
  have hone : ∀ (i : Nat) (s : Sh) (y : E) c h, (c, h) ∈ resCh i s y → c = i := by
    intro i s y c h hm
    cases s <;> simp [resCh] at hm
    exact hm.1
  split
  · have : ∀ (r' : Sh) (j : Nat) c h, (c, h) ∈ resChs id y j r' → id + j ≤ c ∧ c < id + j + r'.sz := by
      intro r'
      induction r' with
      | cons s t ih1 ih2 =>
        intro j c h hm
        simp only [resChs, List.mem_append] at hm
        rcases hm with hm | hm
        · have := hone _ _ _ _ _ hm; subst this; simp only [Sh.sz]; omega
        · have := ih2 (j + 1) c h hm; simp only [Sh.sz]; omega
      | _ => intro j c h hm; simp [resChs] at hm
    intro c h hm
    have := this r 0 c h hm
    omega
  · rename_i hs
    intro c h hm
    have := hone _ _ _ _ _ hm
    subst this
    have : r.sz = 1 := by cases r <;> first | rfl | exact absurd rfl hs
    omega

theorem resAllCh_ge : ∀ {rs : List Sh} {id n : Nat} c h, (c, h) ∈ resAllCh id n rs → id ≤ c
  | r :: rs, id, n, c, h, hm => by
    simp only [resAllCh, List.mem_append] at hm
    rcases hm with hm | hm
    · exact (resOneCh_ge c h hm).1
    · have := resAllCh_ge c h hm; omega

/-- What is known of one cell of a result. -/
theorem res_leaf {w' : World} {g' : Gh} {L' : Nat → List Nat} {s : Sh} {c : Nat} {y : E} {v : V} {d : Value} (hy : y.den ρ = some v) (how : Own w' L' s v [d] [c])
    (hL : ∀ sh v cs, Own w' L' sh v cs [c] → Own w' g'.L sh v cs [c]) (hio : (∃ h, (c, h) ∈ resCh c s y) → g'.io c = some d) (hgv : (∃ h, (c, h) ∈ resCh c s y) → g'.gv c = 1) :
    (resCV c s y).ok x w' g' ρ d ∧ ∀ c' h, (c', h) ∈ resCh c s y → h.ok x w' g' ρ c' := by
  cases s with
  | int k => obtain ⟨c', h1, h2⟩ := how; cases h1; exact ⟨⟨v, hy, h2⟩, fun c' h hm => by simp [resCh] at hm⟩
  | bool => obtain ⟨c', h1, h2⟩ := how; cases h1; exact ⟨⟨v, hy, h2⟩, fun c' h hm => by simp [resCh] at hm⟩
  | str => obtain ⟨c', h1, h2⟩ := how; cases h1; exact ⟨⟨v, hy, h2⟩, fun c' h hm => by simp [resCh] at hm⟩
  | sl e et =>
    have h1 := hio ⟨_, List.mem_singleton.2 rfl⟩
    have h2 := hgv ⟨_, List.mem_singleton.2 rfl⟩
    refine ⟨⟨?_, h1⟩, fun c' h hm => ?_⟩
    · obtain ⟨_, _, _, _, _, hcs, _⟩ := how
      cases hcs; rfl
    · simp only [resCh, List.mem_singleton, Prod.mk.injEq] at hm
      obtain ⟨rfl, rfl⟩ := hm
      exact ⟨v, d, h1, hy, h2, hL _ _ _ how⟩
  | nil => exact ⟨trivial, fun c' h hm => by simp [resCh] at hm⟩
  | cons a b => exact ⟨trivial, fun c' h hm => by simp [resCh] at hm⟩

theorem res_cells {w' : World} {g' : Gh} {L' : Nat → List Nat} {id : Nat} {y : E} {fs : List V} {cs : List Value} (hy : y.den ρ = some (.t fs)) :
    ∀ (r : Sh) (j : Nat) (ds : List Value), r.chain = true → cs.drop j = ds → ds.length = r.sz → (fs.drop j).length = r.sz →
      (∀ i s u d, r.leaf i = some s → fs[j + i]? = some u → cs[j + i]? = some d → Own w' L' s u [d] [id + (j + i)]) →
      (∀ c sh v cs, Own w' L' sh v cs [c] → Own w' g'.L sh v cs [c]) → (∀ i d, (∃ h, (id + (j + i), h) ∈ resChs id y j r) → cs[j + i]? = some d → g'.io (id + (j + i)) = some d) →
      (∀ c, (∃ h, (c, h) ∈ resChs id y j r) → g'.gv c = 1) →
      cellsOk (CV.ok x w' g' ρ) (resCells id y j r) ds ∧ ∀ c' h, (c', h) ∈ resChs id y j r → h.ok x w' g' ρ c' := by
  intro r
  induction r with
  | nil => intro j ds _ _ hl _ _ _ _ _; rw [List.eq_nil_of_length_eq_zero hl]; exact ⟨trivial, fun c' h hm => by simp [resChs] at hm⟩
  | cons s t ih1 ih2 =>
    intro j ds hc hd hl hfl how hL hio hgv
    match ds, hl with
    | d :: ds, hl =>
      have hj : cs[j]? = some d := by have := congrArg (·[0]?) hd; simpa using this
      have hd' : cs.drop (j + 1) = ds := by have := congrArg (List.drop 1) hd; simpa using this
      obtain ⟨u, hu⟩ : ∃ u, fs[j]? = some u := ⟨fs[j]'(by simp [Sh.sz] at hfl; omega), List.getElem?_eq_getElem _⟩
      have h1 := res_leaf (x := x) (ρ := ρ) (g' := g') (c := id + j) (y := .pj y j) (by simp [E.den, hy, hu]) (how 0 s u d rfl (by simpa using hu) (by simpa using hj)) (hL _)
        (fun ⟨h, hm⟩ => by have := hio 0 d ⟨h, by simp only [resChs, List.mem_append]; left; simpa using hm⟩ (by simpa using hj); simpa using this)
        (fun ⟨h, hm⟩ => hgv _ ⟨h, by simp only [resChs, List.mem_append]; left; exact hm⟩)
      have h2 := ih2 (j + 1) ds hc hd' (by simpa [Sh.sz] using hl) (by simp [Sh.sz] at hfl ⊢; omega)
        (fun i s' u' d' e1 e2 e3 => by rw [show j + 1 + i = j + (i + 1) by omega] at e2 e3 ⊢; exact how (i + 1) s' u' d' e1 e2 e3) hL
        (fun i d' ⟨h, hm⟩ e3 => by
          rw [show j + 1 + i = j + (i + 1) by omega] at hm e3 ⊢
          exact hio (i + 1) d' ⟨h, by simp only [resChs, List.mem_append]; right; exact hm⟩ e3)
        (fun c ⟨h, hm⟩ => hgv c ⟨h, by simp only [resChs, List.mem_append]; right; exact hm⟩)
      refine ⟨⟨h1.1, h2.1⟩, fun c' h hm => ?_⟩
      simp only [resChs, List.mem_append] at hm
      rcases hm with hm | hm
      · exact h1.2 c' h hm
      · exact h2.2 c' h hm
  | _ => intro j ds hc; cases hc

theorem res_all {w' : World} {g' : Gh} {L' : Nat → List Nat} {lab : Nat → Nat → List Nat} : ∀ {rs : List Sh} {id n k : Nat} {us : List V} {vals : List Value}, ressOk w' L' lab k rs us vals → (∀ k' j, lab (k + k') j = resLab id rs k' j) →
    (∀ j, j < rs.length → ρ[n + j]? = us[j]?) → (∀ c sh v cs, Own w' L' sh v cs [c] → Own w' g'.L sh v cs [c]) → (∀ c h, (c, h) ∈ resAllCh id n rs → g'.io c = resVals id rs vals c) → (∀ c h, (c, h) ∈ resAllCh id n rs → g'.gv c = 1) →
    tupOk (CV.ok x w' g' ρ) (resAll id n rs) vals ∧ ∀ c h, (c, h) ∈ resAllCh id n rs → h.ok x w' g' ρ c
  | [], id, n, k, [], [], _, _, _, _, _, _ => ⟨trivial, fun c h hm => by simp [resAllCh] at hm⟩
  | r :: rs, id, n, k, u :: us, v :: vals, hr, hlab, hρ, hL, hio, hgv => by
    have hy : (E.v n).den ρ = some u := by have := hρ 0 (by simp); simpa [E.den] using this
    have hlab0 : ∀ j, lab k j = [id + j] := fun j => hlab 0 j
    obtain ⟨t1, t2⟩ := res_all (n := n + 1) (id := id + r.sz) hr.2 (fun k' j => by rw [show k + 1 + k' = k + (k' + 1) by omega]; exact hlab (k' + 1) j)
      (fun j hj => by rw [show n + 1 + j = n + (j + 1) by omega]; have := hρ (j + 1) (by simp; omega); simpa using this) hL
      (fun c h hm => by
        have hge := resAllCh_ge c h hm
        rw [hio c h (by simp only [resAllCh, List.mem_append]; right; exact hm)]
        simp only [resVals]
        rw [if_neg (by omega)])
      (fun c h hm => hgv c h (by simp only [resAllCh, List.mem_append]; right; exact hm))
    have hone : oneOk (CV.ok x w' g' ρ) (resOne id r (.v n)) v ∧ ∀ c h, (c, h) ∈ resOneCh id r (.v n) → h.ok x w' g' ρ c := by
      have hio' : ∀ c h, (c, h) ∈ resOneCh id r (.v n) → g'.io c = resVal r v (c - id) := by
        intro c h hm
        have hge := resOneCh_ge c h hm
        rw [hio c h (by simp only [resAllCh, List.mem_append]; left; exact hm)]
        simp only [resVals]
        rw [if_pos hge]
      have hgv' : ∀ c h, (c, h) ∈ resOneCh id r (.v n) → g'.gv c = 1 := fun c h hm => hgv c h (by simp only [resAllCh, List.mem_append]; left; exact hm)
      have hr1 := hr.1
      unfold ResOk at hr1
      unfold resOne resOneCh at *
      unfold resVal at hio'
      by_cases hs : r.isSt = true
      · simp only [hs, if_true] at *
        obtain ⟨fs, cs, rfl, rfl, hch, hfl, hcl, hleaf⟩ := hr1
        have := res_cells (x := x) (ρ := ρ) (g' := g') (w' := w') (L' := L') (id := id) (y := .v n) (fs := fs) (cs := cs) hy r 0 cs hch rfl hcl (by simpa using hfl)
          (fun i s u d e1 e2 e3 => by rw [Nat.zero_add] at *; have := hleaf i s u d e1 e2 e3; rw [hlab0] at this; exact this) hL
          (fun i d ⟨h, hm⟩ e3 => by rw [hio' _ h hm]; simpa using e3) (fun c ⟨h, hm⟩ => hgv' c h hm)
        exact ⟨⟨cs, rfl, this.1⟩, this.2⟩
      · simp only [hs, if_false, Bool.false_eq_true] at *
        rw [hlab0] at hr1
        have := res_leaf (x := x) (ρ := ρ) (g' := g') (c := id) (y := .v n) hy hr1 (hL _) (fun ⟨h, hm⟩ => hio' id h hm) (fun ⟨h, hm⟩ => hgv' id h hm)
        exact ⟨⟨this.1, trivial⟩, this.2⟩
    refine ⟨⟨hone.1, t1⟩, fun c h hm => ?_⟩
    simp only [resAllCh, List.mem_append] at hm
    rcases hm with hm | hm
    · exact hone.2 c h hm
    · exact t2 c h hm
  | [], _, _, _, _ :: _, _, hr, _, _, _, _, _ => hr.elim
  | [], _, _, _, [], _ :: _, hr, _, _, _, _, _ => hr.elim
  | _ :: _, _, _, _, [], _, hr, _, _, _, _, _ => hr.elim
  | _ :: _, _, _, _, _ :: _, [], hr, _, _, _, _, _ => hr.elim

theorem tupOk.length {ok : CV → Value → Prop} : ∀ {cs : List (Bool × List CV)} {vs : List Value}, tupOk ok cs vs → cs.length = vs.length
  | [], [], _ => rfl
  | _ :: _, _ :: _, h => by simp [tupOk.length h.2]
  | [], _ :: _, h => h.elim
  | _ :: _, [], h => h.elim

theorem resSV_ok {ok : CV → Value → Prop} {xs : List (Bool × List CV)} {vals : List Value} (h : tupOk ok xs vals) : (resSV xs).ok ok (retVal vals) := by
  have hl := h.length
  unfold resSV
  split
  · rename_i c
    match vals, h with
    | [v], h => exact h.1.1
  · rename_i cs
    match vals, h with
    | [v], h => exact h.1
  · rename_i h1 h2
    match xs, vals, h with
    | [], [], _ => exact ⟨[], rfl, trivial⟩
    | [(false, [])], [v], h => exact h.1.elim
    | [(false, [c])], [v], h => exact absurd rfl (h1 c)
    | [(false, _ :: _ :: _)], [v], h => exact h.1.2.elim
    | [(true, cs)], [v], h => exact absurd rfl (h2 cs)
    | a :: b :: xs, u :: v :: vals, h => exact ⟨_, rfl, h⟩

theorem good_call {S : Nat → Option Sg} (hv : Vw x Γ ρ a w g sl ch) {n id f : Nat} {args : Array Operand} {ts : Array TypeId} (ho : o.op = .call { callee := .value (.func f), args := args, argTypes := ts })
    (hr : stepCall n id S sl ch f args.toList = some res) (he : EmsOk (CC x.P S) ρ n res.ems) : Good x ρ a w g o res := by
  unfold stepCall at hr
  split at hr
  · cases hr
  · cases hr
  · rename_i ps rs hS
    split at hr
    · cases hr
    · rename_i es hes
      split at hr
      · rename_i hcond
        simp only [Bool.and_eq_true] at hcond
        cases hr
        obtain ⟨⟨vs, us, hd, ⟨hcall, hsound⟩, hlen, hρ⟩, _⟩ := he
        rw [hS] at hsound
        obtain ⟨vs', hvs, hargs⟩ := openArgs_ok hv hes
        rw [hd] at hvs
        cases hvs
        intro K Q hK
        have hrun : (execOp a.eval o).run x.P w = .ok (.enter f (args.map a.eval)) w := by
          simp only [execOp, ho, resolve, Act.eval]
          simp [Deferred.ofValue, invoke, run_callFunc hcall]
        unfold Oper.wp
        rw [hrun]
        have hc := hsound w (args.toList.map a.eval) (resLab id rs) hargs
        have hargs' : (args.toList.map a.eval).toArray = args.map a.eval := by
          apply Array.ext'
          simp
        rw [hargs'] at hc
        refine hc.mono (fun e w' he => ?_)
        obtain ⟨L', vals, rfl, hleft, hress⟩ := he
        let upd := resAllCh id n rs
        have hfr : ∀ c h, (c, h) ∈ upd → g.io c = none ∧ g.gv c = 0 ∧ c ≠ 0 := by
          intro c h hm
          obtain ⟨h1, h2⟩ := allFresh_spec hcond.1 c h hm
          have := hv.chok h1
          exact ⟨this.1, this.2, h2⟩
        have f : Fr (keys upd) w g w' (g.called w.heap.size L' (resVals id rs vals) (fun c => (look upd c).isSome)) := by
          refine ⟨fun hk => ?_, fun b hb _ => ⟨(hleft.old b hb).1, by simp only [Gh.called]; rw [if_pos hb]⟩, fun c v hc => ?_, fun c hc => ?_, fun c hc => ?_, fun c hc => ?_, hleft.size, fun b hb => ?_, hleft.env⟩
          · obtain ⟨h, hl⟩ := Option.isSome_iff_exists.1 hk
            exact (hfr 0 h (look_mem hl)).2.2 rfl
          · simp only [Gh.called]
            split
            · rename_i hT
              obtain ⟨h, hl⟩ := Option.isSome_iff_exists.1 hT
              rw [(hfr c h (look_mem hl)).1] at hc; cases hc
            · exact hc
          · have hc' : ¬ (look upd c).isSome = true := hc
            simp only [Gh.called]
            rw [if_neg hc']
          · have hc' : ¬ (look upd c).isSome = true := hc
            simp only [Gh.called]
            rw [if_neg hc']
          · have hc' : (look upd c).isSome = true := hc
            simp only [Gh.called]
            rw [if_pos hc']; omega
          · simp only [Gh.called]
            rw [if_neg (by have := hleft.size; omega)]
            exact hleft.high b hb
        have hlk : ∀ c h, (c, h) ∈ upd → (look upd c).isSome = true := fun c h hm => by rw [look_of_mem hcond.2 hm]; rfl
        obtain ⟨h1, h2⟩ := res_all (x := x) (ρ := ρ) (n := n) (id := id) (k := 0) (g' := g.called w.heap.size L' (resVals id rs vals) (fun c => (look upd c).isSome)) hress (fun k' j => by rw [Nat.zero_add]) hρ
          (fun c sh v cs how => how.frame (fun b q hb => ⟨rfl, by
            simp only [Gh.called]
            rw [if_neg (fun hlt => by rw [(hleft.old b hlt).2] at hb; simp at hb), hb]⟩))
          (fun c h hm => by simp only [Gh.called]; rw [if_pos (hlk c h hm)])
          (fun c h hm => by simp only [Gh.called]; rw [if_pos (hlk c h hm), (hfr c h hm).2.1])
        exact hK _ _ _ f (fun c h hl => h2 c h (look_mem hl)) (resSV_ok h1)
      · cases hr

end
end Go.Proofs.YteleedlkdadogaaGreat.Fw
