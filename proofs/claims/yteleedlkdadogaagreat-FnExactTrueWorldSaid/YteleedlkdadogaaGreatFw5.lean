/- Steps of operations, 2: reading memory, variables of the call's own, lengths, places. -/
import Derived.Test.YteleedlkdadogaaGreatFw4
namespace Go.Proofs.YteleedlkdadogaaGreat.Fw
open Go.RowKit

theorem cellsOk.length {ok : CV → Value → Prop} : ∀ {cs : List CV} {vs : List Value}, cellsOk ok cs vs → cs.length = vs.length
  | [], [], _ => rfl
  | _ :: _, _ :: _, h => by simp [cellsOk.length h.2]
  | [], _ :: _, h => h.elim
  | _ :: _, [], h => h.elim

theorem cellsOk.drop {ok : CV → Value → Prop} : ∀ (n : Nat) {cs : List CV} {vs : List Value}, cellsOk ok cs vs → cellsOk ok (cs.drop n) (vs.drop n)
  | 0, _, _, h => by simpa using h
  | n + 1, [], [], _ => by simp [cellsOk]
  | n + 1, _ :: _, _ :: _, h => by simpa using cellsOk.drop n h.2
  | _ + 1, [], _ :: _, h => h.elim
  | _ + 1, _ :: _, [], h => h.elim

theorem cellsOk.take {ok : CV → Value → Prop} : ∀ (n : Nat) {cs : List CV} {vs : List Value}, cellsOk ok cs vs → cellsOk ok (cs.take n) (vs.take n)
  | 0, _, _, h => by simp [cellsOk]
  | n + 1, [], [], _ => by simp [cellsOk]
  | n + 1, _ :: _, _ :: _, h => ⟨h.1, cellsOk.take n h.2⟩
  | _ + 1, [], _ :: _, h => h.elim
  | _ + 1, _ :: _, [], h => h.elim

theorem cellsOk.append {ok : CV → Value → Prop} : ∀ {cs cs' : List CV} {vs vs' : List Value}, cellsOk ok cs vs → cellsOk ok cs' vs' → cellsOk ok (cs ++ cs') (vs ++ vs')
  | [], _, [], _, _, h => h
  | _ :: _, _, _ :: _, _, h, h' => ⟨h.1, cellsOk.append h.2 h'⟩
  | [], _, _ :: _, _, h, _ => h.elim
  | _ :: _, _, [], _, h, _ => h.elim

def CV.isJunk : CV → Bool
  | .junk => true
  | .und => true
  | .pin _ => true
  | .fn _ => true
  | _ => false

theorem Scal.one {sh : Sh} {v : V} {c : Value} (h : Scal sh v c) : c.oneCell' = true := by
  cases sh <;> simp only [Scal] at h <;> first | (exact h.elim) | (obtain ⟨_, _, rfl⟩ := h; rfl)

section
variable {x : Fx} {Γ : G} {ρ : List V} {a : Act} {w : World} {g : Gh} {sl : Nat → SV} {ch : Nat → Option Ch} {o : Oper} {res : Res}

theorem CV.one {c : CV} {val : Value} (h : c.ok x w g ρ val) (hj : c.isJunk = false) : val.oneCell' = true := by
  cases c with
  | junk => cases hj
  | und => cases hj
  | pin k => cases hj
  | fn f => cases hj
  | el c ver esz i off e et y => exact h.1
  | nil => cases h; rfl
  | sc sh e => obtain ⟨v, _, hs⟩ := h; exact hs.one
  | rd src e et y => exact h.1
  | own c => exact h.1
  | ptr c off => obtain ⟨b, _, rfl⟩ := h; rfl
  | ep c esz i off => obtain ⟨b, o, len, cap, n, _, _, rfl⟩ := h; rfl
  | rp src e y off => exact h.1

theorem cells_of_one {v : Value} (h : v.oneCell' = true) : v.cells = #[v] := by cases v <;> first | rfl | cases h

/-- The cells of a value, as far as they are known one by one. -/
def cellsOf : SV → Option (List CV)
  | .cv c => if c.isJunk then none else some [c]
  | .agg cs => some cs
  | .tup _ => none

def noJunk (cs : List CV) : Bool := cs.all fun c => !c.isJunk

theorem cellsOf_ok {s : SV} {cs : List CV} {val : Value} (hs : s.ok (CV.ok x w g ρ) val) (h : cellsOf s = some cs) : cellsOk (CV.ok x w g ρ) cs val.cells.toList := by
  cases s with
  | cv c =>
    simp only [cellsOf] at h
    split at h
    · cases h
    · rename_i hj
      cases h
      rw [cells_of_one (CV.one hs (by simpa using hj))]
      exact ⟨hs, trivial⟩
  | agg cs' => cases h; obtain ⟨vs, rfl, hc⟩ := hs; exact hc
  | tup xs => cases h

theorem cellsOk.one {cs : List CV} {vs : List Value} (h : cellsOk (CV.ok x w g ρ) cs vs) (hj : noJunk cs = true) : ∀ v ∈ vs, v.oneCell' = true := by
  induction cs generalizing vs with
  | nil => cases vs with
    | nil => simp
    | cons v vs => exact h.elim
  | cons c cs ih => cases vs with
    | nil => exact h.elim
    | cons v vs =>
      simp only [noJunk, List.all_cons, Bool.and_eq_true, Bool.not_eq_true'] at hj
      intro u hu
      cases hu with
      | head => exact CV.one h.1 hj.1
      | tail _ hu => exact ih h.2 (by simpa [noJunk] using hj.2) u hu

theorem Rel.st (h : Rel x Γ ρ a w g) : ∀ b, x.S0 b → b < w.heap.size ∧ g.L b = [] := fun b hb => ⟨Nat.lt_of_lt_of_le hb.1 h.low, (h.stable b hb).2⟩

/-- The ghosts behind a new block, chunk id's. -/
def Gh.newBlk (g : Gh) (b id : Nat) (val : Value) : Gh :=
  { L := fun b' => if b' = b then [id] else g.L b', io := fun c => if c = id then some val else g.io c, gv := fun c => if c = id then g.gv c + 1 else g.gv c }

theorem Fr.alloc {T : Nat → Prop} {id : Nat} (hT : ∀ c, T c ↔ c = id) (h0 : id ≠ 0) (hi : ∀ b, w.heap.size ≤ b → g.L b = []) (hf : g.io id = none) (obj : Obj) (val : Value) :
    Fr T w g (w.alloc obj) (g.newBlk w.heap.size id val) := by
  refine ⟨fun h => h0 ((hT 0).1 h).symm, fun b hb _ => ⟨Below.heap_alloc w obj b hb, ?_⟩, fun c v hc => ?_, fun c hc => ?_, fun c hc => ?_, fun c hc => ?_, by simp, fun b hb => ?_, ⟨rfl, rfl, rfl⟩⟩
  · simp only [Gh.newBlk]; rw [if_neg (by omega)]
  · simp only [Gh.newBlk]
    split
    · rename_i e; subst e; rw [hf] at hc; cases hc
    · exact hc
  · simp only [Gh.newBlk]; rw [if_neg (fun e => hc ((hT c).2 e))]
  · simp only [Gh.newBlk]; rw [if_neg (fun e => hc ((hT c).2 e))]
  · simp only [Gh.newBlk]; rw [if_pos ((hT c).1 hc)]; omega
  · simp only [Gh.newBlk]
    simp only [World.size_alloc] at hb
    rw [if_neg (by omega)]
    exact hi b (by omega)

theorem keys_one (id : Nat) (h : Ch) (c : Nat) : keys [(id, h)] c ↔ c = id := by
  simp only [keys, look]
  by_cases e : id = c
  · subst e; simp
  · have : Nat.beq id c = false := by cases e' : Nat.beq id c with | false => rfl | true => exact absurd (Nat.eq_of_beq_eq_true e') e
    simp [this]; exact fun h => e h.symm

theorem look_one {id c : Nat} {h h' : Ch} (hl : look [(id, h)] c = some h') : c = id ∧ h' = h := by
  simp only [look] at hl
  by_cases e : Nat.beq id c = true
  · rw [if_pos e] at hl; cases hl; exact ⟨(Nat.eq_of_beq_eq_true e).symm, rfl⟩
  · rw [if_neg e] at hl; cases hl

/-- A new variable with these cells. -/
theorem good_newvar (hv : Vw x Γ ρ a w g sl ch) {id : Nat} (h0 : id ≠ 0) (hid : ch id = some .fresh) {cs : List CV} {vs : List Value} {t : TypeId} (hc : cellsOk (CV.ok x w g ρ) cs vs)
    (hr : (execOp a.eval o).run x.P w = .ok (.value (.pointer (some ⟨w.heap.size, 0, none⟩))) (w.alloc (.cells vs.toArray t)))
    (hres : res = ⟨[], [(id, .box cs t)], .cv (.ptr id 0)⟩) : Good x ρ a w g o res := by
  subst hres
  have hfr : Ch.fresh.ok x w g ρ id := by have := hv.rel.chunks id; rw [hv.ch _ _ hid] at this; exact this
  have f : Fr (keys [(id, Ch.box cs t)]) w g (w.alloc (.cells vs.toArray t)) (g.newBlk w.heap.size id (.pointer (some ⟨w.heap.size, 0, none⟩))) :=
    Fr.alloc (keys_one id _) h0 hv.rel.high hfr.1 _ _
  refine good_value hr f (fun c h hl => ?_) ?_
  · obtain ⟨rfl, rfl⟩ := look_one hl
    refine ⟨w.heap.size, vs, by simp [Gh.newBlk], by simp [Gh.newBlk], heap_alloc_new w _, cellsOk.mono (fun c v => CV.frame f hv.rel.high hv.rel.st) hc⟩
  · exact ⟨w.heap.size, by simp [Gh.newBlk], rfl⟩

def stepAlloc (T : Nat → Option TI) (ch : Nat → Option Ch) (id : Nat) (t : TypeId) : Option Res :=
  match T t, ch id with
  | some ti, some .fresh => if Nat.beq id 0 then none else some ⟨[], [(id, .box ti.zero t)], .cv (.ptr id 0)⟩
  | _, _ => none

theorem good_alloc {T : Nat → Option TI} (hT : TabOk x.P T) (hv : Vw x Γ ρ a w g sl ch) {id : Nat} {t : TypeId} (ho : o.op = .alloc t) (hr : stepAlloc T ch id t = some res) : Good x ρ a w g o res := by
  unfold stepAlloc at hr
  split at hr
  · rename_i ti hti hid
    split at hr
    · cases hr
    · rename_i h0
      cases hr
      obtain ⟨z, hz, h1, h2, h3⟩ := (hT _ _ hti).run_zero w
      refine good_newvar hv (vs := z.cells.toList) (by intro e; subst e; simp at h0) hid (by rw [← h2]; exact cellsOk_const x w g ρ _) ?_ rfl
      simp only [execOp, ho, Instr.alloc]
      simp [hz, newVar, newRow]
  · cases hr

def stepBox (T : Nat → Option TI) (sl : Nat → SV) (ch : Nat → Option Ch) (id : Nat) (t : TypeId) (y : Operand) : Option Res :=
  match cellsOf (opnd sl y), ch id with
  | some cs, some .fresh => if Nat.beq id 0 then none else some ⟨[], [(id, .box cs t)], .cv (.ptr id 0)⟩
  | _, _ => none

theorem good_box {T : Nat → Option TI} (hv : Vw x Γ ρ a w g sl ch) {id : Nat} {t : TypeId} {y : Operand} (ho : o.op = .box t y) (hr : stepBox T sl ch id t y = some res) : Good x ρ a w g o res := by
  unfold stepBox at hr
  split at hr
  · rename_i cs hcs hid
    split at hr
    · cases hr
    · rename_i h0
      cases hr
      refine good_newvar hv (vs := (a.eval y).cells.toList) (by intro e; subst e; simp at h0) hid (cellsOf_ok (hv.opnd y) hcs) ?_ rfl
      simp only [execOp, ho, Instr.box]
      simp [newVar, newRow]
  · cases hr

/-- What the cells of something readable are known as. -/
def leafOf (src : Src) : Sh → E → CV
  | .int k, e => .sc (.int k) e
  | .bool, e => .sc .bool e
  | .str, e => .sc .str e
  | .sl e' et, e => .rd src e' et e
  | _, _ => .junk

def rdFields (src : Src) (y : E) : Nat → Sh → List CV
  | j, .cons h t => leafOf src h (.pj y j) :: rdFields src y (j + 1) t
  | _, _ => []

def rdCells (src : Src) (e : Sh) (y : E) : List CV := if e.isSt then rdFields src y 0 e else [leafOf src e y]

theorem leafOf_ok {src : Src} (hp : src.past g) (hl : src.live g) {sh : Sh} {y : E} {v : V} {c : Value} (hy : y.den ρ = some v) (h : Rd w (src.S x g) sh v [c]) : (leafOf src sh y).ok x w g ρ c := by
  cases sh with
  | int k => obtain ⟨c', h1, h2⟩ := h; cases h1; exact ⟨v, hy, h2⟩
  | bool => obtain ⟨c', h1, h2⟩ := h; cases h1; exact ⟨v, hy, h2⟩
  | str => obtain ⟨c', h1, h2⟩ := h; cases h1; exact ⟨v, hy, h2⟩
  | sl e et =>
    refine ⟨?_, hp, fun _ => ⟨v, hy, h⟩⟩
    obtain ⟨xs, a, len, cap, _, h2, _⟩ := h
    cases h2; rfl
  | nil => trivial
  | cons a t => trivial

theorem rdFields_ok {src : Src} (hp : src.past g) (hl : src.live g) {y : E} {fs : List V} (hy : y.den ρ = some (.t fs)) :
    ∀ {sh : Sh} {j : Nat} {vs : List V} {ds : List Value}, sh.isSt = true → Rd w (src.S x g) sh (.t vs) ds → fs.drop j = vs → cellsOk (CV.ok x w g ρ) (rdFields src y j sh) ds := by
  intro sh
  induction sh with
  | int k => intro j vs ds h; cases h
  | bool => intro j vs ds h; cases h
  | str => intro j vs ds h; cases h
  | sl e et ih => intro j vs ds h; cases h
  | nil => intro j vs ds _ ⟨_, h⟩ _; subst h; trivial
  | cons h t ih1 ih2 =>
    intro j vs ds _ ⟨u, us, c, cs', h1, h2, h3, h4⟩ hd
    cases h1
    subst h2
    have hj : fs[j]? = some u := by have := congrArg (·[0]?) hd; simpa using this
    refine ⟨leafOf_ok hp hl (by simp [E.den, hy, hj]) h3, ?_⟩
    have hd' : fs.drop (j + 1) = us := by have := congrArg (List.drop 1) hd; simpa using this
    cases t with
    | nil => obtain ⟨_, h5⟩ := h4; subst h5; trivial
    | cons a b => exact ih2 rfl h4 hd'
    | sl e et => obtain ⟨_, _, _, _, h7, _⟩ := h4; cases h7
    | _ => obtain ⟨c', h5, n, h7, _⟩ := h4; cases h7

theorem Rd.isSt_t {S : Nat → Prop} {sh : Sh} {v : V} {cs : List Value} (hs : sh.isSt = true) (h : Rd w S sh v cs) : ∃ fs, v = .t fs := by
  cases sh with
  | nil => exact ⟨[], h.1⟩
  | cons a t => obtain ⟨u, us, c, cs', h1, _⟩ := h; exact ⟨_, h1⟩
  | _ => cases hs

theorem rdCells_ok {src : Src} (hp : src.past g) (hl : src.live g) {e : Sh} {y : E} {v : V} {ds : List Value} (hy : y.den ρ = some v) (h : Rd w (src.S x g) e v ds) :
    cellsOk (CV.ok x w g ρ) (rdCells src e y) ds := by
  unfold rdCells
  split
  · rename_i hs
    obtain ⟨fs, rfl⟩ := h.isSt_t hs
    exact rdFields_ok hp hl hy hs h rfl
  · rename_i hs
    have hlen := h.length
    have h1 : e.sz = 1 := by cases e <;> first | rfl | exact absurd rfl hs
    rw [h1] at hlen
    match ds, hlen with
    | [d], _ => exact ⟨leafOf_ok hp hl hy h, trivial⟩

/-- Is what is told of this source told still? -/
def liveIn (ch : Nat → Option Ch) : Src → Bool
  | .st => true
  | .ch c ver => match ch c with
    | some (.arr ver' _ _ _) => Nat.beq ver ver'
    | _ => false

theorem liveIn_ok (hv : Vw x Γ ρ a w g sl ch) {src : Src} (h : liveIn ch src = true) : src.past g ∧ src.live g := by
  cases src with
  | st => exact ⟨trivial, trivial⟩
  | ch c ver =>
    simp only [liveIn] at h
    split at h
    · rename_i ver' e et y hc
      have := hv.rel.chunks c
      rw [hv.ch _ _ hc] at this
      obtain ⟨_, _, _, _, hgv, _⟩ := this
      have hb := Nat.eq_of_beq_eq_true h
      subst hb
      exact ⟨by simp [Src.past, hgv], hgv⟩
    · cases h

def wrapCells (ti : TI) (cs : List CV) : Option SV :=
  if Nat.beq cs.length ti.size then (if ti.isAgg then some (.agg cs) else match cs with | [c] => some (.cv c) | _ => none) else none

theorem run_loadVar_cells {t : TypeId} {ti : TI} {P : Program} (hti : ti.ok P t) {b k : Nat} {ds : List Value} (hl : ds.length = ti.size) (h : ∀ (j : Nat) (d : Value), ds[j]? = some d → w.cell? ⟨b, k + j, none⟩ = some d) {cs : List CV}
    (hc : cellsOk (CV.ok x w g ρ) cs ds) {s : SV} (hs : wrapCells ti cs = some s) : ∃ val, (loadVar t ⟨b, k, none⟩).run P w = .ok val w ∧ s.ok (CV.ok x w g ρ) val ∧ ∀ c, s = .cv c → ds[0]? = some val := by
  unfold wrapCells at hs
  split at hs
  · unfold loadVar
    simp only [Sem.run_bind, hti.run_isAgg, Result.andThen_ok]
    split at hs
    · rename_i hag
      cases hs
      refine ⟨.agg ds.toArray, ?_, ⟨ds, rfl, hc⟩, fun c e => by cases e⟩
      have hrun := run_loadCells_list (P := P) w ⟨b, k, none⟩ ds (fun j v hj => by rw [Addr.add_lit]; exact h j v hj)
      simp [hag, hti.run_sizeOf, ← hl, hrun]
    · rename_i hag
      split at hs
      · rename_i c
        cases hs
        match ds, hc with
        | [d], hc =>
          refine ⟨d, ?_, hc.1, fun _ _ => rfl⟩
          have := h 0 d rfl
          simp only [Nat.add_zero] at this
          simp [hag, run_load, this]
      · cases hs
  · cases hs

/-- A slice within an element: where it stands is told, too. -/
def toEl (c ver esz : Nat) (i : E) (off : Nat) (s : SV) : SV :=
  match s with
  | .cv (.rd (.ch c' ver') e et y) => if Nat.beq c' c && Nat.beq ver' ver then .cv (.el c ver esz i off e et y) else s
  | s => s

def stepLoad (n : Nat) (T : Nat → Option TI) (sl : Nat → SV) (ch : Nat → Option Ch) (t : TypeId) (y : Operand) : Option Res :=
  match T t with
  | none => none
  | some ti =>
    match opnd sl y with
    | .cv (.ptr c off) =>
      (match ch c with
      | some (.box cells _) => (match wrapCells ti ((cells.drop off).take ti.size) with
        | some s => some ⟨[], [], s⟩
        | none => none)
      | _ => none)
    | .cv (.rp src e z off) =>
      if liveIn ch src then (match wrapCells ti (((rdCells src e z).drop off).take ti.size) with
        | some s => some ⟨[], [], s⟩
        | none => none) else none
    | .cv (.ep c esz i off) =>
      (match ch c with
      | some (.arr ver e _ z) => if Nat.beq esz e.sz then (match wrapCells ti (((rdCells (.ch c ver) e (.v n)).drop off).take ti.size) with
        | some s => some ⟨[.pm .lget [z, i]], [], toEl c ver esz i off s⟩
        | none => none) else none
      | _ => none)
    | _ => none

theorem exec_load {t : TypeId} {y : Operand} (ho : o.op = .load t y) {b k : Nat} (hy : a.eval y = .pointer (some ⟨b, k, none⟩)) {val : Value} (h : (loadVar t ⟨b, k, none⟩).run x.P w = .ok val w) :
    (execOp a.eval o).run x.P w = .ok (.value val) w := by
  simp only [execOp, ho, Instr.loadAt, Instr.sureAddr, hy]
  simp [h]

theorem wrapCells_len {ti : TI} {cs : List CV} {s : SV} (h : wrapCells ti cs = some s) : cs.length = ti.size := by
  unfold wrapCells at h
  split at h
  · rename_i hb; exact Nat.eq_of_beq_eq_true hb
  · cases h

theorem good_load {T : Nat → Option TI} (hT : TabOk x.P T) (hv : Vw x Γ ρ a w g sl ch) {C : Nat → List V → List V → Prop} {n : Nat} {t : TypeId} {y : Operand} (ho : o.op = .load t y)
    (hr : stepLoad n T sl ch t y = some res) (he : EmsOk C ρ n res.ems) : Good x ρ a w g o res := by
  unfold stepLoad at hr
  split at hr
  · cases hr
  · rename_i ti hti
    have hti := hT _ _ hti
    split at hr
    · rename_i c off hy
      split at hr
      · rename_i cells ty hc
        split at hr
        · rename_i s hs
          cases hr
          obtain ⟨b, hio, hval⟩ := hv.cv hy
          have hck := hv.rel.chunks c
          rw [hv.ch _ _ hc] at hck
          obtain ⟨b', vs, hio', hL, hh, hcs⟩ := hck
          rw [hio] at hio'
          cases hio'
          have hlen := wrapCells_len hs
          have hds := (hcs.drop off).take ti.size
          obtain ⟨val, hrun, hok, hat⟩ := run_loadVar_cells hti (b := b) (k := off) (by rw [← hds.length]; exact hlen) (fun j d hj => by
            obtain ⟨hj, _⟩ := take_drop_get hj
            rw [cell_of_row w b _ _ ty (0, 0) hh]; simpa using hj) hds hs
          exact good_pure hv (exec_load ho hval hrun) rfl hok
        · cases hr
      · cases hr
    · rename_i src e z off hy
      split at hr
      · rename_i hl
        split at hr
        · rename_i s hs
          cases hr
          obtain ⟨hp, hlv⟩ := liveIn_ok hv hl
          obtain ⟨_, _, hbody⟩ := hv.cv hy
          obtain ⟨v, ds, b, k, hz, hrd, hval, _, hcell⟩ := hbody hlv
          have hcs := rdCells_ok hp hlv hz hrd
          have hlen := wrapCells_len hs
          have hds := (hcs.drop off).take ti.size
          obtain ⟨val, hrun, hok, hat⟩ := run_loadVar_cells hti (b := b) (k := k + off) (by rw [← hds.length]; exact hlen) (fun j d hj => by
            obtain ⟨hj, _⟩ := take_drop_get hj
            have := hcell _ _ hj
            rwa [← Nat.add_assoc] at this) hds hs
          exact good_pure hv (exec_load ho hval hrun) rfl hok
        · cases hr
      · cases hr
    · rename_i c esz i off hy
      split at hr
      · rename_i ver e et z hc
        split at hr
        · rename_i hesz
          split at hr
          · rename_i s hs
            cases hr
            have hesz := Nat.eq_of_beq_eq_true hesz
            subst hesz
            obtain ⟨⟨vs, v, hd, hev, hn⟩, _⟩ := he
            obtain ⟨u1, u2, h1, h2, rfl⟩ := denL_two hd
            obtain ⟨b, k, len, cap, m, hio, hi, hval⟩ := hv.cv hy
            have hck := hv.rel.chunks c
            rw [hv.ch _ _ hc] at hck
            obtain ⟨v', val', hio', hz, hgv, how⟩ := hck
            rw [hio] at hio'
            cases hio'
            rw [hz] at h1
            cases h1
            rw [hi] at h2
            cases h2
            obtain ⟨xs, a', len', cap', rfl, he1, hlen', _, _, hor⟩ := how
            cases he1
            simp only [Pm.ev] at hev
            rw [if_pos (by omega)] at hev
            simp only [Int.toNat_natCast] at hev
            rcases hor with ⟨hno, _⟩ | ⟨gb, o', cur, ha, hL, hh, hsz, hel⟩
            · cases hno
            · cases ha
              have hown := hel m v hev
              have hrd : Rd w ((Src.ch c ver).S x g) e v _ := hown.rd (S := (Src.ch c ver).S x g) (fun b q hb => by simp only [Src.S]; rw [hb, show q ++ m :: [c] = (q ++ [m]) ++ [c] by simp]; simp)
              have hlv : (Src.ch c ver).live g := hgv
              have hp : (Src.ch c ver).past g := by simp [Src.past, hgv]
              have hcs := rdCells_ok (y := .v n) hp hlv hn hrd
              have hlen := wrapCells_len hs
              have hds := (hcs.drop off).take ti.size
              obtain ⟨val, hrun, hok, hat⟩ := run_loadVar_cells hti (b := b) (k := k + m * e.sz + off) (by rw [← hds.length]; exact hlen) (fun j d hj => by
                obtain ⟨hj, _⟩ := take_drop_get hj
                obtain ⟨hj, _⟩ := take_drop_get hj
                rw [cell_of_row w b _ cur et (0, 0) hh]
                rw [← Array.getElem?_toList, ← hj]; congr 1; omega) hds hs
              refine good_pure hv (exec_load ho hval hrun) rfl ?_
              show (toEl c ver e.sz i off s).ok _ _
              unfold toEl
              split
              · rename_i c' ver' e2 et2 y2
                split
                · rename_i hcc
                  simp only [Bool.and_eq_true] at hcc
                  have h1 := Nat.eq_of_beq_eq_true hcc.1
                  have h2 := Nat.eq_of_beq_eq_true hcc.2
                  subst h1; subst h2
                  refine ⟨hok.1, hok.2.1, fun hlv => ⟨hok.2.2 hlv, b, k, len, cap, m, hio, ?_, hi, ?_⟩⟩
                  · simp only [Src.S]; rw [hL]; rfl
                  · have h0 := hat _ rfl
                    obtain ⟨h0, _⟩ := take_drop_get h0
                    obtain ⟨h0, _⟩ := take_drop_get h0
                    rw [cell_of_row w b _ cur et (0, 0) hh]
                    rw [← Array.getElem?_toList, ← h0]
                    congr 1 <;> omega
                · exact hok
              · exact hok
          · cases hr
        · cases hr
      · cases hr
    · cases hr

end
end Go.Proofs.YteleedlkdadogaaGreat.Fw
