/- Symbolic states: what is known of slots and of memory, and what keeps it. -/
import Derived.Test.YteleedlkdadogaaGreatFw2
namespace Go.Proofs.YteleedlkdadogaaGreat.Fw
open Go.RowKit

/-- What stays fixed through a call: the world it began in, the labels of what it was handed to change, how many slots it has. -/
structure Fx where
  P : Program
  w0 : World
  L0 : Nat → List Nat
  nt : Nat × Nat
  args : List Value
  pins : Nat → Value
  S : Nat → Prop
  sub : ∀ b, S b → b < w0.heap.size ∧ L0 b = []

def Fx.S0 (x : Fx) (b : Nat) : Prop := b < x.w0.heap.size ∧ x.L0 b = []

/-- Ghosts: each block's label, each chunk's value, each chunk's version. -/
structure Gh where
  L : Nat → List Nat
  io : Nat → Option Value
  gv : Nat → Nat

inductive Src where
  | st
  | ch (c ver : Nat)

def Src.S (x : Fx) (g : Gh) : Src → Nat → Prop
  | .st, b => x.S b ∨ (g.L b).getLast? = some 0
  | .ch c _, b => (g.L b).getLast? = some c

def Src.live (g : Gh) : Src → Prop
  | .st => True
  | .ch c ver => g.gv c = ver

def Src.past (g : Gh) : Src → Prop
  | .st => True
  | .ch c ver => ver ≤ g.gv c

def Src.beq : Src → Src → Bool
  | .st, .st => true
  | .ch c v, .ch c' v' => Nat.beq c c' && Nat.beq v v'
  | _, _ => false

theorem Src.beq_eq {a b : Src} (h : a.beq b = true) : a = b := by
  cases a <;> cases b <;> simp_all [Src.beq]

/-- What is known of one cell's value. -/
inductive CV where
  | junk
  | und
  | nil
  | sc (sh : Sh) (e : E)
  | rd (src : Src) (e : Sh) (et : TypeId) (y : E)
  | own (c : Nat)
  | ptr (c off : Nat)
  | ep (c esz : Nat) (i : E) (off : Nat)
  | rp (src : Src) (e : Sh) (y : E) (off : Nat)
  | el (c ver esz : Nat) (i : E) (off : Nat) (e : Sh) (et : TypeId) (y : E)
  | pin (k : Nat)
  | fn (f : Nat)

def CV.ok (x : Fx) (w : World) (g : Gh) (ρ : List V) : CV → Value → Prop
  | .junk, _ => True
  | .und, val => val = undef
  | .nil, val => val = .slice none 0 0
  | .sc sh e, val => ∃ v, e.den ρ = some v ∧ Scal sh v val
  | .rd src e et y, val => val.oneCell' = true ∧ src.past g ∧ (src.live g → ∃ v, y.den ρ = some v ∧ Rd w (src.S x g) (.sl e et) v [val])
  | .own c, val => val.oneCell' = true ∧ g.io c = some val
  | .ptr c off, val => ∃ b, g.io c = some (.pointer (some ⟨b, 0, none⟩)) ∧ val = .pointer (some ⟨b, off, none⟩)
  | .ep c esz i off, val => ∃ b o len cap n, g.io c = some (.slice (some ⟨b, o, none⟩) len cap) ∧ i.den ρ = some (.i ((n : Nat) : Int)) ∧ val = .pointer (some ⟨b, o + n * esz + off, none⟩)
  | .rp src e y off, val => val.oneCell' = true ∧ src.past g ∧ (src.live g → ∃ v ds b o, y.den ρ = some v ∧ Rd w (src.S x g) e v ds ∧ val = .pointer (some ⟨b, o + off, none⟩) ∧ src.S x g b ∧
      ∀ j d, ds[j]? = some d → w.cell? ⟨b, o + j, none⟩ = some d)
  | .el c ver esz i off e et y, val => val.oneCell' = true ∧ (Src.ch c ver).past g ∧ ((Src.ch c ver).live g → (∃ v, y.den ρ = some v ∧ Rd w ((Src.ch c ver).S x g) (.sl e et) v [val]) ∧
      ∃ b o len cap n, g.io c = some (.slice (some ⟨b, o, none⟩) len cap) ∧ (Src.ch c ver).S x g b ∧ i.den ρ = some (.i ((n : Nat) : Int)) ∧ w.cell? ⟨b, o + n * esz + off, none⟩ = some val)
  | .pin k, val => val = x.pins k
  | .fn f, val => val = .func (.func f) #[] #[]

def cellsOk (ok : CV → Value → Prop) : List CV → List Value → Prop
  | [], [] => True
  | c :: cs, v :: vs => ok c v ∧ cellsOk ok cs vs
  | _, _ => False

inductive SV where
  | cv (c : CV)
  | agg (cs : List CV)
  | tup (xs : List (Bool × List CV))

def oneOk (ok : CV → Value → Prop) (y : Bool × List CV) (val : Value) : Prop :=
  match y with
  | (false, cs) => cellsOk ok cs [val]
  | (true, cs) => ∃ vs, val = .agg vs.toArray ∧ cellsOk ok cs vs

def tupOk (ok : CV → Value → Prop) : List (Bool × List CV) → List Value → Prop
  | [], [] => True
  | c :: cs, v :: vs => oneOk ok c v ∧ tupOk ok cs vs
  | _, _ => False

def SV.ok (ok : CV → Value → Prop) : SV → Value → Prop
  | .cv c, val => ok c val
  | .agg cs, val => ∃ vs, val = .agg vs.toArray ∧ cellsOk ok cs vs
  | .tup xs, val => ∃ vs, val = .tuple vs.toArray ∧ tupOk ok xs vs

/-- What is known of a chunk of memory that the call owns. -/
inductive Ch where
  | fresh
  | dead
  | arr (ver : Nat) (e : Sh) (et : TypeId) (y : E)
  | box (cells : List CV) (ty : TypeId)

def Ch.ok (x : Fx) (w : World) (g : Gh) (ρ : List V) (c : Nat) : Ch → Prop
  | .fresh => g.io c = none ∧ g.gv c = 0
  | .dead => True
  | .arr ver e et y => ∃ v val, g.io c = some val ∧ y.den ρ = some v ∧ g.gv c = ver ∧ Own w g.L (.sl e et) v [val] [c]
  | .box cells ty => ∃ b vs, g.io c = some (.pointer (some ⟨b, 0, none⟩)) ∧ g.L b = [c] ∧ w.heap[b]? = some (.cells vs.toArray ty (0, 0)) ∧ cellsOk (CV.ok x w g ρ) cells vs

def look {α : Type} : List (Nat × α) → Nat → Option α
  | [], _ => none
  | (k, v) :: l, n => if Nat.beq k n then some v else look l n

def putA {α : Type} (k : Nat) (v : α) : List (Nat × α) → List (Nat × α)
  | [] => [(k, v)]
  | (k', v') :: l => if Nat.beq k' k then (k, v) :: l else (k', v') :: putA k v l

theorem look_putA {α : Type} (k : Nat) (v : α) (n : Nat) : ∀ l, look (putA k v l) n = if k = n then some v else look l n
  | [] => by
    simp only [putA, look]
    by_cases h : k = n
    · subst h; simp
    · have : Nat.beq k n = false := by cases e : Nat.beq k n with | false => rfl | true => exact absurd (Nat.eq_of_beq_eq_true e) h
      simp [this, h]
  | (k', v') :: l => by
    simp only [putA]
    by_cases h : Nat.beq k' k = true
    · rw [if_pos h]
      have hk := Nat.eq_of_beq_eq_true h
      subst hk
      simp only [look]
      by_cases h2 : k' = n
      · subst h2; simp
      · have : Nat.beq k' n = false := by cases e : Nat.beq k' n with | false => rfl | true => exact absurd (Nat.eq_of_beq_eq_true e) h2
        simp [this, h2]
    · rw [if_neg h]
      simp only [look]
      by_cases h2 : Nat.beq k' n = true
      · have hk := Nat.eq_of_beq_eq_true h2
        subst hk
        have : k ≠ k' := fun e => h (by subst e; simp)
        simp [this]
      · simp only [h2, if_false, Bool.false_eq_true]; exact look_putA k v n l

structure G where
  slots : List (Nat × SV)
  chunks : List (Nat × Ch)

def G.slot (Γ : G) (t : Nat) : SV := (look Γ.slots t).getD (.cv .junk)
def G.chunk (Γ : G) (c : Nat) : Ch := (look Γ.chunks c).getD .fresh

structure Env (w w0 : World) : Prop where
  os : w.os = w0.os
  tape : w.tape = w0.tape
  output : w.output = w0.output

theorem Env.refl (w : World) : Env w w := ⟨rfl, rfl, rfl⟩
theorem Env.trans {a b c : World} (h : Env a b) (k : Env b c) : Env a c := ⟨h.os.trans k.os, h.tape.trans k.tape, h.output.trans k.output⟩

/-- The world and the frame are as the symbolic state tells. -/
structure Rel (x : Fx) (Γ : G) (ρ : List V) (a : Act) (w : World) (g : Gh) : Prop where
  defers : a.defers = []
  size : a.tmps.size = x.nt.2
  slots : ∀ t, (Γ.slot t).ok (CV.ok x w g ρ) (a.tmps.getD t undef)
  chunks : ∀ c, (Γ.chunk c).ok x w g ρ c
  stable : ∀ b, x.S0 b → w.heap[b]? = x.w0.heap[b]? ∧ g.L b = []
  high : ∀ b, w.heap.size ≤ b → g.L b = []
  low : x.w0.heap.size ≤ w.heap.size
  env : Env w x.w0
  args : ∀ i, i < x.nt.1 → a.tmps.getD i undef = x.args.getD i undef

/-- From (w, g) to (w', g') only what belongs to chunks of T, and new blocks, has changed. -/
structure Fr (T : Nat → Prop) (w : World) (g : Gh) (w' : World) (g' : Gh) : Prop where
  zero : ¬ T 0
  blk : ∀ b, b < w.heap.size → (∀ c, (g.L b).getLast? = some c → ¬ T c) → w'.heap[b]? = w.heap[b]? ∧ g'.L b = g.L b
  io : ∀ c v, g.io c = some v → g'.io c = some v
  ioF : ∀ c, ¬ T c → g'.io c = g.io c
  gvF : ∀ c, ¬ T c → g'.gv c = g.gv c
  gvT : ∀ c, T c → g.gv c < g'.gv c
  size : w.heap.size ≤ w'.heap.size
  high : ∀ b, w'.heap.size ≤ b → g'.L b = []
  env : Env w' w

section
variable {x : Fx} {T : Nat → Prop} {w w' : World} {g g' : Gh} {ρ : List V}

theorem last_lt (hi : ∀ b, w.heap.size ≤ b → g.L b = []) {b c : Nat} (h : (g.L b).getLast? = some c) : b < w.heap.size := by
  rcases Nat.lt_or_ge b w.heap.size with h' | h'
  · exact h'
  · rw [hi b h'] at h; cases h

theorem Src.keeps (f : Fr T w g w' g') (hi : ∀ b, w.heap.size ≤ b → g.L b = []) (st : ∀ b, x.S0 b → b < w.heap.size ∧ g.L b = []) (s : Src) (hp : s.past g) :
    s.past g' ∧ (s.live g' → s.live g ∧ ∀ b, s.S x g b → w'.heap[b]? = w.heap[b]? ∧ s.S x g' b) := by
  cases s with
  | st =>
    refine ⟨trivial, fun _ => ⟨trivial, fun b hb => ?_⟩⟩
    rcases hb with hb | hb
    · have hb0 : x.S0 b := x.sub b hb
      exact ⟨(f.blk b (st b hb0).1 (fun c hc => by rw [(st b hb0).2] at hc; cases hc)).1, .inl hb⟩
    · have hb' := f.blk b (last_lt hi hb) (fun d hd => by rw [hb] at hd; cases hd; exact f.zero)
      exact ⟨hb'.1, .inr (by rw [hb'.2]; exact hb)⟩
  | ch c ver =>
    by_cases hT : T c
    · have := f.gvT c hT
      simp only [Src.past, Src.live] at *
      exact ⟨by omega, fun e => by omega⟩
    · have := f.gvF c hT
      simp only [Src.past, Src.live] at *
      refine ⟨by omega, fun e => ⟨by omega, fun b hb => ?_⟩⟩
      simp only [Src.S] at *
      have hb' := f.blk b (last_lt hi hb) (fun d hd => by rw [hb] at hd; cases hd; exact hT)
      exact ⟨hb'.1, by rw [hb'.2]; exact hb⟩

theorem CV.frame (f : Fr T w g w' g') (hi : ∀ b, w.heap.size ≤ b → g.L b = []) (st : ∀ b, x.S0 b → b < w.heap.size ∧ g.L b = []) {c : CV} {val : Value}
    (h : c.ok x w g ρ val) : c.ok x w' g' ρ val := by
  cases c with
  | junk => trivial
  | und => exact h
  | nil => exact h
  | sc sh e => exact h
  | rd src e et y =>
    obtain ⟨h0, hp, hl⟩ := h
    obtain ⟨h1, h2⟩ := Src.keeps f hi st src hp
    refine ⟨h0, h1, fun hl' => ?_⟩
    obtain ⟨v, hv, hr⟩ := hl (h2 hl').1
    exact ⟨v, hv, hr.frame (h2 hl').2⟩
  | own c => exact ⟨h.1, f.io _ _ h.2⟩
  | ptr c off => obtain ⟨b, h1, h2⟩ := h; exact ⟨b, f.io _ _ h1, h2⟩
  | ep c esz i off => obtain ⟨b, o, len, cap, n, h1, h2⟩ := h; exact ⟨b, o, len, cap, n, f.io _ _ h1, h2⟩
  | rp src e y off =>
    obtain ⟨h0, hp, hl⟩ := h
    obtain ⟨h1, h2⟩ := Src.keeps f hi st src hp
    refine ⟨h0, h1, fun hl' => ?_⟩
    obtain ⟨v, ds, b, o, hv, hr, hval, hb, hc⟩ := hl (h2 hl').1
    have hk := (h2 hl').2
    exact ⟨v, ds, b, o, hv, hr.frame hk, hval, (hk b hb).2, fun j d hj => (World.cell?_of_block (w := w) (hk b hb).1).trans (hc j d hj)⟩
  | el c ver esz i off e et y =>
    obtain ⟨h0, hp, hl⟩ := h
    obtain ⟨h1, h2⟩ := Src.keeps f hi st (.ch c ver) hp
    refine ⟨h0, h1, fun hl' => ?_⟩
    obtain ⟨⟨v, hv, hr⟩, b, o, len, cap, n, hio, hb, hin, hc⟩ := hl (h2 hl').1
    have hk := (h2 hl').2
    exact ⟨⟨v, hv, hr.frame hk⟩, b, o, len, cap, n, f.io _ _ hio, (hk b hb).2, hin, (World.cell?_of_block (w := w) (hk b hb).1).trans hc⟩
  | pin k => exact h
  | fn f => exact h

theorem cellsOk.mono {ok ok' : CV → Value → Prop} (h : ∀ c v, ok c v → ok' c v) : ∀ {cs : List CV} {vs : List Value}, cellsOk ok cs vs → cellsOk ok' cs vs
  | [], [], _ => trivial
  | _ :: _, _ :: _, hk => ⟨h _ _ hk.1, hk.2.mono h⟩
  | [], _ :: _, hk => hk.elim
  | _ :: _, [], hk => hk.elim

theorem tupOk.mono {ok ok' : CV → Value → Prop} (h : ∀ c v, ok c v → ok' c v) : ∀ {cs : List (Bool × List CV)} {vs : List Value}, tupOk ok cs vs → tupOk ok' cs vs
  | [], [], _ => trivial
  | (b, _) :: _, _ :: _, hk => ⟨(match b, hk.1 with
      | false, k => cellsOk.mono h k
      | true, ⟨vs, e, k⟩ => ⟨vs, e, cellsOk.mono h k⟩), hk.2.mono h⟩
  | [], _ :: _, hk => hk.elim
  | _ :: _, [], hk => hk.elim

theorem SV.ok_mono {ok ok' : CV → Value → Prop} (h : ∀ c v, ok c v → ok' c v) {s : SV} {v : Value} (hk : s.ok ok v) : s.ok ok' v := by
  cases s with
  | cv c => exact h _ _ hk
  | agg cs => obtain ⟨vs, e, k⟩ := hk; exact ⟨vs, e, cellsOk.mono h k⟩
  | tup xs => obtain ⟨vs, e, k⟩ := hk; exact ⟨vs, e, tupOk.mono h k⟩

theorem Ch.frame (f : Fr T w g w' g') (hi : ∀ b, w.heap.size ≤ b → g.L b = []) (st : ∀ b, x.S0 b → b < w.heap.size ∧ g.L b = []) {c : Nat} (hc : ¬ T c) {ch : Ch}
    (h : ch.ok x w g ρ c) : ch.ok x w' g' ρ c := by
  cases ch with
  | fresh => exact ⟨(f.ioF c hc).trans h.1, (f.gvF c hc).trans h.2⟩
  | dead => trivial
  | arr ver e et y =>
    obtain ⟨v, val, h1, h2, h3, h4⟩ := h
    refine ⟨v, val, f.io _ _ h1, h2, (f.gvF c hc).trans h3, h4.frame (fun b q hb => ?_)⟩
    have hl : (g.L b).getLast? = some c := by rw [hb]; simp
    have := f.blk b (last_lt hi hl) (fun d hd => by rw [hl] at hd; cases hd; exact hc)
    exact ⟨this.1, by rw [this.2, hb]⟩
  | box cells ty =>
    obtain ⟨b, vs, h1, h2, h3, h4⟩ := h
    have hl : (g.L b).getLast? = some c := by rw [h2]; rfl
    have := f.blk b (last_lt hi hl) (fun d hd => by rw [hl] at hd; cases hd; exact hc)
    exact ⟨b, vs, f.io _ _ h1, this.2.trans h2, this.1.trans h3, cellsOk.mono (fun c v => CV.frame f hi st) h4⟩

end

/-- More values: what was known stays known. -/
theorem CV.ok_app {x : Fx} {w : World} {g : Gh} {ρ : List V} (δ : List V) {c : CV} {val : Value} (h : c.ok x w g ρ val) : c.ok x w g (ρ ++ δ) val := by
  cases c with
  | junk => trivial
  | und => exact h
  | nil => exact h
  | sc sh e => obtain ⟨v, h1, h2⟩ := h; exact ⟨v, E.den_app δ h1, h2⟩
  | rd src e et y => exact ⟨h.1, h.2.1, fun hl => by obtain ⟨v, h1, h2⟩ := h.2.2 hl; exact ⟨v, E.den_app δ h1, h2⟩⟩
  | own c => exact h
  | ptr c off => exact h
  | ep c esz i off => obtain ⟨b, o, len, cap, n, h1, h2, h3⟩ := h; exact ⟨b, o, len, cap, n, h1, E.den_app δ h2, h3⟩
  | rp src e y off => exact ⟨h.1, h.2.1, fun hl => by obtain ⟨v, ds, b, o, h1, h2⟩ := h.2.2 hl; exact ⟨v, ds, b, o, E.den_app δ h1, h2⟩⟩
  | el c ver esz i off e et y =>
    exact ⟨h.1, h.2.1, fun hl => by obtain ⟨⟨v, h1, h2⟩, b, o, len, cap, n, h3, h4, h5, h6⟩ := h.2.2 hl; exact ⟨⟨v, E.den_app δ h1, h2⟩, b, o, len, cap, n, h3, h4, E.den_app δ h5, h6⟩⟩
  | pin k => exact h
  | fn f => exact h

theorem Ch.ok_app {x : Fx} {w : World} {g : Gh} {ρ : List V} (δ : List V) {c : Nat} {ch : Ch} (h : ch.ok x w g ρ c) : ch.ok x w g (ρ ++ δ) c := by
  cases ch with
  | fresh => exact h
  | dead => trivial
  | arr ver e et y => obtain ⟨v, val, h1, h2, h3⟩ := h; exact ⟨v, val, h1, E.den_app δ h2, h3⟩
  | box cells ty => obtain ⟨b, vs, h1, h2, h3, h4⟩ := h; exact ⟨b, vs, h1, h2, h3, cellsOk.mono (fun _ _ => CV.ok_app δ) h4⟩

theorem Rel.app {x : Fx} {Γ : G} {ρ : List V} {a : Act} {w : World} {g : Gh} (h : Rel x Γ ρ a w g) (δ : List V) : Rel x Γ (ρ ++ δ) a w g :=
  ⟨h.defers, h.size, fun t => SV.ok_mono (fun _ _ => CV.ok_app δ) (h.slots t), fun c => Ch.ok_app δ (h.chunks c), h.stable, h.high, h.low, h.env, h.args⟩

def G.putSlot (Γ : G) (t : Nat) (s : SV) : G := { Γ with slots := putA t s Γ.slots }
def G.putChunk (Γ : G) (c : Nat) (h : Ch) : G := { Γ with chunks := putA c h Γ.chunks }

def G.putChunks (Γ : G) : List (Nat × Ch) → G
  | [] => Γ
  | (c, h) :: l => (Γ.putChunks l).putChunk c h

theorem G.slot_putSlot (Γ : G) (t : Nat) (s : SV) (n : Nat) : (Γ.putSlot t s).slot n = if t = n then s else Γ.slot n := by
  simp only [G.slot, G.putSlot, look_putA]; split <;> rfl
theorem G.chunk_putChunk (Γ : G) (c : Nat) (h : Ch) (n : Nat) : (Γ.putChunk c h).chunk n = if c = n then h else Γ.chunk n := by
  simp only [G.chunk, G.putChunk, look_putA]; split <;> rfl
theorem G.slot_putChunks (Γ : G) (n : Nat) : ∀ l, (Γ.putChunks l).slot n = Γ.slot n
  | [] => rfl
  | (c, h) :: l => G.slot_putChunks Γ n l
theorem G.chunk_putChunks (Γ : G) (n : Nat) : ∀ l, (Γ.putChunks l).chunk n = (look l n).getD (Γ.chunk n)
  | [] => rfl
  | (c, h) :: l => by
    simp only [G.putChunks, G.chunk_putChunk, look]
    by_cases e : c = n
    · subst e; simp
    · have : Nat.beq c n = false := by cases e' : Nat.beq c n with | false => rfl | true => exact absurd (Nat.eq_of_beq_eq_true e') e
      simp [e, this, G.chunk_putChunks Γ n l]

theorem Act.put_get (a : Act) (d : Nat) (v : Value) (hd : d < a.tmps.size) (t : Nat) : (a.put (some d) v).tmps.getD t undef = if d = t then v else a.tmps.getD t undef := by
  simp only [Act.put, Array.getD_eq_getD_getElem?, Array.getElem?_setIfInBounds]
  by_cases h : d = t
  · subst h; simp [hd]
  · simp [h]

/-- A slot that may be written: none of the first, which hold what was handed in. -/
def inNt (d : Nat) (nt : Nat × Nat) : Prop := nt.1 ≤ d ∧ d < nt.2

/-- One step of a call: the world has changed as Fr tells, the chunks that it tells of are told anew, and a slot. -/
theorem Rel.next {x : Fx} {Γ : G} {ρ : List V} {a : Act} {w : World} {g : Gh} (h : Rel x Γ ρ a w g) {w' : World} {g' : Gh} (upd : List (Nat × Ch))
    (f : Fr (fun c => (look upd c).isSome = true) w g w' g') (hu : ∀ c ch, look upd c = some ch → ch.ok x w' g' ρ c)
    (d : Nat) (s : SV) (val : Value) (hd : inNt d x.nt) (hs : s.ok (CV.ok x w' g' ρ) val) :
    Rel x ((Γ.putChunks upd).putSlot d s) ρ (a.put (some d) val) w' g' := by
  have st : ∀ b, x.S0 b → b < w.heap.size ∧ g.L b = [] := fun b hb => ⟨Nat.lt_of_lt_of_le hb.1 h.low, (h.stable b hb).2⟩
  refine ⟨h.defers, by simp [Act.put, h.size], fun t => ?_, fun c => ?_, fun b hb => ?_, f.high, Nat.le_trans h.low f.size, f.env.trans h.env, fun i hi => ?_⟩
  · rw [Act.put_get a d val (by rw [h.size]; exact hd.2), G.slot_putSlot]
    split
    · exact hs
    · rw [G.slot_putChunks]; exact SV.ok_mono (fun c v => CV.frame f h.high st) (h.slots t)
  · show (((Γ.putChunks upd)).chunk c).ok x w' g' ρ c
    rw [G.chunk_putChunks]
    cases hl : look upd c with
    | some ch => exact hu c ch hl
    | none => exact Ch.frame f h.high st (by simp [hl]) (h.chunks c)
  · have hb' := f.blk b (st b hb).1 (fun c hc => by rw [(st b hb).2] at hc; cases hc)
    exact ⟨hb'.1.trans (h.stable b hb).1, hb'.2.trans (st b hb).2⟩
  · rw [Act.put_get a d val (by rw [h.size]; exact hd.2), if_neg (by have := hd.1; omega)]
    exact h.args i hi

theorem Fr.refl (T : Nat → Prop) (w : World) (g : Gh) (hi : ∀ b, w.heap.size ≤ b → g.L b = []) (hT : ∀ c, ¬ T c) : Fr T w g w g :=
  ⟨hT 0, fun _ _ _ => ⟨rfl, rfl⟩, fun _ _ h => h, fun _ _ => rfl, fun _ _ => rfl, fun c h => absurd h (hT c), Nat.le_refl _, hi, Env.refl w⟩

/-- A step that leaves memory alone. -/
theorem Rel.pure {x : Fx} {Γ : G} {ρ : List V} {a : Act} {w : World} {g : Gh} (h : Rel x Γ ρ a w g) (d : Nat) (s : SV) (val : Value) (hd : inNt d x.nt) (hs : s.ok (CV.ok x w g ρ) val) :
    Rel x (Γ.putSlot d s) ρ (a.put (some d) val) w g :=
  h.next [] (Fr.refl _ w g h.high (by simp [look])) (by simp [look]) d s val hd hs

end Go.Proofs.YteleedlkdadogaaGreat.Fw
