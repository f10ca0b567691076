/- A region's operations in any order. -/
import Derived.Test.YteleedlkdadogaaGreatFw15
namespace Go.Proofs.YteleedlkdadogaaGreat.Fw
open Go.RowKit

def Rc.wS (rc : Rc) : List Nat := match rc.o.dst with | some d => [d] | none => []
def Rc.wC (rc : Rc) : List Nat := match rc.r with | some res => res.upd.map (·.1) | none => []

theorem look_none {α : Type} {c : Nat} : ∀ {l : List (Nat × α)}, c ∉ l.map (·.1) → look l c = none
  | [], _ => rfl
  | (k, v) :: l, h => by
    simp only [List.map_cons, List.mem_cons, not_or] at h
    have : Nat.beq k c = false := by cases e : Nat.beq k c with | false => rfl | true => exact absurd (Nat.eq_of_beq_eq_true e).symm h.1
    simp [look, this, look_none h.2]

theorem Rc.app_slot_ne {rc : Rc} {t : Nat} (h : t ∉ rc.wS) (Γ : G) : (rc.app Γ).slot t = Γ.slot t := by
  unfold Rc.wS at h
  unfold Rc.app
  cases hr : rc.r <;> cases hd : rc.o.dst <;> simp only [hd, List.mem_singleton] at h ⊢
  · rw [G.slot_putSlot, if_neg (fun e => h e.symm)]
  · rw [G.slot_putChunks]
  · rw [G.slot_putSlot, if_neg (fun e => h e.symm), G.slot_putChunks]

theorem Rc.app_slot_eq {rc : Rc} {t : Nat} (h : t ∈ rc.wS) (Γ Γ' : G) : (rc.app Γ).slot t = (rc.app Γ').slot t := by
  unfold Rc.wS at h
  unfold Rc.app
  cases hr : rc.r <;> cases hd : rc.o.dst <;> simp only [hd, List.mem_singleton, List.not_mem_nil] at h ⊢
  · subst h; rw [G.slot_putSlot, G.slot_putSlot, if_pos rfl, if_pos rfl]
  · subst h; rw [G.slot_putSlot, G.slot_putSlot, if_pos rfl, if_pos rfl]

theorem Rc.app_chunk_ne {rc : Rc} {c : Nat} (h : c ∉ rc.wC) (Γ : G) : (rc.app Γ).chunk c = Γ.chunk c := by
  unfold Rc.wC at h
  unfold Rc.app
  cases hr : rc.r <;> cases hd : rc.o.dst <;> simp only [hr] at h ⊢
  · rfl
  · rw [G.chunk_putChunks, look_none h]; rfl
  · show ((Γ.putChunks _)).chunk c = _
    rw [G.chunk_putChunks, look_none h]; rfl

theorem Rc.app_chunk_eq {rc : Rc} {c : Nat} (h : c ∈ rc.wC) (Γ Γ' : G) : (rc.app Γ).chunk c = (rc.app Γ').chunk c := by
  unfold Rc.wC at h
  unfold Rc.app
  cases hr : rc.r <;> simp only [hr, List.not_mem_nil] at h ⊢
  rename_i res
  obtain ⟨v, hv⟩ := look_some h
  cases hd : rc.o.dst
  · simp only [G.chunk_putChunks, hv, Option.getD_some]
  · show ((Γ.putChunks _)).chunk c = ((Γ'.putChunks _)).chunk c
    simp only [G.chunk_putChunks, hv, Option.getD_some]

/-- The records of S alone, in the order of the text. -/
def appS (S : Nat → Bool) : Nat → List Rc → G → G
  | _, [], Γ => Γ
  | k, rc :: l, Γ => appS S (k + 1) l (if S k then rc.app Γ else Γ)

theorem appS_slot {S S' : Nat → Bool} {t : Nat} : ∀ {l : List Rc} {k : Nat} {Γ Γ' : G}, Γ.slot t = Γ'.slot t → (∀ i rc, l[i]? = some rc → S (k + i) ≠ S' (k + i) → t ∉ rc.wS) → (appS S k l Γ).slot t = (appS S' k l Γ').slot t
  | [], k, Γ, Γ', h, _ => h
  | rc :: l, k, Γ, Γ', h, hd => by
    simp only [appS]
    refine appS_slot ?_ (fun i rc' hi hne => hd (i + 1) rc' (by simpa using hi) (by rw [show k + (i + 1) = k + 1 + i by omega]; exact hne))
    by_cases hm : t ∈ rc.wS
    · have : S k = S' k := by
        rcases Bool.eq_false_or_eq_true (S k == S' k) with h | h
        · simpa using h
        · exact absurd hm (hd 0 rc rfl (by simpa using h))
      rw [this]
      split
      · exact Rc.app_slot_eq hm _ _
      · exact h
    · have h1 : ∀ b : Bool, ∀ Γ : G, (if b then rc.app Γ else Γ).slot t = Γ.slot t := fun b Γ => by
        cases b
        · rfl
        · exact Rc.app_slot_ne hm Γ
      rw [h1, h1]; exact h

theorem appS_chunk {S S' : Nat → Bool} {t : Nat} : ∀ {l : List Rc} {k : Nat} {Γ Γ' : G}, Γ.chunk t = Γ'.chunk t → (∀ i rc, l[i]? = some rc → S (k + i) ≠ S' (k + i) → t ∉ rc.wC) → (appS S k l Γ).chunk t = (appS S' k l Γ').chunk t
  | [], k, Γ, Γ', h, _ => h
  | rc :: l, k, Γ, Γ', h, hd => by
    simp only [appS]
    refine appS_chunk ?_ (fun i rc' hi hne => hd (i + 1) rc' (by simpa using hi) (by rw [show k + (i + 1) = k + 1 + i by omega]; exact hne))
    by_cases hm : t ∈ rc.wC
    · have : S k = S' k := by
        rcases Bool.eq_false_or_eq_true (S k == S' k) with h | h
        · simpa using h
        · exact absurd hm (hd 0 rc rfl (by simpa using h))
      rw [this]
      split
      · exact Rc.app_chunk_eq hm _ _
      · exact h
    · have h1 : ∀ b : Bool, ∀ Γ : G, (if b then rc.app Γ else Γ).chunk t = Γ.chunk t := fun b Γ => by
        cases b
        · rfl
        · exact Rc.app_chunk_ne hm Γ
      rw [h1, h1]; exact h

theorem appS_all {S : Nat → Bool} : ∀ {l : List Rc} {k : Nat} {Γ : G}, (∀ i, i < l.length → S (k + i) = true) → appS S k l Γ = appAll Γ l
  | [], _, _, _ => rfl
  | rc :: l, k, Γ, h => by
    simp only [appS, appAll]
    rw [show S k = true from h 0 (by simp)]
    exact appS_all (fun i hi => by have := h (i + 1) (by simpa using hi); rw [show k + 1 + i = k + (i + 1) by omega]; exact this)

theorem appS_none {S : Nat → Bool} : ∀ {l : List Rc} {k : Nat} {Γ : G}, (∀ i, i < l.length → S (k + i) = false) → appS S k l Γ = Γ
  | [], _, _, _ => rfl
  | rc :: l, k, Γ, h => by
    simp only [appS]
    rw [show S k = false from h 0 (by simp)]
    exact appS_none (fun i hi => by have := h (i + 1) (by simpa using hi); rw [show k + 1 + i = k + (i + 1) by omega]; exact this)

def maskOf : List Nat → Nat
  | [] => 0
  | a :: l => 2 ^ a ||| maskOf l

theorem maskOf_test {k : Nat} : ∀ {l : List Nat}, (maskOf l).testBit k = true ↔ k ∈ l
  | [] => by simp [maskOf]
  | a :: l => by
    simp only [maskOf, Nat.testBit_or, Bool.or_eq_true, List.mem_cons, maskOf_test (l := l), Nat.testBit_two_pow, decide_eq_true_eq]
    constructor
    · rintro (h | h)
      · exact .inl h.symm
      · exact .inr h
    · rintro (h | h)
      · exact .inl h.symm
      · exact .inr h

def disj (p q : Nat) : Bool := Nat.beq (p &&& q) 0

theorem disj_spec {p q : List Nat} (h : disj (maskOf p) (maskOf q) = true) {k : Nat} (h1 : k ∈ p) : k ∉ q := by
  intro h2
  have := Nat.eq_of_beq_eq_true h
  have h3 : (maskOf p &&& maskOf q).testBit k = true := by rw [Nat.testBit_and, maskOf_test.2 h1, maskOf_test.2 h2]; rfl
  rw [this] at h3
  simp at h3

/-- What a record looks at and writes, as masks, and the operations that surely come ahead. -/
structure Mk where
  rS : Nat
  wS : Nat
  rC : Nat
  wC : Nat
  anc : Nat

def preds (o : Oper) : List Nat := (o.after.toList.filter (Region.binds .any)).map (·.on)

def getAnc : List Mk → Nat → Nat → Option Nat
  | [], _, _ => none
  | m :: l, k, p => if Nat.beq k p then some m.anc else getAnc l (k - 1) p

/-- the masks of what lies ahead of an operation; `done` has the operations so far, the last first -/
def ancOf (done : List Mk) (j : Nat) : List Nat → Option Nat
  | [] => some 0
  | p :: ps => if Nat.blt p j then (match getAnc done (j - 1) p, ancOf done j ps with
    | some m, some r => some (2 ^ p ||| m ||| r)
    | _, _ => none) else none

def clash (i j : Mk) : Bool := !(disj i.wS (j.rS ||| j.wS) && disj i.rS j.wS && disj i.wC (j.rC ||| j.wC) && disj i.rC j.wC)

def clashOk (m : Mk) : List Mk → Nat → Bool
  | [], _ => true
  | i :: l, k => (!(clash i m) || m.anc.testBit k) && clashOk m l (k - 1)

def mkOf (all : List Oper) (rc : Rc) (anc : Nat) : Mk := ⟨maskOf (rc.rS all), maskOf rc.wS, maskOf rc.cs, maskOf rc.wC, anc⟩

def orderOk (all : List Oper) : List Rc → Nat → List Mk → Bool
  | [], _, _ => true
  | rc :: l, j, done => match ancOf done j (preds rc.o) with
    | none => false
    | some m => clashOk (mkOf all rc m) done (j - 1) && orderOk all l (j + 1) (mkOf all rc m :: done)

/-- What orderOk has seen: the operation j has the mask `anc j`. -/
structure Ordered (all : List Oper) (rs : List Rc) (anc : Nat → Nat) : Prop where
  lt : ∀ j rc p, rs[j]? = some rc → p ∈ preds rc.o → p < j
  into : ∀ j rc i, rs[j]? = some rc → (anc j).testBit i = true → ∃ p ∈ preds rc.o, i = p ∨ (anc p).testBit i = true
  clash : ∀ i j a b, i < j → rs[i]? = some a → rs[j]? = some b → (anc j).testBit i = true ∨ ((∀ t ∈ a.wS, t ∉ b.rS all ∧ t ∉ b.wS) ∧ (∀ t ∈ b.wS, t ∉ a.rS all) ∧ (∀ t ∈ a.wC, t ∉ b.cs ∧ t ∉ b.wC) ∧ (∀ t ∈ b.wC, t ∉ a.cs))

/-- the masks that orderOk made -/
def ancs (all : List Oper) : List Rc → Nat → List Mk → List Mk
  | [], _, done => done
  | rc :: l, j, done => match ancOf done j (preds rc.o) with
    | none => done
    | some m => ancs all l (j + 1) (mkOf all rc m :: done)

theorem getAnc_eq : ∀ {done : List Mk} {j p : Nat} {m : Nat}, p < j → done.length = j → getAnc done (j - 1) p = some m → ∃ mk, done.reverse[p]? = some mk ∧ mk.anc = m
  | [], j, p, m, hp, hl, h => by simp at hl; omega
  | d :: done, j, p, m, hp, hl, h => by
    simp only [getAnc] at h
    simp only [List.length_cons] at hl
    split at h
    · rename_i hb
      have := Nat.eq_of_beq_eq_true hb
      cases h
      refine ⟨d, ?_, rfl⟩
      rw [List.reverse_cons, List.getElem?_append_right (by simp; omega), show p - done.reverse.length = 0 by simp; omega]
      rfl
    · rename_i hb
      have hne : j - 1 ≠ p := fun e => hb (by subst e; simp)
      obtain ⟨mk, h1, h2⟩ := getAnc_eq (j := j - 1) (by omega) (by omega) h
      exact ⟨mk, by rw [List.reverse_cons, List.getElem?_append_left (by simp; omega)]; exact h1, h2⟩

theorem ancOf_spec {done : List Mk} {j : Nat} (hl : done.length = j) : ∀ {ps : List Nat} {m : Nat}, ancOf done j ps = some m →
    (∀ p ∈ ps, p < j) ∧ ∀ i, m.testBit i = true → ∃ p ∈ ps, i = p ∨ ∃ mk, done.reverse[p]? = some mk ∧ mk.anc.testBit i = true
  | [], m, h => by simp only [ancOf, Option.some.injEq] at h; subst h; simp
  | p :: ps, m, h => by
    simp only [ancOf] at h
    split at h
    · rename_i hp
      have hp' : p < j := Nat.le_of_ble_eq_true hp
      split at h
      · rename_i m1 r h1 h2
        cases h
        obtain ⟨mk, e1, e2⟩ := getAnc_eq hp' hl h1
        obtain ⟨f1, f2⟩ := ancOf_spec hl h2
        refine ⟨fun q hq => ?_, fun i hi => ?_⟩
        · rcases List.mem_cons.1 hq with rfl | hq
          · exact hp'
          · exact f1 q hq
        · simp only [Nat.testBit_or, Bool.or_eq_true, Nat.testBit_two_pow, decide_eq_true_eq] at hi
          rcases hi with (hi | hi) | hi
          · exact ⟨p, List.mem_cons_self, .inl hi.symm⟩
          · exact ⟨p, List.mem_cons_self, .inr ⟨mk, e1, by rw [e2]; exact hi⟩⟩
          · obtain ⟨q, hq, hq'⟩ := f2 i hi
            exact ⟨q, List.mem_cons_of_mem _ hq, hq'⟩
      · cases h
    · cases h

theorem disj_or {a b c : Nat} (h : disj a (b ||| c) = true) : disj a b = true ∧ disj a c = true := by
  have h0 := Nat.eq_of_beq_eq_true h
  have : ∀ k, (a.testBit k && (b.testBit k || c.testBit k)) = false := fun k => by
    have := congrArg (fun n => n.testBit k) h0
    simpa [Nat.testBit_and, Nat.testBit_or] using this
  have h1 : a &&& b = 0 := Nat.eq_of_testBit_eq fun k => by
    have := this k
    rw [Nat.testBit_and, Nat.zero_testBit]
    revert this; cases a.testBit k <;> cases b.testBit k <;> simp
  have h2 : a &&& c = 0 := Nat.eq_of_testBit_eq fun k => by
    have := this k
    rw [Nat.testBit_and, Nat.zero_testBit]
    revert this; cases a.testBit k <;> cases c.testBit k <;> simp
  exact ⟨by simp [disj, h1], by simp [disj, h2]⟩

theorem clashOk_spec {m : Mk} : ∀ {done : List Mk} {j : Nat}, done.length = j → clashOk m done (j - 1) = true → ∀ i mk, done.reverse[i]? = some mk → Fw.clash mk m = false ∨ m.anc.testBit i = true
  | [], j, _, _, i, mk, hi => by simp at hi
  | d :: done, j, hl, h, i, mk, hi => by
    simp only [clashOk, Bool.and_eq_true, Bool.or_eq_true, Bool.not_eq_true'] at h
    simp only [List.length_cons] at hl
    rw [List.reverse_cons] at hi
    rcases Nat.lt_or_ge i done.length with hlt | hge
    · rw [List.getElem?_append_left (by simpa using hlt)] at hi
      exact clashOk_spec (j := j - 1) (by omega) h.2 i mk hi
    · rw [List.getElem?_append_right (by simpa using hge)] at hi
      have hi0 : i - done.length = 0 := by
        rcases Nat.eq_zero_or_pos (i - done.length) with h | h
        · exact h
        · rw [List.length_reverse, List.getElem?_eq_none (by simp; omega)] at hi; cases hi
      rw [List.length_reverse, hi0] at hi
      simp at hi
      subst hi
      have : j - 1 = i := by omega
      rw [this] at h
      exact h.1

theorem ancs_old (all : List Oper) : ∀ {l : List Rc} {j : Nat} {done : List Mk} (i : Nat), i < done.length → (ancs all l j done).reverse[i]? = done.reverse[i]?
  | [], _, _, _, _ => rfl
  | rc :: l, j, done, i, h => by
    simp only [ancs]
    split
    · rfl
    · rw [ancs_old all i (by simp; omega), List.reverse_cons, List.getElem?_append_left (by simpa using h)]

theorem orderOk_spec {all : List Oper} : ∀ {l : List Rc} {j : Nat} {done : List Mk}, done.length = j → orderOk all l j done = true → ∀ k rc, l[k]? = some rc →
    ∃ m, (ancs all l j done).reverse[j + k]? = some (mkOf all rc m) ∧ (∀ p ∈ preds rc.o, p < j + k) ∧
      (∀ i, m.testBit i = true → ∃ p ∈ preds rc.o, i = p ∨ ∃ mk, (ancs all l j done).reverse[p]? = some mk ∧ mk.anc.testBit i = true) ∧
      (∀ i mk, i < j + k → (ancs all l j done).reverse[i]? = some mk → Fw.clash mk (mkOf all rc m) = false ∨ m.testBit i = true)
  | [], _, _, _, _, k, rc, h => by simp at h
  | r :: l, j, done, hl, ho, k, rc, hk => by
    simp only [orderOk] at ho
    split at ho
    · cases ho
    · rename_i m hm
      simp only [Bool.and_eq_true] at ho
      have e : ancs all (r :: l) j done = ancs all l (j + 1) (mkOf all r m :: done) := by
        show (match ancOf done j (preds r.o) with | none => done | some m => ancs all l (j + 1) (mkOf all r m :: done)) = _
        rw [hm]
      rw [e]
      cases k with
      | zero =>
        simp only [List.getElem?_cons_zero, Option.some.injEq] at hk
        subst hk
        obtain ⟨f1, f2⟩ := ancOf_spec hl hm
        have hold : ∀ i, i < j → (ancs all l (j + 1) (mkOf all r m :: done)).reverse[i]? = done.reverse[i]? := fun i hi => by
          rw [ancs_old all i (by simp; omega), List.reverse_cons, List.getElem?_append_left (by simp; omega)]
        refine ⟨m, ?_, by simpa using f1, fun i hi => ?_, fun i mk hi hmk => ?_⟩
        · rw [ancs_old all (j + 0) (by simp; omega), List.reverse_cons, List.getElem?_append_right (by simp; omega), show j + 0 - done.reverse.length = 0 by simp; omega]
          rfl
        · obtain ⟨p, hp, hp'⟩ := f2 i hi
          refine ⟨p, hp, hp'.imp id (fun ⟨mk, h1, h2⟩ => ⟨mk, ?_, h2⟩)⟩
          rw [hold p (f1 p hp)]; exact h1
        · rw [hold i (by omega)] at hmk
          exact clashOk_spec hl ho.1 i mk hmk
      | succ k =>
        have := orderOk_spec (done := mkOf all r m :: done) (j := j + 1) (by simp; omega) ho.2 k rc (by simpa using hk)
        rw [show j + 1 + k = j + (k + 1) by omega] at this
        exact this

theorem clash_spec {all : List Oper} {a b : Rc} {m n : Nat} (h : Fw.clash (mkOf all a m) (mkOf all b n) = false) :
    (∀ t ∈ a.wS, t ∉ b.rS all ∧ t ∉ b.wS) ∧ (∀ t ∈ b.wS, t ∉ a.rS all) ∧ (∀ t ∈ a.wC, t ∉ b.cs ∧ t ∉ b.wC) ∧ (∀ t ∈ b.wC, t ∉ a.cs) := by
  simp only [Fw.clash, mkOf, Bool.not_eq_false', Bool.and_eq_true] at h
  obtain ⟨⟨⟨h1, h2⟩, h3⟩, h4⟩ := h
  have h1' := disj_or h1
  have h3' := disj_or h3
  exact ⟨fun t ht => ⟨disj_spec h1'.1 ht, disj_spec h1'.2 ht⟩, fun t ht ht' => disj_spec h2 ht' ht, fun t ht => ⟨disj_spec h3'.1 ht, disj_spec h3'.2 ht⟩, fun t ht ht' => disj_spec h4 ht' ht⟩

theorem orderOk_ordered {all : List Oper} {rs : List Rc} (h : orderOk all rs 0 [] = true) : ∃ anc, Ordered all rs anc := by
  have hs := orderOk_spec (l := rs) (j := 0) (done := []) rfl h
  refine ⟨fun j => (((ancs all rs 0 []).reverse[j]?).map Mk.anc).getD 0, ⟨fun j rc p hj hp => ?_, fun j rc i hj hi => ?_, fun i j a b hij ha hb => ?_⟩⟩
  · obtain ⟨m, h1, h2, h3, h4⟩ := hs j rc hj
    simpa using h2 p hp
  · obtain ⟨m, h1, h2, h3, h4⟩ := hs j rc hj
    rw [Nat.zero_add] at h1
    rw [h1] at hi
    obtain ⟨p, hp, hp'⟩ := h3 i (by simpa [mkOf] using hi)
    refine ⟨p, hp, hp'.imp id (fun ⟨mk, h1, h2⟩ => ?_)⟩
    rw [h1]; exact h2
  · obtain ⟨m, h1, h2, h3, h4⟩ := hs j b hb
    obtain ⟨m', h1', _⟩ := hs i a ha
    rw [Nat.zero_add] at h1 h1'
    rcases h4 i _ (by omega) h1' with h | h
    · exact .inr (clash_spec h)
    · left; rw [h1]; exact h

/-- The listed operations lie ahead of themselves. -/
def Closed (rs : List Rc) (S : Nat → Bool) : Prop := ∀ j rc, rs[j]? = some rc → S j = true → ∀ p ∈ preds rc.o, S p = true

theorem anc_in {all : List Oper} {rs : List Rc} {anc : Nat → Nat} (ho : Ordered all rs anc) {S : Nat → Bool} (hc : Closed rs S) : ∀ (j : Nat) (rc : Rc), rs[j]? = some rc → (∀ p ∈ preds rc.o, S p = true) → ∀ i, (anc j).testBit i = true → S i = true := by
  intro j
  induction j using Nat.strongRecOn with
  | ind j ih =>
    intro rc hj hp i hi
    obtain ⟨p, hp1, hp2⟩ := ho.into j rc i hj hi
    rcases hp2 with rfl | hp2
    · exact hp _ hp1
    · have hlt := ho.lt j rc p hj hp1
      have hjl : j < rs.length := (List.getElem?_eq_some_iff.1 hj).1
      have hrp : rs[p]? = some rs[p] := List.getElem?_eq_getElem (by omega)
      exact ih p hlt _ hrp (hc p _ hrp (hp p hp1)) i hp2

theorem RcsOk.at {B : Tabs} {P : Program} {all : List Oper} {ρ : List V} : ∀ {rs : List Rc} {Γ : G}, RcsOk B P all ρ Γ rs → ∀ (j : Nat) (rc : Rc), rs[j]? = some rc → RcOk B P all ρ (appS (fun i => Nat.blt i j) 0 rs Γ) rc := by
  have hgen : ∀ (rs : List Rc) (Γ : G) (k : Nat), RcsOk B P all ρ Γ rs → ∀ (j : Nat) (rc : Rc), rs[j]? = some rc → RcOk B P all ρ (appS (fun i => Nat.blt i (k + j)) k rs Γ) rc := by
    intro rs
    induction rs with
    | nil => intro Γ k _ j rc h; simp at h
    | cons r l ih =>
      intro Γ k hok j rc hj
      cases j with
      | zero =>
        simp only [List.getElem?_cons_zero, Option.some.injEq] at hj
        subst hj
        rw [appS_none (fun i _ => by
          cases e : Nat.blt (k + i) (k + 0) with
          | false => rfl
          | true => have := Nat.le_of_ble_eq_true e; omega)]
        exact hok.1
      | succ j =>
        have := ih (r.app Γ) (k + 1) hok.2 j rc (by simpa using hj)
        simp only [appS]
        have hb : Nat.blt k (k + (j + 1)) = true := Nat.ble_eq_true_of_le (by omega)
        rw [if_pos hb]
        rw [show k + 1 + j = k + (j + 1) by omega] at this
        exact this
  intro rs Γ hok j rc hj
  have := hgen rs Γ 0 hok j rc hj
  simpa using this

/-- A listed set, and one operation more. -/
theorem appS_insert {all : List Oper} {rs : List Rc} {anc : Nat → Nat} (ho : Ordered all rs anc) {S S' : Nat → Bool} (hc : Closed rs S) {j : Nat} {rc : Rc} (hj : rs[j]? = some rc) (hn : S j = false) (hS : ∀ i, S' i = (S i || Nat.beq i j)) (Γ : G) :
    (∀ t, (appS S' 0 rs Γ).slot t = (rc.app (appS S 0 rs Γ)).slot t) ∧ (∀ c, (appS S' 0 rs Γ).chunk c = (rc.app (appS S 0 rs Γ)).chunk c) := by
  have hlater : ∀ (i : Nat) (r : Rc), rs[i]? = some r → j < i → S i = true → (∀ t ∈ rc.wS, t ∉ r.wS) ∧ (∀ t ∈ rc.wC, t ∉ r.wC) := by
    intro i r hi hlt hSi
    rcases ho.clash j i rc r hlt hj hi with h | h
    · have := anc_in ho hc i r hi (hc i r hi hSi) j h
      rw [hn] at this; cases this
    · exact ⟨fun t ht => (h.1 t ht).2, fun t ht => (h.2.2.1 t ht).2⟩
  have hdif : ∀ (i : Nat), S' (0 + i) ≠ S (0 + i) → i = j := by
    intro i h
    rw [Nat.zero_add, hS] at h
    rcases Nat.decEq i j with e | e
    · have : Nat.beq i j = false := by cases e' : Nat.beq i j with | false => rfl | true => exact absurd (Nat.eq_of_beq_eq_true e') e
      rw [this] at h; simp at h
    · exact e
  have hsplit : ∀ (l : List Rc) (k : Nat) (Γ : G), (∀ i r, l[i]? = some r → rs[k + i]? = some r) → k ≤ j → (k + l.length = rs.length) →
      (∀ t ∈ rc.wS, (appS S' k l Γ).slot t = (rc.app Γ).slot t) ∧ (∀ t ∈ rc.wC, (appS S' k l Γ).chunk t = (rc.app Γ).chunk t) := by
    intro l
    induction l with
    | nil =>
      intro k Γ hl hk hlen
      have := (List.getElem?_eq_some_iff.1 hj).1
      simp at hlen; omega
    | cons r l ih =>
      intro k Γ hl hk hlen
      rcases Nat.lt_or_ge k j with hlt | hge
      · have h2 := ih (k + 1) (if S' k then r.app Γ else Γ) (fun i r' hi => by have := hl (i + 1) r' (by simpa using hi); rw [show k + 1 + i = k + (i + 1) by omega]; exact this) hlt (by simp at hlen; omega)
        simp only [appS]
        exact ⟨fun t ht => (h2.1 t ht).trans (Rc.app_slot_eq ht _ _), fun t ht => (h2.2 t ht).trans (Rc.app_chunk_eq ht _ _)⟩
      · have hkj : k = j := by omega
        subst hkj
        have hr : r = rc := by
          have := hl 0 r rfl
          rw [Nat.add_zero, hj] at this
          exact (Option.some.inj this).symm
        subst hr
        have hSk : S' k = true := by rw [hS]; simp
        simp only [appS, hSk, if_true]
        have hl' : ∀ i r', l[i]? = some r' → S' (k + 1 + i) = true → rs[k + 1 + i]? = some r' ∧ S (k + 1 + i) = true := by
          intro i r' hi h
          have h1 := hl (i + 1) r' (by simpa using hi)
          rw [show k + (i + 1) = k + 1 + i by omega] at h1
          refine ⟨h1, ?_⟩
          rw [hS] at h
          have : Nat.beq (k + 1 + i) k = false := by cases e' : Nat.beq (k + 1 + i) k with | false => rfl | true => have := Nat.eq_of_beq_eq_true e'; omega
          rw [this] at h; simpa using h
        refine ⟨fun t ht => ?_, fun t ht => ?_⟩
        · have := appS_slot (S := S') (S' := fun _ => false) (t := t) (l := l) (k := k + 1) (Γ := r.app Γ) rfl (fun i r' hi hne => by
            have hb : S' (k + 1 + i) = true := by simpa using hne
            obtain ⟨h1, h2⟩ := hl' i r' hi hb
            exact (hlater _ r' h1 (by omega) h2).1 t ht)
          rw [this, appS_none (fun _ _ => rfl)]
        · have := appS_chunk (S := S') (S' := fun _ => false) (t := t) (l := l) (k := k + 1) (Γ := r.app Γ) rfl (fun i r' hi hne => by
            have hb : S' (k + 1 + i) = true := by simpa using hne
            obtain ⟨h1, h2⟩ := hl' i r' hi hb
            exact (hlater _ r' h1 (by omega) h2).2 t ht)
          rw [this, appS_none (fun _ _ => rfl)]
  have hall := hsplit rs 0 Γ (fun i r h => by simpa using h) (Nat.zero_le _) (by simp)
  refine ⟨fun t => ?_, fun c => ?_⟩
  · by_cases hm : t ∈ rc.wS
    · rw [hall.1 t hm]; exact Rc.app_slot_eq hm _ _
    · rw [Rc.app_slot_ne hm]
      refine appS_slot rfl (fun i r hi hne => ?_)
      have := hdif i hne
      subst this
      rw [hj] at hi; cases hi; exact hm
  · by_cases hm : c ∈ rc.wC
    · rw [hall.2 c hm]; exact Rc.app_chunk_eq hm _ _
    · rw [Rc.app_chunk_ne hm]
      refine appS_chunk rfl (fun i r hi hne => ?_)
      have := hdif i hne
      subst this
      rw [hj] at hi; cases hi; exact hm

/-- The state where j's operation is run is, where it looks, as in the text's order. -/
theorem appS_agree {all : List Oper} {rs : List Rc} {anc : Nat → Nat} (ho : Ordered all rs anc) {S : Nat → Bool} (hc : Closed rs S) {j : Nat} {rc : Rc} (hj : rs[j]? = some rc) (hn : S j = false) (hp : ∀ p ∈ preds rc.o, S p = true) (Γ : G) :
    (∀ t, t ∈ rc.rS all → (appS S 0 rs Γ).slot t = (appS (fun i => Nat.blt i j) 0 rs Γ).slot t) ∧ (∀ c, c ∈ rc.cs → (appS S 0 rs Γ).chunk c = (appS (fun i => Nat.blt i j) 0 rs Γ).chunk c) := by
  have hkey : ∀ (i : Nat) (r : Rc), rs[i]? = some r → S (0 + i) ≠ Nat.blt (0 + i) j → (∀ t ∈ r.wS, t ∉ rc.rS all) ∧ (∀ t ∈ r.wC, t ∉ rc.cs) := by
    intro i r hi hne
    rw [Nat.zero_add] at hne
    rcases Nat.lt_or_ge i j with hlt | hge
    · have hb : Nat.blt i j = true := Nat.ble_eq_true_of_le hlt
      rw [hb] at hne
      rcases ho.clash i j r rc hlt hi hj with h | h
      · exact absurd (anc_in ho hc j rc hj hp i h) hne
      · exact ⟨fun t ht => (h.1 t ht).1, fun t ht => (h.2.2.1 t ht).1⟩
    · have hb : Nat.blt i j = false := by
        cases e : Nat.blt i j with
        | false => rfl
        | true => have := Nat.le_of_ble_eq_true e; omega
      rw [hb] at hne
      have hSi : S i = true := by simpa using hne
      have hij : j < i := by
        rcases Nat.lt_or_ge j i with h | h
        · exact h
        · have : i = j := by omega
          subst this; rw [hn] at hSi; cases hSi
      rcases ho.clash j i rc r hij hj hi with h | h
      · have := anc_in ho hc i r hi (hc i r hi hSi) j h
        rw [hn] at this; cases this
      · exact ⟨fun t ht => h.2.1 t ht, fun t ht => h.2.2.2 t ht⟩
  exact ⟨fun t ht => appS_slot rfl (fun i r hi hne hw => (hkey i r hi hne).1 t hw ht), fun c hcm => appS_chunk rfl (fun i r hi hne hw => (hkey i r hi hne).2 c hw hcm)⟩

end Go.Proofs.YteleedlkdadogaaGreat.Fw
