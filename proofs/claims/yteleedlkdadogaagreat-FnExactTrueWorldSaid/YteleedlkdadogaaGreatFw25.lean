/- Pure programs that go through a struct: copies, comparisons, counts, told by a run over expressions. -/
import Derived.Test.YteleedlkdadogaaGreatFw24
namespace Go.Proofs.YteleedlkdadogaaGreat.Fw
open Go.RowKit

def fld (sh : Sh) : E → Option (Nat × Sh)
  | .pj (.v n) j => if Nat.beq n 0 then (sh.leaf j).map fun s => (j, s) else none
  | _ => none

/-- Which cells of the value number 0 an expression takes together, and their shape. -/
def argE (sh : Sh) : E → Option (List Nat × Sh)
  | .pj e j => (match fld sh (.pj e j) with
    | some (j, s) => some ([j], s)
    | none => none)
  | .tn => some ([], .nil)
  | .tc h t => (match fld sh h, argE sh t with
    | some (j, s), some (js, t') => if t'.isSt then some (j :: js, .cons s t') else none
    | _, _ => none)
  | _ => none

theorem leaf_of {Q : Sh → V → Prop} (hc : ∀ h t v, Q (.cons h t) v → ∃ x xs, v = .t (x :: xs) ∧ Q h x ∧ Q t (.t xs)) : ∀ {sh : Sh} {fs : List V} {j : Nat} {s : Sh}, Q sh (.t fs) → sh.leaf j = some s → ∃ x, fs[j]? = some x ∧ Q s x := by
  intro sh
  induction sh with
  | cons h t ih1 ih2 =>
    intro fs j s hq hl
    obtain ⟨x, xs, e, h1, h2⟩ := hc _ _ _ hq
    cases e
    cases j with
    | zero => simp only [Sh.leaf, Option.some.injEq] at hl; subst hl; exact ⟨x, rfl, h1⟩
    | succ j => simp only [Sh.leaf] at hl; simpa using ih2 h2 hl
  | _ => intro fs j s _ hl; simp [Sh.leaf] at hl

theorem Wt.at {sh s : Sh} {fs : List V} {j : Nat} (h : Wt sh (.t fs)) (hl : sh.leaf j = some s) : ∃ x, fs[j]? = some x ∧ Wt s x := leaf_of (fun _ _ _ h => h) h hl
theorem Bd.at {sh s : Sh} {fs : List V} {j : Nat} (h : Bd sh (.t fs)) (hl : sh.leaf j = some s) : ∃ x, fs[j]? = some x ∧ Bd s x := leaf_of (fun _ _ _ h => h) h hl

theorem fld_ok {Q : Sh → V → Prop} (hc : ∀ h t v, Q (.cons h t) v → ∃ x xs, v = .t (x :: xs) ∧ Q h x ∧ Q t (.t xs)) {sh : Sh} {fs : List V} {ρ : List V} (h0 : ρ[0]? = some (.t fs)) (hq : Q sh (.t fs)) {e : E} {j : Nat} {s : Sh} (h : fld sh e = some (j, s)) :
    ∃ x, e.den ρ = some x ∧ Q s x ∧ sh.leaf j = some s ∧ fs[j]? = some x := by
  unfold fld at h
  split at h
  · rename_i n k
    split at h
    · rename_i hn
      have := Nat.eq_of_beq_eq_true hn
      subst this
      simp only [Option.map_eq_some_iff, Prod.mk.injEq] at h
      obtain ⟨s', h1, rfl, rfl⟩ := h
      obtain ⟨x, h2, h3⟩ := leaf_of hc hq h1
      exact ⟨x, by simp [E.den, h0, h2], h3, h1, h2⟩
    · cases h
  · cases h

/-- What is taken together is as what it is taken from; and back. -/
theorem argE_ok {Q : Sh → V → Prop} (hn : Q .nil (.t [])) (hc : ∀ h t v, Q (.cons h t) v → ∃ x xs, v = .t (x :: xs) ∧ Q h x ∧ Q t (.t xs)) (hb : ∀ h t x xs, Q h x → Q t (.t xs) → Q (.cons h t) (.t (x :: xs))) (ht : ∀ t v, t.isSt = true → Q t v → ∃ xs, v = .t xs)
    {sh : Sh} {fs : List V} {ρ : List V} (h0 : ρ[0]? = some (.t fs)) (hq : Q sh (.t fs)) : ∀ {e : E} {js : List Nat} {s : Sh}, argE sh e = some (js, s) → ∃ u, e.den ρ = some u ∧ Q s u := by
  intro e
  induction e with
  | pj e j ih =>
    intro js s h
    simp only [argE] at h
    split at h
    · rename_i j' s' hf
      cases h
      obtain ⟨x, h1, h2, _⟩ := fld_ok hc h0 hq hf
      exact ⟨x, h1, h2⟩
    · cases h
  | tn => intro js s h; simp only [argE, Option.some.injEq, Prod.mk.injEq] at h; obtain ⟨_, rfl⟩ := h; exact ⟨.t [], rfl, hn⟩
  | tc a t ih1 ih2 =>
    intro js s h
    simp only [argE] at h
    split at h
    · rename_i j' s' js' t' hf hat
      split at h
      · rename_i hst
        cases h
        obtain ⟨x, h1, h2, _⟩ := fld_ok hc h0 hq hf
        obtain ⟨u, h3, h4⟩ := ih2 hat
        obtain ⟨us, rfl⟩ := ht _ _ hst h4
        exact ⟨.t (x :: us), by simp [E.den, h1, h3], hb _ _ _ _ h2 h4⟩
      · cases h
    · cases h
  | _ => intro js s h; simp [argE] at h

theorem Wt.isSt_t {t : Sh} {v : V} (hs : t.isSt = true) (h : Wt t v) : ∃ xs, v = .t xs := by
  cases t with
  | nil => exact ⟨[], h⟩
  | cons a b => obtain ⟨x, xs, e, _⟩ := h; exact ⟨_, e⟩
  | _ => cases hs

theorem argE_bd {sh : Sh} {fs : List V} {ρ : List V} (h0 : ρ[0]? = some (.t fs)) (hq : Bd sh (.t fs)) {e : E} {js : List Nat} {s : Sh} (h : argE sh e = some (js, s)) : ∃ u, e.den ρ = some u ∧ Bd s u :=
  argE_ok rfl (fun _ _ _ h => h) (fun _ _ x xs h1 h2 => ⟨x, xs, rfl, h1, h2⟩) (fun _ _ hs h => h.wt.isSt_t hs) h0 hq h

/-- What is known of all that is taken is known of each. -/
theorem argE_back {sh : Sh} {fs : List V} {ρ : List V} (h0 : ρ[0]? = some (.t fs)) (hq : Wt sh (.t fs)) : ∀ {e : E} {js : List Nat} {s : Sh}, argE sh e = some (js, s) → ∃ u, e.den ρ = some u ∧ Wt s u ∧ (Bd s u → ∀ j ∈ js, ∀ s' x, sh.leaf j = some s' → fs[j]? = some x → Bd s' x) := by
  intro e
  induction e with
  | pj e j ih =>
    intro js s h
    simp only [argE] at h
    split at h
    · rename_i j' s' hf
      cases h
      obtain ⟨x, h1, h2, h3, h4⟩ := fld_ok (fun _ _ _ h => h) h0 hq hf
      refine ⟨x, h1, h2, fun hbd j hj s2 x2 h5 h6 => ?_⟩
      simp only [List.mem_singleton] at hj
      subst hj
      rw [h3] at h5; rw [h4] at h6
      cases h5; cases h6
      exact hbd
    · cases h
  | tn => intro js s h; simp only [argE, Option.some.injEq, Prod.mk.injEq] at h; obtain ⟨rfl, rfl⟩ := h; exact ⟨.t [], rfl, rfl, fun _ j hj => by simp at hj⟩
  | tc a t ih1 ih2 =>
    intro js s h
    simp only [argE] at h
    split at h
    · rename_i j' s' js' t' hf hat
      split at h
      · rename_i hst
        cases h
        obtain ⟨x, h1, h2, h3, h4⟩ := fld_ok (fun _ _ _ h => h) h0 hq hf
        obtain ⟨u, k1, k2, k3⟩ := ih2 hat
        obtain ⟨us, rfl⟩ := k2.isSt_t hst
        refine ⟨.t (x :: us), by simp [E.den, h1, k1], ⟨x, us, rfl, h2, k2⟩, fun hbd j hj s2 x2 h5 h6 => ?_⟩
        obtain ⟨y, ys, e, b1, b2⟩ := hbd
        cases e
        rcases List.mem_cons.1 hj with rfl | hj
        · rw [h3] at h5; rw [h4] at h6
          cases h5; cases h6
          exact b1
        · exact k3 b2 j hj s2 x2 h5 h6
      · cases h
    · cases h
  | _ => intro js s h; simp [argE] at h

/-- All of a struct's cells are known: the struct is. -/
theorem Bd.all : ∀ {sh : Sh} {fs : List V}, sh.isSt = true → sh.chain = true → Wt sh (.t fs) → (∀ (j : Nat) s x, sh.leaf j = some s → fs[j]? = some x → Bd s x) → Bd sh (.t fs) := by
  intro sh
  induction sh with
  | nil => intro fs _ _ h _; exact h
  | cons a t ih1 ih2 =>
    intro fs _ hc ⟨x, xs, e, h1, h2⟩ hall
    cases e
    have ht : t.isSt = true := by cases t <;> first | rfl | cases hc
    exact ⟨x, xs, rfl, hall 0 a x rfl rfl, ih2 ht hc h2 (fun j s y h3 h4 => hall (j + 1) s y h3 (by simpa using h4))⟩
  | _ => intro fs h; cases h

def pjN : E → Nat → E
  | .tc h _, 0 => h
  | .tc _ t, j + 1 => pjN t j
  | e, j => .pj e j

theorem pjN_den {ρ : List V} : ∀ {e : E} {j : Nat} {xs : List V}, e.den ρ = some (.t xs) → (pjN e j).den ρ = xs[j]? := by
  intro e
  induction e with
  | tc a t ih1 ih2 =>
    intro j xs h
    simp only [E.den] at h
    cases ha : a.den ρ with
    | none => simp [ha] at h
    | some x =>
      cases ht : t.den ρ with
      | none => simp [ha, ht] at h
      | some u =>
        rw [ha, ht] at h
        cases u <;> simp at h
        rename_i us
        subst h
        cases j with
        | zero => simp [pjN, ha]
        | succ j => simpa [pjN] using ih2 ht
  | _ => intro j xs h; simp only [pjN, E.den] at h ⊢; first | rw [h] | (cases h; rfl) | cases h

theorem pjN_t {ρ : List V} {e : E} {j : Nat} {u x : V} (h : (pjN e j).den ρ = some u) (hx : e.den ρ = some x) : ∃ xs, x = .t xs := by
  have hgen : (E.pj e j).den ρ = some u → ∃ xs, x = .t xs := by
    intro h
    simp only [E.den, hx] at h
    cases x <;> simp at h
    exact ⟨_, rfl⟩
  cases e with
  | tc a t =>
    simp only [E.den] at hx
    split at hx
    · cases hx; exact ⟨_, rfl⟩
    · cases hx
  | tn => cases hx; exact ⟨_, rfl⟩
  | _ => exact hgen h

/-- An expression over the values so far, as one over the first ones. -/
def subE (env : List E) : E → Option E
  | .v n => env[n]?
  | .pj e j => (match e with | .v n => (env[n]?).map fun e' => pjN e' j | _ => none)
  | .tc h t => (match subE env h, subE env t with | some h', some t' => some (.tc h' t') | _, _ => none)
  | e => some e

theorem subE_ok {ρ0 ρ : List V} {env : List E} (henv : ∀ (n : Nat) (e : E), env[n]? = some e → ∃ x, e.den ρ0 = some x ∧ ρ[n]? = some x) : ∀ {e e' : E} {u : V}, subE env e = some e' → e'.den ρ0 = some u → e.den ρ = some u := by
  intro e
  induction e with
  | v n =>
    intro e' u h hu
    obtain ⟨x, h1, h2⟩ := henv n e' h
    rw [hu] at h1
    cases h1
    exact h2
  | pj e j ih =>
    intro e' u h hu
    simp only [subE] at h
    split at h
    · rename_i n
      simp only [Option.map_eq_some_iff] at h
      obtain ⟨e0, h1, rfl⟩ := h
      obtain ⟨x, h2, h3⟩ := henv n e0 h1
      simp only [E.den, h3]
      obtain ⟨xs, rfl⟩ := pjN_t hu h2
      rw [pjN_den h2] at hu
      simpa using hu
    · cases h
  | tc a t ih1 ih2 =>
    intro e' u h hu
    simp only [subE] at h
    split at h
    · rename_i h' t' h1 h2
      cases h
      simp only [E.den] at hu ⊢
      cases ha : h'.den ρ0 with
      | none => simp [ha] at hu
      | some x =>
        cases ht : t'.den ρ0 with
        | none => simp [ha, ht] at hu
        | some y =>
          rw [ih1 h1 ha, ih2 h2 ht]
          rw [ha, ht] at hu
          exact hu
    · cases h
  | _ => intro e' u h hu; simp only [subE, Option.some.injEq] at h; subst h; exact hu

end Go.Proofs.YteleedlkdadogaaGreat.Fw
