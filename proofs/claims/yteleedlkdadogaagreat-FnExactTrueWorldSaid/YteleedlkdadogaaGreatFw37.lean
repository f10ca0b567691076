/- Pure programs, run with what their calls and loops answer. -/
import Derived.Test.YteleedlkdadogaaGreatFw28
namespace Go.Proofs.YteleedlkdadogaaGreat.Fw
open Go.RowKit

/-- What a call, or a loop, answers. -/
inductive Or where
  | cl (f : Nat) (vs us : List V)
  | lp (a : A) (ρ : List V) (m : Nat) (vs : List V)

def Or.ok (C : Nat → List V → List V → Prop) : Or → Prop
  | .cl f vs us => C f vs us
  | .lp a ρ m vs => a.wp C (fun m' vs' => m' = m ∧ vs' = vs) ρ

open Classical in
noncomputable def A.evC : A → List V → List Or → Option (Nat × List V × List Or)
  | .pm p args k, ρ, os => (match denL ρ args with
    | some vs => (match p.ev vs with | some v => k.evC (ρ ++ [v]) os | none => none)
    | none => none)
  | .cl f args m k, ρ, os => (match os with
    | .cl f' vs us :: os => if f = f' ∧ denL ρ args = some vs ∧ us.length = m then k.evC (ρ ++ us) os else none
    | _ => none)
  | .ite c a b, ρ, os => (match c.den ρ with
    | some (.b true) => a.evC ρ os
    | some (.b false) => b.evC ρ os
    | _ => none)
  | .out m es, ρ, os => (match denL ρ es with | some vs => some (m, vs, os) | none => none)
  | .jn m a k, ρ, os => (match a.evC ρ os with
    | some (m', vs, os) => if m' = m then k.evC (ρ ++ vs) os else some (m', vs, os)
    | none => none)
  | .lp m init body, ρ, os => (match os with
    | .lp a ρ' m' vs :: os => if A.lp m init body = a ∧ ρ = ρ' then some (m', vs, os) else none
    | _ => none)

theorem evC_wp {C : Nat → List V → List V → Prop} : ∀ {a : A} {Q : Nat → List V → Prop} {ρ : List V} {os : List Or} {m : Nat} {vs : List V} {os' : List Or}, (∀ o ∈ os, o.ok C) → a.evC ρ os = some (m, vs, os') → Q m vs → a.wp C Q ρ ∧ ∀ o ∈ os', o.ok C := by
  intro a
  induction a with
  | pm p args k ih =>
    intro Q ρ os m vs os' ho h hq
    simp only [A.evC] at h
    split at h
    · rename_i us hus
      split at h
      · rename_i v hv
        exact ⟨⟨us, v, hus, hv, (ih ho h hq).1⟩, (ih ho h hq).2⟩
      · cases h
    · cases h
  | cl f args m k ih =>
    intro Q ρ os m' vs os' ho h hq
    simp only [A.evC] at h
    split at h
    · rename_i f' vs' us os1
      split at h
      · rename_i hc
        obtain ⟨rfl, h1, h2⟩ := hc
        have h3 : C f vs' us := ho _ List.mem_cons_self
        have := ih (fun o hm => ho o (List.mem_cons_of_mem _ hm)) h hq
        exact ⟨⟨vs', us, h1, h3, h2, this.1⟩, this.2⟩
      · cases h
    · cases h
  | ite c a b iha ihb =>
    intro Q ρ os m vs os' ho h hq
    simp only [A.evC] at h
    split at h
    · rename_i hc; have := iha ho h hq; exact ⟨⟨true, hc, fun _ => this.1, fun h => nomatch h⟩, this.2⟩
    · rename_i hc; have := ihb ho h hq; exact ⟨⟨false, hc, (fun h => nomatch h), fun _ => this.1⟩, this.2⟩
    · cases h
  | out n es =>
    intro Q ρ os m vs os' ho h hq
    simp only [A.evC] at h
    split at h
    · rename_i us hus; cases h; exact ⟨⟨_, hus, hq⟩, ho⟩
    · cases h
  | jn n a k iha ihk =>
    intro Q ρ os m vs os' ho h hq
    simp only [A.evC] at h
    split at h
    · rename_i m' us os1 ha
      split at h
      · rename_i e
        have h1 := iha (Q := fun m' vs' => if m' = n then k.wp C Q (ρ ++ vs') else Q m' vs') ho ha (by
          rw [if_pos e]
          exact (ihk (iha (Q := fun _ _ => True) ho ha trivial).2 h hq).1)
        exact ⟨h1.1, (ihk h1.2 h hq).2⟩
      · rename_i e
        cases h
        have h1 := iha (Q := fun m' vs' => if m' = n then k.wp C Q (ρ ++ vs') else Q m' vs') ho ha (by rw [if_neg e]; exact hq)
        exact h1
    · cases h
  | lp n init body ih =>
    intro Q ρ os m vs os' ho h hq
    simp only [A.evC] at h
    split at h
    · rename_i a ρ' m' vs' os1
      split at h
      · rename_i hc
        obtain ⟨rfl, rfl⟩ := hc
        cases h
        have h3 : (A.lp n init body).wp C (fun m'' vs'' => m'' = m ∧ vs'' = vs) ρ := ho _ List.mem_cons_self
        exact ⟨A.wp_mono _ (fun _ _ ⟨e1, e2⟩ => by subst e1; subst e2; exact hq) h3, fun o hm => ho o (List.mem_cons_of_mem _ hm)⟩
      · cases h
    · cases h

/-- A program runs to this end. -/
theorem run_wp {C : Nat → List V → List V → Prop} {a : A} {Q : Nat → List V → Prop} {ρ : List V} (os : List Or) {m : Nat} {vs : List V} {os' : List Or} (h : a.evC ρ os = some (m, vs, os')) (ho : ∀ o ∈ os, o.ok C) (hq : Q m vs) : a.wp C Q ρ :=
  (evC_wp ho h hq).1

theorem ors_nil {C : Nat → List V → List V → Prop} : ∀ o ∈ ([] : List Or), o.ok C := fun _ h => nomatch h
theorem ors_cl {C : Nat → List V → List V → Prop} {f : Nat} {vs us : List V} {os : List Or} (h : C f vs us) (ho : ∀ o ∈ os, o.ok C) : ∀ o ∈ Or.cl f vs us :: os, o.ok C := fun o hm => by
  cases hm with
  | head => exact h
  | tail _ hm => exact ho o hm
theorem ors_lp {C : Nat → List V → List V → Prop} {a : A} {ρ : List V} {m : Nat} {vs : List V} {os : List Or} (h : a.wp C (fun m' vs' => m' = m ∧ vs' = vs) ρ) (ho : ∀ o ∈ os, o.ok C) : ∀ o ∈ Or.lp a ρ m vs :: os, o.ok C := fun o hm => by
  cases hm with
  | head => exact h
  | tail _ hm => exact ho o hm

/-- A loop that is gone through N times, from st 0 on, where P holds; it may end on the way. -/
theorem lp_for {C : Nat → List V → List V → Prop} {m : Nat} {init : List E} {body : A} {Q : Nat → List V → Prop} {ρ : List V} (N : Nat) (st : Nat → List V) (P : Nat → Prop) (h0 : denL ρ init = some (st 0)) (p0 : P 0)
    (step : ∀ i, i < N → P i → body.wp C (fun m' vs => if m' = m then vs = st (i + 1) ∧ P (i + 1) else Q m' vs) (ρ ++ st i))
    (fin : P N → body.wp C (fun m' vs => if m' = m then False else Q m' vs) (ρ ++ st N)) : (A.lp m init body).wp C Q ρ := by
  refine ⟨st 0, h0, N + 1, ?_⟩
  have : ∀ k i, i + k = N → P i → loopN (fun vs' R => body.wp C R (ρ ++ vs')) m Q (k + 1) (st i) := by
    intro k
    induction k with
    | zero =>
      intro i hi hp
      rw [Nat.add_zero] at hi
      subst hi
      exact A.wp_mono _ (fun m' vs h => by
        split at h
        · exact h.elim
        · rename_i e; rw [if_neg e]; exact h) (fin hp)
    | succ k ih =>
      intro i hi hp
      exact A.wp_mono _ (fun m' vs h => by
        split at h
        · rename_i e
          obtain ⟨rfl, h⟩ := h
          rw [if_pos e]
          exact ih (i + 1) (by omega) h
        · rename_i e; rw [if_neg e]; exact h) (step i (by omega) hp)
  exact this N 0 (by omega) p0



end Go.Proofs.YteleedlkdadogaaGreat.Fw
