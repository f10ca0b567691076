/- Pure programs without loops and calls, run. -/
import Derived.Test.YteleedlkdadogaaGreatFw27
namespace Go.Proofs.YteleedlkdadogaaGreat.Fw
open Go.RowKit

def A.ev : A → List V → Option (Nat × List V)
  | .pm p args k, ρ => (match denL ρ args with
    | some vs => (match p.ev vs with | some v => k.ev (ρ ++ [v]) | none => none)
    | none => none)
  | .ite c a b, ρ => (match c.den ρ with
    | some (.b true) => a.ev ρ
    | some (.b false) => b.ev ρ
    | _ => none)
  | .out m es, ρ => (match denL ρ es with | some vs => some (m, vs) | none => none)
  | .jn m a k, ρ => (match a.ev ρ with
    | some (m', vs) => if Nat.beq m' m then k.ev (ρ ++ vs) else some (m', vs)
    | none => none)
  | _, _ => none

theorem ev_wp {C : Nat → List V → List V → Prop} : ∀ {a : A} {Q : Nat → List V → Prop} {ρ : List V} {m : Nat} {vs : List V}, a.ev ρ = some (m, vs) → Q m vs → a.wp C Q ρ := by
  intro a
  induction a with
  | pm p args k ih =>
    intro Q ρ m vs h hq
    simp only [A.ev] at h
    split at h
    · rename_i us hus
      split at h
      · rename_i v hv
        exact ⟨us, v, hus, hv, ih h hq⟩
      · cases h
    · cases h
  | ite c a b iha ihb =>
    intro Q ρ m vs h hq
    simp only [A.ev] at h
    split at h
    · rename_i hc; exact ⟨true, hc, fun _ => iha h hq, fun h => nomatch h⟩
    · rename_i hc; exact ⟨false, hc, (fun h => nomatch h), fun _ => ihb h hq⟩
    · cases h
  | out n es =>
    intro Q ρ m vs h hq
    simp only [A.ev] at h
    split at h
    · rename_i us hus; cases h; exact ⟨_, hus, hq⟩
    · cases h
  | jn n a k iha ihk =>
    intro Q ρ m vs h hq
    simp only [A.ev] at h
    split at h
    · rename_i m' us ha
      split at h
      · rename_i e
        have e := Nat.eq_of_beq_eq_true e
        exact iha ha (by rw [if_pos e]; exact ihk h hq)
      · rename_i e
        cases h
        exact iha ha (by rw [if_neg (fun h => e (by subst h; simp))]; exact hq)
    · cases h
  | _ => intro Q ρ m vs h; simp [A.ev] at h

end Go.Proofs.YteleedlkdadogaaGreat.Fw
