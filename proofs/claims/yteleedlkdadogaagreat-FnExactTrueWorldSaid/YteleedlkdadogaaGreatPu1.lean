/- Sets, rectangles and pictures: what the reference's functions, and the program's, answer. -/
import Derived.Test.YteleedlkdadogaaGreatHp
namespace Go.Proofs.YteleedlkdadogaaGreat.Fw
open Go.RowKit

/-- A program, run to its end. -/
theorem run_ex {C : Nat → List V → List V → Prop} {a : A} {Q : Nat → List V → Prop} {ρ : List V} (os : List Or) (ho : ∀ o ∈ os, o.ok C) (h : match a.evC ρ os with | some (m, vs, _) => Q m vs | none => False) : a.wp C Q ρ := by
  split at h
  · rename_i m vs os' h1
    exact run_wp os h1 ho h
  · exact h.elim

/-- Numbers between. -/
def within (x lo hi : Int) : Bool := decide (lo ≤ x) && decide (x ≤ hi)

theorem w_in {x lo hi : Int} : within x lo hi = true ↔ lo ≤ x ∧ x ≤ hi := by simp [within]

def ints (l : List Int) : List V := l.map V.i

theorem ints_get {l : List Int} {i : Nat} (h : i < l.length) : (ints l)[i]? = some (.i l[i]) := by simp [ints, h]
theorem ints_el {l : List Int} {i : Nat} (h : i < (ints l).length) : (ints l)[i] = .i (l[i]'(by simpa [ints] using h)) := by simp [ints]
theorem ints_len (l : List Int) : (ints l).length = l.length := by simp [ints]

theorem cl118 (x lo hi : Int) : Cl 118 [.i x, .i lo, .i hi] [.b (within x lo hi)] := by
  refine s118 ?_
  by_cases h : lo ≤ x <;> exact run_ex [] ors_nil (by simp [A.evC, a118, denL, E.den, Pm.ev, h, ans, within])

theorem cl84 (x lo hi : Int) : Cl 84 [.i x, .i lo, .i hi] [.b (within x lo hi)] := by
  refine s84 ?_
  by_cases h : lo ≤ x <;> exact run_ex [] ors_nil (by simp [A.evC, a84, denL, E.den, Pm.ev, h, ans, within])

/-- A list of sizes is right. -/
def small (l : List Int) : Bool := l.all fun x => within x 1 8
def sideOk (l : List Int) : Bool := decide (1 ≤ l.length) && (decide (l.length ≤ 4) && small l)

def sideSum (l : List Int) : Int := if sideOk l then l.sum else 0

theorem sum_take {l : List Int} {i : Nat} (h : i < l.length) : (l.take (i + 1)).sum = (l.take i).sum + l[i] := by
  rw [List.take_succ_eq_append_getElem h, List.sum_append]
  simp

theorem sum_bound {l : List Int} (h : small l = true) : 0 ≤ l.sum ∧ l.sum ≤ 8 * l.length := by
  induction l with
  | nil => simp
  | cons a l ih =>
    simp only [small, List.all_cons, Bool.and_eq_true, w_in] at h
    have := ih h.2
    simp only [List.sum_cons, List.length_cons]
    omega

theorem small_take {l : List Int} (h : small l = true) (i : Nat) : small (l.take i) = true := by
  unfold small at h ⊢
  rw [List.all_eq_true] at h ⊢
  exact fun x hx => h x (List.mem_of_mem_take hx)

theorem small_step {l : List Int} {i : Nat} (h : i < l.length) : small (l.take (i + 1)) = (small (l.take i) && within l[i] 1 8) := by
  unfold small
  rw [List.take_succ_eq_append_getElem h, List.all_append]
  simp

theorem small_at {l : List Int} (h : small l = true) {i : Nat} (hi : i < l.length) : 1 ≤ l[i] ∧ l[i] ≤ 8 := w_in.1 (List.all_eq_true.1 h _ (List.getElem_mem hi))

theorem take_sum_bound {l : List Int} (h : small l = true) (i : Nat) : 0 ≤ (l.take i).sum ∧ (l.take i).sum ≤ 8 * i := by
  have := sum_bound (small_take h i)
  have hl : (l.take i).length ≤ i := List.length_take_le i l
  omega

theorem lp322 {l : List Int} (h4 : l.length ≤ 4) : l322_0.wp Cl (fun m vs => m = 1 ∧ vs = [.i (if small l then l.sum else 0)]) [.l (ints l), .b false] := by
  refine lp_for (l.length) (fun i => [.i (l.take i).sum, .i i]) (fun i => small (l.take i) = true) (by simp [denL, E.den]) (by simp [small]) (fun i hi hp => ?_) (fun hp => ?_)
  · have hb := sum_bound hp
    have hl : (l.take i).length = i := by rw [List.length_take]; omega
    have e3 := sum_take hi
    have e4 := small_step hi
    by_cases hx : within l[i] 1 8 = true
    · have hx' := w_in.1 hx
      have e1 : IntKind.i64.wrap ((l.take i).sum + l[i]) = (l.take i).sum + l[i] := wrap_id (by omega) (by omega)
      have e2 : IntKind.i64.wrap ((i : Int) + 1) = (i : Int) + 1 := wrap_id (by omega) (by omega)
      exact run_ex [.cl 118 [.i l[i], .i 1, .i 8] [.b (within l[i] 1 8)]] (ors_cl (cl118 _ _ _) ors_nil) (by simp [A.evC, l322_0b, denL, E.den, Pm.ev, ints_len, hi, ints_el, e1, e2, hx, e3, e4, hp])
    · have hx := eq_false_of_ne_true hx
      have : small l = false := by
        cases h : small l with
        | false => rfl
        | true => have := small_at h hi; rw [w_in.2 this] at hx; cases hx
      exact run_ex [.cl 118 [.i l[i], .i 1, .i 8] [.b (within l[i] 1 8)]] (ors_cl (cl118 _ _ _) ors_nil) (by simp [A.evC, l322_0b, denL, E.den, Pm.ev, ints_len, hi, ints_el, hx, this])
  · rw [List.take_length] at hp
    exact run_ex [] ors_nil (by simp [A.evC, l322_0b, denL, E.den, Pm.ev, ints_len, hp])

theorem cl322 {l : List Int} : Cl 322 [.l (ints l)] [.i (sideSum l)] := by
  refine s322 ?_
  by_cases h1 : 1 ≤ l.length
  · by_cases h4 : l.length ≤ 4
    · exact run_ex [.lp l322_0 [.l (ints l), .b false] 1 [.i (if small l then l.sum else 0)]] (ors_lp (lp322 h4) ors_nil)
        (by simp [A.evC, a322, denL, E.den, Pm.ev, ints_len, ans, l322_0, sideSum, sideOk, h1, h4, show ¬ ((l.length : Int) < 1) by omega, show ¬ ((4 : Int) < l.length) by omega])
    · exact run_ex [] ors_nil (by simp [A.evC, a322, denL, E.den, Pm.ev, ints_len, ans, sideSum, sideOk, h1, h4, show ¬ ((l.length : Int) < 1) by omega, show (4 : Int) < l.length by omega])
  · exact run_ex [] ors_nil (by simp [A.evC, a322, denL, E.den, Pm.ev, ints_len, ans, sideSum, sideOk, h1, show (l.length : Int) < 1 by omega])

end Go.Proofs.YteleedlkdadogaaGreat.Fw
