/- Pure programs: counts; copies and comparisons of structs. -/
import Derived.Test.YteleedlkdadogaaGreatFw23
namespace Go.Proofs.YteleedlkdadogaaGreat.Fw
open Go.RowKit

/-- What a pure program may answer, it answers. -/
theorem wp_pick {C : Nat → List V → List V → Prop} : ∀ (a : A) {Q : Nat → List V → Prop} {ρ : List V}, a.wp C Q ρ → ∃ m vs, Q m vs ∧ a.wp C (fun m' vs' => m' = m ∧ vs' = vs) ρ := by
  intro a
  induction a with
  | pm p args k ih =>
    intro Q ρ ⟨vs, v, h1, h2, h3⟩
    obtain ⟨m, us, h4, h5⟩ := ih h3
    exact ⟨m, us, h4, vs, v, h1, h2, h5⟩
  | cl f args n k ih =>
    intro Q ρ ⟨vs, rs, h1, h2, h3, h4⟩
    obtain ⟨m, us, h5, h6⟩ := ih h4
    exact ⟨m, us, h5, vs, rs, h1, h2, h3, h6⟩
  | ite c a b iha ihb =>
    intro Q ρ ⟨x, h1, h2, h3⟩
    cases x with
    | true =>
      obtain ⟨m, us, h4, h5⟩ := iha (h2 rfl)
      exact ⟨m, us, h4, true, h1, fun _ => h5, fun h => by cases h⟩
    | false =>
      obtain ⟨m, us, h4, h5⟩ := ihb (h3 rfl)
      exact ⟨m, us, h4, false, h1, (fun h => by cases h), fun _ => h5⟩
  | out n es =>
    intro Q ρ ⟨vs, h1, h2⟩
    exact ⟨n, vs, h2, vs, h1, rfl, rfl⟩
  | jn n a k iha ihk =>
    intro Q ρ h
    obtain ⟨m1, us1, h1, h2⟩ := iha h
    by_cases e : m1 = n
    · rw [if_pos e] at h1
      obtain ⟨m, us, h3, h4⟩ := ihk h1
      refine ⟨m, us, h3, A.wp_mono a (fun m' vs' h => ?_) h2⟩
      obtain ⟨rfl, rfl⟩ := h
      rw [if_pos e]; exact h4
    · rw [if_neg e] at h1
      refine ⟨m1, us1, h1, A.wp_mono a (fun m' vs' h => ?_) h2⟩
      obtain ⟨rfl, rfl⟩ := h
      rw [if_neg e]; exact ⟨rfl, rfl⟩
  | lp n init body ih =>
    intro Q ρ ⟨vs, h1, k, h2⟩
    have : ∀ k vs, loopN (fun vs' R => body.wp C R (ρ ++ vs')) n Q k vs → ∃ m us, Q m us ∧ loopN (fun vs' R => body.wp C R (ρ ++ vs')) n (fun m' vs' => m' = m ∧ vs' = us) k vs := by
      intro k
      induction k with
      | zero => intro vs h; exact h.elim
      | succ k ihk =>
        intro vs h
        obtain ⟨m1, us1, h3, h4⟩ := ih h
        by_cases e : m1 = n
        · rw [if_pos e] at h3
          obtain ⟨m, us, h5, h6⟩ := ihk _ h3
          refine ⟨m, us, h5, A.wp_mono body (fun m' vs' h => ?_) h4⟩
          obtain ⟨rfl, rfl⟩ := h
          rw [if_pos e]; exact h6
        · rw [if_neg e] at h3
          refine ⟨m1, us1, h3, A.wp_mono body (fun m' vs' h => ?_) h4⟩
          obtain ⟨rfl, rfl⟩ := h
          rw [if_neg e]; exact ⟨rfl, rfl⟩
    obtain ⟨m, us, h3, h4⟩ := this k vs h2
    exact ⟨m, us, h3, vs, h1, k, h4⟩

/-- What a count answers. -/
def cnt (s : Sh) (v : V) (n : Int) (m : Nat) (vs : List V) : Prop := m = 1 ∧ ∃ r : Int, vs = [.i r] ∧ r ≤ n ∧ -1 ≤ r ∧ (0 ≤ r → Bd s v)

section
variable {C : Nat → List V → List V → Prop}

def szS0 : A :=
  .pm .llen [.v 0] <| .pm (.sub .i64) [.v 1, .v 2] <| .pm .lt [.v 3, .ki 0] <| .ite (.v 4) (.out 1 [.ki (-1)]) <| .out 1 [.v 3]

def szS1 (f : Nat) (s : Sh) : A :=
  .pm .llen [.v 0] <| .pm (.sub .i64) [.v 1, .v 2] <| .pm .lt [.v 3, .ki 0] <| .ite (.v 4) (.out 1 [.ki (-1)]) <|
  .lp 2 [.v 3, .ki 0] <| .pm .llen [.v 0] <| .pm .lt [.v 6, .v 7] <|
  .ite (.v 8) (.pm .lget [.v 0, .v 6] <| .cl f [etaE 9 s, .v 5] 1 <| .pm .lt [.v 10, .ki 0] <| .ite (.v 11) (.out 1 [.ki (-1)]) <| .pm (.add .i64) [.v 6, .ki 1] <| .out 2 [.v 10, .v 12]) <|
  .out 1 [.v 5]

def szS2 : A :=
  .pm .llen [.v 0] <| .pm (.sub .i64) [.v 1, .v 2] <| .pm .lt [.v 3, .ki 0] <| .ite (.v 4) (.out 1 [.ki (-1)]) <|
  .lp 2 [.v 3, .ki 0] <| .pm .llen [.v 0] <| .pm .lt [.v 6, .v 7] <|
  .ite (.v 8) (.pm .lget [.v 0, .v 6] <| .pm .slen [.v 9] <| .pm (.sub .i64) [.v 5, .v 10] <| .pm .lt [.v 11, .ki 0] <| .ite (.v 12) (.out 1 [.ki (-1)]) <| .pm (.add .i64) [.v 6, .ki 1] <| .out 2 [.v 11, .v 13]) <|
  .out 1 [.v 5]

theorem sub_len {n : Int} {k : Nat} (h0 : 0 ≤ n) (h1 : n ≤ big) (hk : k ≤ maxLen) : IntKind.i64.wrap (n - k) = n - k := wrap_id (by simp [maxLen] at hk; omega) (by simp only [big] at h1; omega)

theorem szS0_ok {e : Sh} {t : TypeId} (hf : e.flat = true) {v : V} {n : Int} (hw : Wt (.sl e t) v) (h0 : 0 ≤ n) (h1 : n ≤ big) : szS0.wp C (cnt (.sl e t) v n) [v, .i n] := by
  obtain ⟨xs, rfl, hl, hx⟩ := hw
  refine ⟨[.l xs], .i xs.length, rfl, rfl, [.i n, .i xs.length], .i (n - xs.length), rfl, by simp [Pm.ev, sub_len h0 h1 hl], [.i (n - xs.length), .i 0], .b (decide (n - (xs.length : Int) < 0)), rfl, rfl, _, rfl, fun ht => ?_, fun hf' => ?_⟩
  · exact ⟨[.i (-1)], rfl, rfl, -1, rfl, by omega, by omega, fun h => by omega⟩
  · have : 0 ≤ n - (xs.length : Int) := by simpa using hf'
    refine ⟨[.i (n - xs.length)], rfl, rfl, _, rfl, by omega, by omega, fun _ => ⟨xs, rfl, by omega, fun x hxm => (hx x hxm).flatBd hf⟩⟩

theorem szS1_ok {f : Nat} {s : Sh} {t : TypeId} (hs : s.isSt = true → s.chain = true) (hf : SzF C f s) {v : V} {n : Int} (hw : Wt (.sl s t) v) (h0 : 0 ≤ n) (h1 : n ≤ big) : (szS1 f s).wp C (cnt (.sl s t) v n) [v, .i n] := by
  obtain ⟨xs, rfl, hl, hx⟩ := hw
  refine ⟨[.l xs], .i xs.length, rfl, rfl, [.i n, .i xs.length], .i (n - xs.length), rfl, by simp [Pm.ev, sub_len h0 h1 hl], [.i (n - xs.length), .i 0], .b (decide (n - (xs.length : Int) < 0)), rfl, rfl, _, rfl, fun ht => ?_, fun hf' => ?_⟩
  · exact ⟨[.i (-1)], rfl, rfl, -1, rfl, by omega, by omega, fun h => by omega⟩
  · have hpos : 0 ≤ n - (xs.length : Int) := by simpa using hf'
    refine lp_intro (fun k vs => ∃ (i : Nat) (left : Int), i + k = xs.length ∧ vs = [.i left, .i (i : Int)] ∧ 0 ≤ left ∧ left ≤ n ∧ ∀ (j : Nat) x, j < i → xs[j]? = some x → Bd s x) (n := xs.length) (vs := [.i (n - xs.length), .i 0]) rfl
      ⟨0, n - xs.length, by omega, rfl, hpos, by omega, fun j x hj => absurd hj (Nat.not_lt_zero j)⟩ ?_
    rintro k vs ⟨i, left, hi, rfl, hl0, hl1, hall⟩
    refine ⟨[.l xs], .i xs.length, rfl, rfl, [.i i, .i xs.length], .b (decide ((i : Int) < xs.length)), rfl, rfl, decide ((i : Int) < xs.length), rfl, fun ht => ?_, fun hf' => ?_⟩
    · have hlt : i < xs.length := by simpa using ht
      have hwx := hx _ (List.getElem_mem hlt)
      obtain ⟨r, hr, hr1, hr2, hr3⟩ := hf _ left hwx hl0 (by omega)
      refine ⟨[.l xs, .i i], xs[i], rfl, by simp [Pm.ev], [xs[i], .i left], [.i r], ?_, hr, rfl, [.i r, .i 0], .b (decide (r < 0)), rfl, rfl, decide (r < 0), rfl, fun hneg => ?_, fun hge => ?_⟩
      · simp only [denL]
        rw [etaE_den hs hwx rfl]
        rfl
      · refine ⟨[.i (-1)], rfl, ?_⟩
        show (if (1 : Nat) = 2 then _ else _)
        rw [if_neg (by decide)]
        exact ⟨rfl, -1, rfl, by omega, by omega, fun h => by omega⟩
      · have hr0 : 0 ≤ r := by simpa using hge
        refine ⟨[.i i, .i 1], .i (i + 1 : Nat), rfl, ?_, [.i r, .i (i + 1 : Nat)], rfl, ?_⟩
        · have := i64_nat (n := i + 1) (by omega)
          simp only [Pm.ev]
          rw [show ((i : Int) + 1) = ((i + 1 : Nat) : Int) by omega, this]
        · show (if (2 : Nat) = 2 then _ else _)
          rw [if_pos rfl]
          refine ⟨k - 1, by omega, i + 1, r, by omega, rfl, hr0, by omega, fun j x hj hxj => ?_⟩
          rcases Nat.lt_or_ge j i with h | h
          · exact hall j x h hxj
          · have : j = i := by omega
            subst this
            rw [List.getElem?_eq_getElem hlt] at hxj
            cases hxj
            exact hr3 hr0
    · have hge : xs.length ≤ i := by simpa using hf'
      refine ⟨[.i left], rfl, ?_⟩
      show (if (1 : Nat) = 2 then _ else _)
      rw [if_neg (by decide)]
      refine ⟨rfl, left, rfl, hl1, by omega, fun _ => ⟨xs, rfl, by omega, fun x hxm => ?_⟩⟩
      obtain ⟨j, hj⟩ := List.getElem?_of_mem hxm
      exact hall j x (by have := (List.getElem?_eq_some_iff.1 hj).1; omega) hj

theorem szS2_ok {t : TypeId} {v : V} {n : Int} (hw : Wt (.sl .str t) v) (h0 : 0 ≤ n) (h1 : n ≤ big) : szS2.wp C (cnt (.sl .str t) v n) [v, .i n] := by
  obtain ⟨xs, rfl, hl, hx⟩ := hw
  refine ⟨[.l xs], .i xs.length, rfl, rfl, [.i n, .i xs.length], .i (n - xs.length), rfl, by simp [Pm.ev, sub_len h0 h1 hl], [.i (n - xs.length), .i 0], .b (decide (n - (xs.length : Int) < 0)), rfl, rfl, _, rfl, fun ht => ?_, fun hf' => ?_⟩
  · exact ⟨[.i (-1)], rfl, rfl, -1, rfl, by omega, by omega, fun h => by omega⟩
  · have hpos : 0 ≤ n - (xs.length : Int) := by simpa using hf'
    refine lp_intro (fun k vs => ∃ (i : Nat) (left : Int), i + k = xs.length ∧ vs = [.i left, .i (i : Int)] ∧ 0 ≤ left ∧ left ≤ n) (n := xs.length) (vs := [.i (n - xs.length), .i 0]) rfl
      ⟨0, n - xs.length, by omega, rfl, hpos, by omega⟩ ?_
    rintro k vs ⟨i, left, hi, rfl, hl0, hl1⟩
    refine ⟨[.l xs], .i xs.length, rfl, rfl, [.i i, .i xs.length], .b (decide ((i : Int) < xs.length)), rfl, rfl, decide ((i : Int) < xs.length), rfl, fun ht => ?_, fun hf' => ?_⟩
    · have hlt : i < xs.length := by simpa using ht
      obtain ⟨sx, hsx, hsl⟩ := hx _ (List.getElem_mem hlt)
      refine ⟨[.l xs, .i i], .s sx, rfl, by simp [Pm.ev, List.getElem?_eq_getElem hlt, hsx], [.s sx], .i sx.length, rfl, rfl, [.i left, .i sx.length], .i (left - sx.length), rfl, by simp [Pm.ev, sub_len hl0 (Int.le_trans hl1 h1) hsl], [.i (left - sx.length), .i 0], .b (decide (left - (sx.length : Int) < 0)), rfl, rfl, _, rfl, fun hneg => ?_, fun hge => ?_⟩
      · refine ⟨[.i (-1)], rfl, ?_⟩
        show (if (1 : Nat) = 2 then _ else _)
        rw [if_neg (by decide)]
        exact ⟨rfl, -1, rfl, by omega, by omega, fun h => by omega⟩
      · have hr0 : 0 ≤ left - (sx.length : Int) := by simpa using hge
        refine ⟨[.i i, .i 1], .i (i + 1 : Nat), rfl, ?_, [.i (left - sx.length), .i (i + 1 : Nat)], rfl, ?_⟩
        · have := i64_nat (n := i + 1) (by omega)
          simp only [Pm.ev]
          rw [show ((i : Int) + 1) = ((i + 1 : Nat) : Int) by omega, this]
        · show (if (2 : Nat) = 2 then _ else _)
          rw [if_pos rfl]
          exact ⟨k - 1, by omega, i + 1, _, by omega, rfl, hr0, by omega⟩
    · refine ⟨[.i left], rfl, ?_⟩
      show (if (1 : Nat) = 2 then _ else _)
      rw [if_neg (by decide)]
      exact ⟨rfl, left, rfl, hl1, by omega, fun _ => ⟨xs, rfl, by omega, fun x hxm => (hx x hxm).flatBd rfl⟩⟩

end
end Go.Proofs.YteleedlkdadogaaGreat.Fw
