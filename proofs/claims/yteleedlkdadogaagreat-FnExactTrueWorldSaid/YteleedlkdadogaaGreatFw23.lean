/- Pure programs: how a loop is shown to end, and what copies, compares and counts. -/
import Derived.Test.YteleedlkdadogaaGreatFw22
namespace Go.Proofs.YteleedlkdadogaaGreat.Fw
open Go.RowKit

theorem loopN_mono {C : Nat → List V → List V → Prop} {body : A} {ρ : List V} {m : Nat} {Q : Nat → List V → Prop} : ∀ {n n' : Nat} {vs : List V}, n ≤ n' → loopN (fun vs' R => body.wp C R (ρ ++ vs')) m Q n vs → loopN (fun vs' R => body.wp C R (ρ ++ vs')) m Q n' vs
  | 0, _, _, _, h => h.elim
  | n + 1, 0, _, hl, _ => absurd hl (by omega)
  | n + 1, n' + 1, vs, hl, h => by
    refine A.wp_mono body (fun m' vs' h' => ?_) h
    split
    · rename_i e; rw [if_pos e] at h'; exact loopN_mono (by omega) h'
    · rename_i e; rw [if_neg e] at h'; exact h'

/-- A loop ends where each round brings it nearer. -/
theorem lp_intro {C : Nat → List V → List V → Prop} {m : Nat} {init : List E} {body : A} {Q : Nat → List V → Prop} {ρ vs : List V} (I : Nat → List V → Prop) {n : Nat} (h0 : denL ρ init = some vs) (hI : I n vs)
    (step : ∀ k vs, I k vs → body.wp C (fun m' vs' => if m' = m then ∃ k', k' < k ∧ I k' vs' else Q m' vs') (ρ ++ vs)) : (A.lp m init body).wp C Q ρ := by
  have key : ∀ k vs, I k vs → loopN (fun vs' R => body.wp C R (ρ ++ vs')) m Q (k + 1) vs := by
    intro k
    induction k using Nat.strongRecOn with
    | ind k ih =>
      intro vs hk
      refine A.wp_mono body (fun m' vs' h' => ?_) (step k vs hk)
      split
      · rename_i e
        rw [if_pos e] at h'
        obtain ⟨k', hlt, hk'⟩ := h'
        exact loopN_mono (by omega) (ih k' hlt vs' hk')
      · rename_i e; rw [if_neg e] at h'; exact h'
  exact ⟨vs, h0, n + 1, key n vs hI⟩

/-- As many as a law looks at. -/
abbrev big : Nat := 1048576

/-- Well made, and no slice longer than `big`. -/
def Bd : Sh → V → Prop
  | .int k, v => ∃ n, v = .i n ∧ (Lit.int k n).wf = true
  | .bool, v => ∃ b, v = .b b
  | .str, v => ∃ s, v = .s s ∧ s.length ≤ maxLen
  | .sl e _, v => ∃ xs, v = .l xs ∧ xs.length ≤ big ∧ ∀ x ∈ xs, Bd e x
  | .nil, v => v = .t []
  | .cons h t, v => ∃ x xs, v = .t (x :: xs) ∧ Bd h x ∧ Bd t (.t xs)

theorem big_le : big ≤ maxLen := by simp [big, maxLen]

theorem Bd.wt : ∀ {s : Sh} {v : V}, Bd s v → Wt s v := by
  intro s
  induction s with
  | sl e t ih => intro v ⟨xs, h1, h2, h3⟩; exact ⟨xs, h1, Nat.le_trans h2 big_le, fun x hx => ih (h3 x hx)⟩
  | cons a t ih1 ih2 => intro v ⟨x, xs, h1, h2, h3⟩; exact ⟨x, xs, h1, ih1 h2, ih2 h3⟩
  | _ => intro v h; exact h

theorem Wt.flatBd : ∀ {s : Sh} {v : V}, s.flat = true → Wt s v → Bd s v := by
  intro s
  induction s with
  | sl e t ih => intro v h; cases h
  | cons a t ih1 ih2 =>
    intro v hf ⟨x, xs, h1, h2, h3⟩
    simp only [Sh.flat, Bool.and_eq_true] at hf
    exact ⟨x, xs, h1, ih1 hf.1 h2, ih2 hf.2 h3⟩
  | _ => intro v _ h; exact h

section
variable (C : Nat → List V → List V → Prop)

def ToF (f : Nat) (s : Sh) : Prop := ∀ v, Bd s v → C f [v] [v]
def EqF (f : Nat) (s : Sh) : Prop := ∀ v, Bd s v → C f [v, v] [.b true]
def SzF (f : Nat) (s : Sh) : Prop := ∀ v (n : Int), Wt s v → 0 ≤ n → n ≤ big → ∃ r : Int, C f [v, .i n] [.i r] ∧ r ≤ n ∧ -1 ≤ r ∧ (0 ≤ r → Bd s v)

/-- The end of a program that answers us. -/
abbrev ans (us : List V) (m : Nat) (vs : List V) : Prop := m = 1 ∧ vs = us
end

def fieldsE (n : Nat) : Nat → Nat → E
  | _, 0 => .tn
  | j, k + 1 => .tc (.pj (.v n) j) (fieldsE n (j + 1) k)

/-- The value number n, a struct cell by cell. -/
def etaE (n : Nat) (s : Sh) : E := if s.isSt then fieldsE n 0 s.sz else .v n

theorem fieldsE_den {ρ : List V} {n : Nat} {fs : List V} (h : ρ[n]? = some (.t fs)) : ∀ {k j : Nat}, fs.length = j + k → (fieldsE n j k).den ρ = some (.t (fs.drop j))
  | 0, j, hl => by rw [List.drop_of_length_le (by omega)]; rfl
  | k + 1, j, hl => by
    have hj : fs[j]? = some fs[j] := List.getElem?_eq_getElem (by omega)
    have hd : fs.drop j = fs[j] :: fs.drop (j + 1) := List.drop_eq_getElem_cons (by omega)
    rw [hd]
    simp only [fieldsE, E.den, h, hj, fieldsE_den h (k := k) (j := j + 1) (by omega)]

theorem Wt.len : ∀ {s : Sh} {v : V}, s.isSt = true → s.chain = true → Wt s v → ∃ fs, v = .t fs ∧ fs.length = s.sz := by
  intro s
  induction s with
  | nil => intro v _ _ h; exact ⟨[], h, rfl⟩
  | cons a t ih1 ih2 =>
    intro v _ hc ⟨x, xs, h1, h2, h3⟩
    have ht : t.isSt = true := by cases t <;> first | rfl | cases hc
    obtain ⟨fs, e, hl⟩ := ih2 ht hc h3
    cases e
    exact ⟨x :: xs, h1, by simp [Sh.sz, hl]⟩
  | _ => intro v h; cases h

theorem etaE_den {ρ : List V} {n : Nat} {s : Sh} {v : V} (hc : s.isSt = true → s.chain = true) (hw : Wt s v) (h : ρ[n]? = some v) : (etaE n s).den ρ = some v := by
  unfold etaE
  split
  · rename_i hs
    obtain ⟨fs, rfl, hl⟩ := hw.len hs (hc hs)
    rw [fieldsE_den h (by omega)]
    simp
  · exact h

theorem wrap_id {n : Int} (h1 : -9223372036854775808 ≤ n) (h2 : n ≤ 9223372036854775807) : IntKind.i64.wrap n = n := by
  simp only [IntKind.wrap, IntKind.min, IntKind.max, IntKind.signed, IntKind.bits]
  simp
  omega

section
variable {C : Nat → List V → List V → Prop}

/-- Copies of slices: cell by cell, or by a function. -/
def toS0 (bytes : Nat) (z : E) : A :=
  .pm .llen [.v 0] <| .pm (.lmk bytes) [.v 1, .v 1, z] <|
  .lp 2 [.ki 0, .v 2] <| .pm .llen [.v 0] <| .pm .lt [.v 3, .v 5] <|
  .ite (.v 6) (.pm .lget [.v 0, .v 3] <| .pm .lget [.v 4, .v 3] <| .pm .lset [.v 4, .v 3, .v 7] <| .pm (.add .i64) [.v 3, .ki 1] <| .out 2 [.v 10, .v 9]) <|
  .out 1 [.v 4]

def toS1 (bytes : Nat) (z : E) (f : Nat) (s : Sh) : A :=
  .pm .llen [.v 0] <| .pm (.lmk bytes) [.v 1, .v 1, z] <|
  .lp 2 [.ki 0, .v 2] <| .pm .llen [.v 0] <| .pm .lt [.v 3, .v 5] <|
  .ite (.v 6) (.pm .lget [.v 0, .v 3] <| .cl f [etaE 7 s] 1 <| .pm .lget [.v 4, .v 3] <| .pm .lset [.v 4, .v 3, etaE 8 s] <| .pm (.add .i64) [.v 3, .ki 1] <| .out 2 [.v 11, .v 10]) <|
  .out 1 [.v 4]

/-- What is copied so far. -/
def half (xs : List V) (z : V) (i : Nat) : List V := xs.take i ++ List.replicate (xs.length - i) z

theorem half_length (xs : List V) (z : V) {i : Nat} (h : i ≤ xs.length) : (half xs z i).length = xs.length := by simp [half]; omega

theorem half_set (xs : List V) (z : V) {i : Nat} {x : V} (h : xs[i]? = some x) : (half xs z i).set i x = half xs z (i + 1) := by
  have hlt : i < xs.length := (List.getElem?_eq_some_iff.1 h).1
  have e1 : xs.take (i + 1) = xs.take i ++ [x] := by rw [List.take_add_one, h]; rfl
  have e2 : List.replicate (xs.length - i) z = z :: List.replicate (xs.length - (i + 1)) z := by
    rw [show xs.length - i = (xs.length - (i + 1)) + 1 by omega, List.replicate_succ]
  have hl : (xs.take i).length = i := by rw [List.length_take]; omega
  unfold half
  rw [e1, e2, List.set_append_right _ _ (by omega), hl, Nat.sub_self]
  simp

theorem half_all (xs : List V) (z : V) : half xs z xs.length = xs := by simp [half]

theorem i64_nat {n : Nat} (h : n ≤ maxLen) : IntKind.i64.wrap (n : Int) = (n : Int) := wrap_id (by omega) (by simp [maxLen] at h; omega)

theorem toS0_ok {bytes : Nat} {z : E} {zv : V} (hz : z.den [] = some zv) (hb : bytes ≤ 134217728) {xs : List V} (hl : xs.length ≤ big) : (toS0 bytes z).wp C (ans [.l xs]) [.l xs] := by
  have hz' : ∀ ρ, z.den ρ = some zv := fun ρ => E.den_app ρ hz
  have hroom : roomFor xs.length bytes := ⟨by simp [big] at hl; omega, by simp only [big] at hl; exact Nat.le_trans (Nat.mul_le_mul hl hb) (by decide)⟩
  refine ⟨[.l xs], .i xs.length, rfl, rfl, [.i xs.length, .i xs.length, zv], .l (List.replicate xs.length zv), ?_, ?_, ?_⟩
  · simp [denL, E.den, hz']
  · simp [Pm.ev, hroom]
  · refine lp_intro (fun k vs => ∃ i, i + k = xs.length ∧ vs = [.i (i : Int), .l (half xs zv i)]) (n := xs.length) (vs := [.i 0, .l (List.replicate xs.length zv)]) rfl ⟨0, by omega, by simp [half]⟩ ?_
    rintro k vs ⟨i, hi, rfl⟩
    refine ⟨[.l xs], .i xs.length, rfl, rfl, [.i i, .i xs.length], .b (decide ((i : Int) < xs.length)), rfl, rfl, decide ((i : Int) < xs.length), rfl, fun ht => ?_, fun hf => ?_⟩
    · have hlt : i < xs.length := by simpa using ht
      have hx : xs[i]? = some xs[i] := List.getElem?_eq_getElem hlt
      have hh : ∃ y, (half xs zv i)[i]? = some y := ⟨_, List.getElem?_eq_getElem (by rw [half_length _ _ (by omega)]; exact hlt)⟩
      obtain ⟨y, hy⟩ := hh
      refine ⟨[.l xs, .i i], xs[i], rfl, by simp [Pm.ev], [.l (half xs zv i), .i i], y, rfl, by simp [Pm.ev, hy], [.l (half xs zv i), .i i, xs[i]], .l (half xs zv (i + 1)), rfl, ?_, [.i i, .i 1], .i (i + 1 : Nat), rfl, ?_, [.i (i + 1 : Nat), .l (half xs zv (i + 1))], rfl, ?_⟩
      · simp only [Pm.ev, Int.toNat_natCast, half_length _ _ (Nat.le_of_lt hlt), half_set xs zv hx]
        rw [if_pos ⟨by omega, by omega⟩]
      · have := i64_nat (n := i + 1) (by have := big_le; omega)
        simp only [Pm.ev]
        rw [show ((i : Int) + 1) = ((i + 1 : Nat) : Int) by omega, this]
      · show (if (2 : Nat) = 2 then _ else _)
        rw [if_pos rfl]
        exact ⟨k - 1, by omega, i + 1, by omega, rfl⟩
    · have hge : i = xs.length := by simp at hf; omega
      subst hge
      refine ⟨[.l (half xs zv xs.length)], rfl, ?_⟩
      show (if (1 : Nat) = 2 then _ else _)
      rw [if_neg (by decide), half_all]
      exact ⟨rfl, rfl⟩

theorem toS1_ok {bytes : Nat} {z : E} {zv : V} (hz : z.den [] = some zv) (hb : bytes ≤ 134217728) {f : Nat} {s : Sh} (hs : s.isSt = true → s.chain = true) (hf : ToF C f s) {xs : List V} (hl : xs.length ≤ big) (hx : ∀ x ∈ xs, Bd s x) : (toS1 bytes z f s).wp C (ans [.l xs]) [.l xs] := by
  have hz' : ∀ ρ, z.den ρ = some zv := fun ρ => E.den_app ρ hz
  have hroom : roomFor xs.length bytes := ⟨by simp [big] at hl; omega, by simp only [big] at hl; exact Nat.le_trans (Nat.mul_le_mul hl hb) (by decide)⟩
  refine ⟨[.l xs], .i xs.length, rfl, rfl, [.i xs.length, .i xs.length, zv], .l (List.replicate xs.length zv), ?_, ?_, ?_⟩
  · simp [denL, E.den, hz']
  · simp [Pm.ev, hroom]
  · refine lp_intro (fun k vs => ∃ i, i + k = xs.length ∧ vs = [.i (i : Int), .l (half xs zv i)]) (n := xs.length) (vs := [.i 0, .l (List.replicate xs.length zv)]) rfl ⟨0, by omega, by simp [half]⟩ ?_
    rintro k vs ⟨i, hi, rfl⟩
    refine ⟨[.l xs], .i xs.length, rfl, rfl, [.i i, .i xs.length], .b (decide ((i : Int) < xs.length)), rfl, rfl, decide ((i : Int) < xs.length), rfl, fun ht => ?_, fun hf' => ?_⟩
    · have hlt : i < xs.length := by simpa using ht
      have hxi : xs[i]? = some xs[i] := List.getElem?_eq_getElem hlt
      have hbd := hx _ (List.getElem_mem hlt)
      have hh : ∃ y, (half xs zv i)[i]? = some y := ⟨_, List.getElem?_eq_getElem (by rw [half_length _ _ (by omega)]; exact hlt)⟩
      obtain ⟨y, hy⟩ := hh
      refine ⟨[.l xs, .i i], xs[i], rfl, by simp [Pm.ev], [xs[i]], [xs[i]], ?_, hf _ hbd, rfl, [.l (half xs zv i), .i i], y, rfl, by simp [Pm.ev, hy], [.l (half xs zv i), .i i, xs[i]], .l (half xs zv (i + 1)), ?_, ?_, [.i i, .i 1], .i (i + 1 : Nat), rfl, ?_, [.i (i + 1 : Nat), .l (half xs zv (i + 1))], rfl, ?_⟩
      · simp only [denL]
        rw [etaE_den hs hbd.wt rfl]
      · simp only [denL]
        rw [etaE_den hs hbd.wt rfl]
        rfl
      · simp only [Pm.ev, Int.toNat_natCast, half_length _ _ (Nat.le_of_lt hlt), half_set xs zv hxi]
        rw [if_pos ⟨by omega, by omega⟩]
      · have := i64_nat (n := i + 1) (by have := big_le; omega)
        simp only [Pm.ev]
        rw [show ((i : Int) + 1) = ((i + 1 : Nat) : Int) by omega, this]
      · show (if (2 : Nat) = 2 then _ else _)
        rw [if_pos rfl]
        exact ⟨k - 1, by omega, i + 1, by omega, rfl⟩
    · have hge : i = xs.length := by simp at hf'; omega
      subst hge
      refine ⟨[.l (half xs zv xs.length)], rfl, ?_⟩
      show (if (1 : Nat) = 2 then _ else _)
      rw [if_neg (by decide), half_all]
      exact ⟨rfl, rfl⟩

/-- Comparisons of slices. -/
def eqS0 (p : Pm) : A :=
  .pm .llen [.v 0] <| .pm .llen [.v 1] <| .pm .ne [.v 2, .v 3] <| .ite (.v 4) (.out 1 [.kb false]) <|
  .lp 2 [.ki 0] <| .pm .llen [.v 0] <| .pm .lt [.v 5, .v 6] <|
  .ite (.v 7) (.pm .lget [.v 0, .v 5] <| .pm .lget [.v 1, .v 5] <| .pm p [.v 8, .v 9] <| .ite (.v 10) (.out 1 [.kb false]) <| .pm (.add .i64) [.v 5, .ki 1] <| .out 2 [.v 11]) <|
  .out 1 [.kb true]

def eqS1 (f : Nat) (s : Sh) : A :=
  .pm .llen [.v 0] <| .pm .llen [.v 1] <| .pm .ne [.v 2, .v 3] <| .ite (.v 4) (.out 1 [.kb false]) <|
  .lp 2 [.ki 0] <| .pm .llen [.v 0] <| .pm .lt [.v 5, .v 6] <|
  .ite (.v 7) (.pm .lget [.v 0, .v 5] <| .pm .lget [.v 1, .v 5] <| .cl f [etaE 8 s, etaE 9 s] 1 <| .pm .not [.v 10] <| .ite (.v 11) (.out 1 [.kb false]) <| .pm (.add .i64) [.v 5, .ki 1] <| .out 2 [.v 12]) <|
  .out 1 [.kb true]

theorem eqS0_ok {p : Pm} {xs : List V} (hl : xs.length ≤ big) (hp : ∀ x ∈ xs, p.ev [x, x] = some (.b false)) : (eqS0 p).wp C (ans [.b true]) [.l xs, .l xs] := by
  refine ⟨[.l xs], .i xs.length, rfl, rfl, [.l xs], .i xs.length, rfl, rfl, [.i xs.length, .i xs.length], .b false, rfl, by simp [Pm.ev], false, rfl, (fun h => by cases h), fun _ => ?_⟩
  refine lp_intro (fun k vs => ∃ i, i + k = xs.length ∧ vs = [.i (i : Int)]) (n := xs.length) (vs := [.i 0]) rfl ⟨0, by omega, rfl⟩ ?_
  rintro k vs ⟨i, hi, rfl⟩
  refine ⟨[.l xs], .i xs.length, rfl, rfl, [.i i, .i xs.length], .b (decide ((i : Int) < xs.length)), rfl, rfl, decide ((i : Int) < xs.length), rfl, fun ht => ?_, fun hf' => ?_⟩
  · have hlt : i < xs.length := by simpa using ht
    refine ⟨[.l xs, .i i], xs[i], rfl, by simp [Pm.ev], [.l xs, .i i], xs[i], rfl, by simp [Pm.ev], [xs[i], xs[i]], .b false, rfl, hp _ (List.getElem_mem hlt), false, rfl, (fun h => by cases h), fun _ => ⟨[.i i, .i 1], .i (i + 1 : Nat), rfl, ?_, [.i (i + 1 : Nat)], rfl, ?_⟩⟩
    · have := i64_nat (n := i + 1) (by have := big_le; omega)
      simp only [Pm.ev]
      rw [show ((i : Int) + 1) = ((i + 1 : Nat) : Int) by omega, this]
    · show (if (2 : Nat) = 2 then _ else _)
      rw [if_pos rfl]
      exact ⟨k - 1, by omega, i + 1, by omega, rfl⟩
  · refine ⟨[.b true], rfl, ?_⟩
    show (if (1 : Nat) = 2 then _ else _)
    rw [if_neg (by decide)]
    exact ⟨rfl, rfl⟩

theorem eqS1_ok {f : Nat} {s : Sh} (hs : s.isSt = true → s.chain = true) (hf : EqF C f s) {xs : List V} (hl : xs.length ≤ big) (hx : ∀ x ∈ xs, Bd s x) : (eqS1 f s).wp C (ans [.b true]) [.l xs, .l xs] := by
  refine ⟨[.l xs], .i xs.length, rfl, rfl, [.l xs], .i xs.length, rfl, rfl, [.i xs.length, .i xs.length], .b false, rfl, by simp [Pm.ev], false, rfl, (fun h => by cases h), fun _ => ?_⟩
  refine lp_intro (fun k vs => ∃ i, i + k = xs.length ∧ vs = [.i (i : Int)]) (n := xs.length) (vs := [.i 0]) rfl ⟨0, by omega, rfl⟩ ?_
  rintro k vs ⟨i, hi, rfl⟩
  refine ⟨[.l xs], .i xs.length, rfl, rfl, [.i i, .i xs.length], .b (decide ((i : Int) < xs.length)), rfl, rfl, decide ((i : Int) < xs.length), rfl, fun ht => ?_, fun hf' => ?_⟩
  · have hlt : i < xs.length := by simpa using ht
    have hbd := hx _ (List.getElem_mem hlt)
    refine ⟨[.l xs, .i i], xs[i], rfl, by simp [Pm.ev], [.l xs, .i i], xs[i], rfl, by simp [Pm.ev], [xs[i], xs[i]], [.b true], ?_, hf _ hbd, rfl, [.b true], .b false, rfl, rfl, false, rfl, (fun h => by cases h), fun _ => ⟨[.i i, .i 1], .i (i + 1 : Nat), rfl, ?_, [.i (i + 1 : Nat)], rfl, ?_⟩⟩
    · simp only [denL]
      rw [etaE_den hs hbd.wt rfl, etaE_den hs hbd.wt rfl]
    · have := i64_nat (n := i + 1) (by have := big_le; omega)
      simp only [Pm.ev]
      rw [show ((i : Int) + 1) = ((i + 1 : Nat) : Int) by omega, this]
    · show (if (2 : Nat) = 2 then _ else _)
      rw [if_pos rfl]
      exact ⟨k - 1, by omega, i + 1, by omega, rfl⟩
  · refine ⟨[.b true], rfl, ?_⟩
    show (if (1 : Nat) = 2 then _ else _)
    rw [if_neg (by decide)]
    exact ⟨rfl, rfl⟩

end
end Go.Proofs.YteleedlkdadogaaGreat.Fw
