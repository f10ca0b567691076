/- Sets and rectangles: what the reference's functions, and the program's, answer. -/
import Derived.Test.YteleedlkdadogaaGreatPu1
namespace Go.Proofs.YteleedlkdadogaaGreat.Fw
open Go.RowKit

/-- A set: its level, its bits, its columns and rows. -/
structure Sq where
  lv : Int
  bits : Int
  cols : List Int
  rows : List Int

def Sq.v (s : Sq) : V := .t [.i s.lv, .i s.bits, .l (ints s.cols), .l (ints s.rows)]

theorem side_bound (l : List Int) : 0 ≤ sideSum l ∧ sideSum l ≤ 32 := by
  unfold sideSum
  split
  · rename_i h
    simp only [sideOk, Bool.and_eq_true, decide_eq_true_eq] at h
    have := sum_bound h.2.2
    omega
  · omega

def Sq.squares (s : Sq) : Int := sideSum s.cols * sideSum s.rows

theorem Sq.squares_bound (s : Sq) : 0 ≤ s.squares ∧ s.squares ≤ 1024 := by
  have h1 := side_bound s.cols
  have h2 := side_bound s.rows
  unfold Sq.squares
  refine ⟨Int.mul_nonneg h1.1 h2.1, ?_⟩
  have := Int.mul_le_mul h1.2 h2.2 h2.1 (by omega)
  omega

theorem cl213 (s : Sq) : Cl 213 [s.v] [.i s.squares] := by
  refine s213 ?_
  have hb := s.squares_bound
  have e1 : IntKind.i64.wrap (sideSum s.cols * sideSum s.rows) = sideSum s.cols * sideSum s.rows := wrap_id (by unfold Sq.squares at hb; omega) (by unfold Sq.squares at hb; omega)
  exact run_ex [.cl 322 [.l (ints s.cols)] [.i (sideSum s.cols)], .cl 322 [.l (ints s.rows)] [.i (sideSum s.rows)]] (ors_cl cl322 (ors_cl cl322 ors_nil))
    (by simp [A.evC, a213, denL, E.den, Pm.ev, ans, Sq.v, Sq.squares, e1])

/-- the sum of few small numbers -/
theorem lp85 {l : List Int} (h : small l = true) (h4 : l.length ≤ 4) : l85_0.wp Cl (fun m vs => m = 1 ∧ vs = [.i l.sum]) [.l (ints l), .i l.length] := by
  refine lp_for l.length (fun i => [.i (l.take i).sum, .i i]) (fun _ => True) (by simp [denL, E.den]) trivial (fun i hi _ => ?_) (fun _ => ?_)
  · have hb := take_sum_bound h i
    have hx := small_at h hi
    have e3 := sum_take hi
    have e1 : IntKind.i64.wrap ((l.take i).sum + l[i]) = (l.take i).sum + l[i] := wrap_id (by omega) (by omega)
    have e2 : IntKind.i64.wrap ((i : Int) + 1) = (i : Int) + 1 := wrap_id (by omega) (by omega)
    exact run_ex [] ors_nil (by simp [A.evC, l85_0b, denL, E.den, Pm.ev, ints_len, hi, ints_el, e1, e2, e3])
  · exact run_ex [] ors_nil (by simp [A.evC, l85_0b, denL, E.den, Pm.ev, ints_len])

theorem cl85 {l : List Int} (h : small l = true) (h4 : l.length ≤ 4) : Cl 85 [.l (ints l)] [.i l.sum] := by
  refine s85 ?_
  exact run_ex [.lp l85_0 [.l (ints l), .i l.length] 1 [.i l.sum]] (ors_lp (lp85 h h4) ors_nil) (by simp [A.evC, a85, denL, E.den, Pm.ev, ints_len, ans, l85_0])

theorem lp218_0 {q : V} {b1 b2 b3 : V} {k : Int} {l : List Int} {n0 : V} (r : V) (hk : 0 ≤ k ∧ k ≤ 2) (h4 : l.length ≤ 4) :
    l218_0.wp Cl (fun m vs => if small l then m = 2 ∧ vs = [.i (k + 1)] else m = 1 ∧ vs = [.i 0]) [q, r, n0, .i k, b1, .l (ints l), .i l.length, b2, b3, .i l.length] := by
  refine lp_for l.length (fun i => [.i i]) (fun i => small (l.take i) = true) (by simp [denL, E.den]) (by simp [small]) (fun i hi hp => ?_) (fun hp => ?_)
  · have e4 := small_step hi
    have e2 : IntKind.i64.wrap ((i : Int) + 1) = (i : Int) + 1 := wrap_id (by omega) (by omega)
    by_cases hx : within l[i] 1 8 = true
    · exact run_ex [.cl 84 [.i l[i], .i 1, .i 8] [.b (within l[i] 1 8)]] (ors_cl (cl84 _ _ _) ors_nil) (by simp [A.evC, l218_0b, denL, E.den, Pm.ev, ints_len, hi, ints_el, hx, e2, e4, hp])
    · have hx := eq_false_of_ne_true hx
      have : small l = false := by
        cases h : small l with
        | false => rfl
        | true => have := small_at h hi; rw [w_in.2 this] at hx; cases hx
      exact run_ex [.cl 84 [.i l[i], .i 1, .i 8] [.b (within l[i] 1 8)]] (ors_cl (cl84 _ _ _) ors_nil) (by simp [A.evC, l218_0b, denL, E.den, Pm.ev, ints_len, hi, ints_el, hx, this])
  · rw [List.take_length] at hp
    have e2 : IntKind.i64.wrap (k + 1) = k + 1 := wrap_id (by omega) (by omega)
    exact run_ex [] ors_nil (by simp [A.evC, l218_0b, denL, E.den, Pm.ev, ints_len, hp, e2])

theorem bad_side {l : List Int} (h : ¬ (1 ≤ l.length ∧ l.length ≤ 4 ∧ small l = true)) : sideSum l = 0 := by
  unfold sideSum
  rw [if_neg]
  simpa [sideOk] using h

/-- One list of the two, as the loop over both looks at it. -/
theorem row218 {s : Sq} {k : Nat} {l : List Int} {ls : List V} (hk : (k : Int) < 2) (hl : ls[k]? = some (.l (ints l))) (h0 : ¬ (1 ≤ l.length ∧ l.length ≤ 4 ∧ small l = true) → s.squares = 0) {Q : Nat → List V → Prop}
    (hQ1 : (1 ≤ l.length ∧ l.length ≤ 4 ∧ small l = true) → Q 2 [.i ((k : Int) + 1)]) (hQ2 : s.squares = 0 → Q 1 [.i 0]) : l218_1b.wp Cl Q [s.v, .l ls, .i 2, .i k] := by
  by_cases h1 : within (l.length : Int) 1 4 = true
  · have h1' := w_in.1 h1
    by_cases h2 : small l = true
    · have hor := lp218_0 (q := s.v) (b1 := .b true) (b2 := .b true) (b3 := .b false) (k := k) (l := l) (n0 := .i 2) (.l ls) (by omega) (by omega)
      simp only [h2, if_true] at hor
      refine run_ex [.cl 84 [.i l.length, .i 1, .i 4] [.b (within l.length 1 4)], .lp l218_0 _ 2 _] (ors_cl (cl84 _ _ _) (ors_lp hor ors_nil)) ?_
      have := hQ1 ⟨by omega, by omega, h2⟩
      simp [A.evC, l218_1b, denL, E.den, Pm.ev, hl, ints_len, h1, l218_0, hk, this]
    · have h2 := eq_false_of_ne_true h2
      have hor := lp218_0 (q := s.v) (b1 := .b true) (b2 := .b true) (b3 := .b false) (k := k) (l := l) (n0 := .i 2) (.l ls) (by omega) (by omega)
      simp only [h2, if_false, Bool.false_eq_true] at hor
      refine run_ex [.cl 84 [.i l.length, .i 1, .i 4] [.b (within l.length 1 4)], .lp l218_0 _ 1 _] (ors_cl (cl84 _ _ _) (ors_lp hor ors_nil)) ?_
      have := hQ2 (h0 (by simp [h2]))
      simp [A.evC, l218_1b, denL, E.den, Pm.ev, hl, ints_len, h1, l218_0, hk, this]
  · have h1 := eq_false_of_ne_true h1
    refine run_ex [.cl 84 [.i l.length, .i 1, .i 4] [.b (within l.length 1 4)]] (ors_cl (cl84 _ _ _) ors_nil) ?_
    have := hQ2 (h0 (fun h => by rw [w_in.2 ⟨by omega, by omega⟩] at h1; cases h1))
    simp [A.evC, l218_1b, denL, E.den, Pm.ev, hl, ints_len, h1, hk, this]

theorem cl218 (s : Sq) : Cl 218 [s.v] [.i s.squares] := by
  refine s218 ?_
  have hb := s.squares_bound
  have hloop : l218_1.wp Cl (fun m vs => m = 1 ∧ vs = [.i s.squares]) [s.v, .l [.l (ints s.cols), .l (ints s.rows)], .i 2] := by
    refine lp_for 2 (fun i => [.i i]) (fun i => (1 ≤ i → (1 ≤ s.cols.length ∧ s.cols.length ≤ 4 ∧ small s.cols = true)) ∧ (2 ≤ i → (1 ≤ s.rows.length ∧ s.rows.length ≤ 4 ∧ small s.rows = true))) (by simp [denL, E.den]) (by simp) (fun i hi hp => ?_) (fun hp => ?_)
    · match i, hi with
      | 0, _ =>
        refine row218 (k := 0) (l := s.cols) (by omega) rfl (fun h => by simp [Sq.squares, bad_side h]) (fun h => ?_) (fun h => ?_)
        · simp [h]
        · simp [h]
      | 1, _ =>
        refine row218 (k := 1) (l := s.rows) (by omega) rfl (fun h => by simp [Sq.squares, bad_side h]) (fun h => ?_) (fun h => ?_)
        · have := hp.1 (Nat.le_refl 1)
          simp [h, this]
        · simp [h]
    · obtain ⟨c1, c2, c3⟩ := hp.1 (by omega)
      obtain ⟨r1, r2, r3⟩ := hp.2 (by omega)
      have e1 : sideSum s.cols = s.cols.sum := by simp [sideSum, sideOk, c1, c2, c3]
      have e2 : sideSum s.rows = s.rows.sum := by simp [sideSum, sideOk, r1, r2, r3]
      have e3 : IntKind.i64.wrap (s.cols.sum * s.rows.sum) = s.cols.sum * s.rows.sum := wrap_id (by rw [← e1, ← e2]; unfold Sq.squares at hb; omega) (by rw [← e1, ← e2]; unfold Sq.squares at hb; omega)
      exact run_ex [.cl 85 [.l (ints s.cols)] [.i s.cols.sum], .cl 85 [.l (ints s.rows)] [.i s.rows.sum]] (ors_cl (cl85 c3 c2) (ors_cl (cl85 r3 r2) ors_nil))
        (by simp [A.evC, l218_1b, denL, E.den, Pm.ev, Sq.v, Sq.squares, e1, e2, e3])
  exact run_ex [.lp l218_1 _ 1 _] (ors_lp hloop ors_nil) (by simp [A.evC, a218, denL, E.den, Pm.ev, ans, Sq.v, l218_1])

def levelSq (l : Int) : Int := if l = 1 then 16 else if l = 2 then 64 else if l = 3 then 256 else 0

theorem cl286 (l : Int) : Cl 286 [.i l] [.i (levelSq l)] := by
  refine s286 ?_
  by_cases h1 : l = 1
  · exact run_ex [] ors_nil (by simp [A.evC, a286, denL, E.den, Pm.ev, ans, levelSq, h1])
  · by_cases h2 : l = 2
    · exact run_ex [] ors_nil (by simp [A.evC, a286, denL, E.den, Pm.ev, ans, levelSq, h2])
    · by_cases h3 : l = 3
      · exact run_ex [] ors_nil (by simp [A.evC, a286, denL, E.den, Pm.ev, ans, levelSq, h3])
      · have b1 : (l == 1) = false := by simpa using h1
        have b2 : (l == 2) = false := by simpa using h2
        have b3 : (l == 3) = false := by simpa using h3
        exact run_ex [] ors_nil (by simp [A.evC, a286, denL, E.den, Pm.ev, ans, levelSq, h1, h2, h3, b1, b2, b3])

theorem cl219 (l : Int) : Cl 219 [.i l] [.i (levelSq l)] := by
  refine s219 ?_
  by_cases h : within l 1 3 = true
  · have hw := w_in.1 h
    have : l = 1 ∨ l = 2 ∨ l = 3 := by omega
    rcases this with rfl | rfl | rfl
    · exact run_ex [.cl 84 [.i 1, .i 1, .i 3] [.b true]] (ors_cl (cl84 1 1 3) ors_nil) (by simp [A.evC, a219, denL, E.den, Pm.ev, ans, levelSq, wrap_id])
    · exact run_ex [.cl 84 [.i 2, .i 1, .i 3] [.b true]] (ors_cl (cl84 2 1 3) ors_nil) (by simp [A.evC, a219, denL, E.den, Pm.ev, ans, levelSq, wrap_id])
    · exact run_ex [.cl 84 [.i 3, .i 1, .i 3] [.b true]] (ors_cl (cl84 3 1 3) ors_nil) (by simp [A.evC, a219, denL, E.den, Pm.ev, ans, levelSq, wrap_id])
  · have h := eq_false_of_ne_true h
    have hl : levelSq l = 0 := by
      unfold levelSq
      split
      · rename_i e; subst e; cases h
      · split
        · rename_i e; subst e; cases h
        · split
          · rename_i e; subst e; cases h
          · rfl
    exact run_ex [.cl 84 [.i l, .i 1, .i 3] [.b (within l 1 3)]] (ors_cl (cl84 _ _ _) ors_nil) (by simp [A.evC, a219, denL, E.den, Pm.ev, ans, h, hl])

def Sq.ok (s : Sq) : Bool := within s.squares 1 (levelSq s.lv) && within s.bits 3 8

theorem cl138 (s : Sq) : Cl 138 [s.v] [.b s.ok] := by
  refine s138 ?_
  refine run_ex [.cl 213 [s.v] [.i s.squares], .cl 286 [.i s.lv] [.i (levelSq s.lv)], .cl 118 [.i s.squares, .i 1, .i (levelSq s.lv)] [.b (within s.squares 1 (levelSq s.lv))], .cl 118 [.i s.bits, .i 3, .i 8] [.b (within s.bits 3 8)]]
    (ors_cl (cl213 s) (ors_cl (cl286 _) (ors_cl (cl118 _ _ _) (ors_cl (cl118 _ _ _) ors_nil)))) ?_
  cases h : within s.squares 1 (levelSq s.lv) <;> simp [A.evC, a138, denL, E.den, Pm.ev, ans, Sq.v, Sq.ok, h]

theorem cl74 (s : Sq) : Cl 74 [s.v] [.b s.ok] := by
  refine s74 ?_
  refine run_ex [.cl 218 [s.v] [.i s.squares], .cl 219 [.i s.lv] [.i (levelSq s.lv)], .cl 84 [.i s.squares, .i 1, .i (levelSq s.lv)] [.b (within s.squares 1 (levelSq s.lv))], .cl 84 [.i s.bits, .i 3, .i 8] [.b (within s.bits 3 8)]]
    (ors_cl (cl218 s) (ors_cl (cl219 _) (ors_cl (cl84 _ _ _) (ors_cl (cl84 _ _ _) ors_nil)))) ?_
  cases h : within s.squares 1 (levelSq s.lv) <;> simp [A.evC, a74, denL, E.den, Pm.ev, ans, Sq.v, Sq.ok, h]

/-- What a right set's sides are. -/
structure Sq.Right (s : Sq) : Prop where
  c1 : 1 ≤ s.cols.length
  c4 : s.cols.length ≤ 4
  cs : small s.cols = true
  r1 : 1 ≤ s.rows.length
  r4 : s.rows.length ≤ 4
  rs : small s.rows = true
  b3 : 3 ≤ s.bits
  b8 : s.bits ≤ 8
  sq : 1 ≤ s.cols.sum * s.rows.sum
  sq2 : s.cols.sum * s.rows.sum ≤ levelSq s.lv

theorem Sq.right {s : Sq} (h : s.ok = true) : s.Right := by
  simp only [Sq.ok, Bool.and_eq_true, w_in] at h
  obtain ⟨⟨h1, h2⟩, h3⟩ := h
  have hne : sideSum s.cols ≠ 0 ∧ sideSum s.rows ≠ 0 := by
    constructor <;> intro e <;> simp [Sq.squares, e] at h1
  have side : ∀ l : List Int, sideSum l ≠ 0 → (1 ≤ l.length ∧ l.length ≤ 4 ∧ small l = true) := by
    intro l hl
    by_cases hh : 1 ≤ l.length ∧ l.length ≤ 4 ∧ small l = true
    · exact hh
    · exact absurd (bad_side hh) hl
  obtain ⟨c1, c2, c3⟩ := side _ hne.1
  obtain ⟨r1, r2, r3⟩ := side _ hne.2
  have e1 : sideSum s.cols = s.cols.sum := by simp [sideSum, sideOk, c1, c2, c3]
  have e2 : sideSum s.rows = s.rows.sum := by simp [sideSum, sideOk, r1, r2, r3]
  unfold Sq.squares at h1 h2
  rw [e1, e2] at h1 h2
  exact ⟨c1, c2, c3, r1, r2, r3, h3.1, h3.2, h1, h2⟩

def Sq.tiles (s : Sq) : Int := if s.ok then (s.cols.length : Int) * s.rows.length else 0

theorem Sq.tiles_bound (s : Sq) : 0 ≤ s.tiles ∧ s.tiles ≤ 16 := by
  unfold Sq.tiles
  split
  · rename_i h
    have r := Sq.right h
    have h1 : s.cols.length * s.rows.length ≤ 4 * 4 := Nat.mul_le_mul r.c4 r.r4
    have h2 : ((s.cols.length : Int) * s.rows.length) = ((s.cols.length * s.rows.length : Nat) : Int) := by simp
    omega
  · omega

theorem cl140 (s : Sq) : Cl 140 [s.v] [.i s.tiles] := by
  refine s140 ?_
  have hb := s.tiles_bound
  cases h : s.ok
  · exact run_ex [.cl 138 [s.v] [.b s.ok]] (ors_cl (cl138 s) ors_nil) (by simp [A.evC, a140, denL, E.den, Pm.ev, ans, Sq.v, Sq.tiles, h])
  · have e : IntKind.i64.wrap ((s.cols.length : Int) * s.rows.length) = (s.cols.length : Int) * s.rows.length := by
      simp only [Sq.tiles, h, if_true] at hb
      exact wrap_id (by omega) (by omega)
    exact run_ex [.cl 138 [s.v] [.b s.ok]] (ors_cl (cl138 s) ors_nil) (by simp [A.evC, a140, denL, E.den, Pm.ev, ans, Sq.v, Sq.tiles, h, ints_len, e])

theorem cl76 (s : Sq) : Cl 76 [s.v] [.i s.tiles] := by
  refine s76 ?_
  have hb := s.tiles_bound
  cases h : s.ok
  · exact run_ex [.cl 74 [s.v] [.b s.ok]] (ors_cl (cl74 s) ors_nil) (by simp [A.evC, a76, denL, E.den, Pm.ev, ans, Sq.v, Sq.tiles, h])
  · have e : IntKind.i64.wrap ((s.cols.length : Int) * s.rows.length) = (s.cols.length : Int) * s.rows.length := by
      simp only [Sq.tiles, h, if_true] at hb
      exact wrap_id (by omega) (by omega)
    exact run_ex [.cl 74 [s.v] [.b s.ok]] (ors_cl (cl74 s) ors_nil) (by simp [A.evC, a76, denL, E.den, Pm.ev, ans, Sq.v, Sq.tiles, h, ints_len, e])

theorem lp244 {l : List Int} {n : Nat} (h : small l = true) (h4 : l.length ≤ 4) (hn : n ≤ l.length) : l244_0.wp Cl (fun m vs => m = 1 ∧ vs = [.i (l.take n).sum]) [.l (ints l), .i n] := by
  refine lp_for n (fun i => [.i (l.take i).sum, .i i]) (fun _ => True) (by simp [denL, E.den]) trivial (fun i hi _ => ?_) (fun _ => ?_)
  · have hil : i < l.length := by omega
    have hb := take_sum_bound h i
    have hx := small_at h hil
    have e3 := sum_take hil
    have e1 : IntKind.i64.wrap ((l.take i).sum + l[i]) = (l.take i).sum + l[i] := wrap_id (by omega) (by omega)
    have e2 : IntKind.i64.wrap ((i : Int) + 1) = (i : Int) + 1 := wrap_id (by omega) (by omega)
    exact run_ex [] ors_nil (by simp [A.evC, l244_0b, denL, E.den, Pm.ev, ints_len, hi, hil, ints_el, e1, e2, e3])
  · exact run_ex [] ors_nil (by simp [A.evC, l244_0b, denL, E.den, Pm.ev, ints_len])

theorem cl244 {l : List Int} {n : Nat} (h : small l = true) (h4 : l.length ≤ 4) (hn : n ≤ l.length) : Cl 244 [.l (ints l), .i n] [.i (l.take n).sum] := by
  refine s244 ?_
  exact run_ex [.lp l244_0 [.l (ints l), .i n] 1 [.i (l.take n).sum]] (ors_lp (lp244 h h4 hn) ors_nil) (by simp [A.evC, a244, denL, E.den, Pm.ev, ans, l244_0])

structure Rc4 where
  l : Int
  t : Int
  w : Int
  h : Int

def Rc4.v (r : Rc4) : V := .t [.i r.l, .i r.t, .i r.w, .i r.h]

/-- Where a tile is. -/
def Sq.rect (s : Sq) (t : Nat) : Rc4 :=
  ⟨8 * (s.cols.take (t % s.cols.length)).sum, 8 * (s.rows.take (t / s.cols.length)).sum, 8 * s.cols.getD (t % s.cols.length) 0, 8 * s.rows.getD (t / s.cols.length) 0⟩

def Sq.tileRect (s : Sq) (t : Int) : Option Rc4 := if 0 ≤ t ∧ t < s.tiles then some (s.rect t.toNat) else none

def optV {α : Type} (v : V) (f : α → V) : Option α → List V
  | some a => [f a, .b true]
  | none => [v, .b false]

def noRect : V := .t [.i 0, .i 0, .i 0, .i 0]
abbrev rectV (o : Option Rc4) : List V := optV noRect Rc4.v o

theorem Sq.tile_in {s : Sq} {t : Nat} (h : (t : Int) < s.tiles) : s.ok = true ∧ t % s.cols.length < s.cols.length ∧ t / s.cols.length < s.rows.length := by
  unfold Sq.tiles at h
  split at h
  · rename_i hok
    have r := Sq.right hok
    refine ⟨hok, Nat.mod_lt _ r.c1, ?_⟩
    have h2 : ((s.cols.length : Int) * s.rows.length) = ((s.cols.length * s.rows.length : Nat) : Int) := by simp
    exact Nat.div_lt_of_lt_mul (by omega)
  · omega

theorem tmod_nat (a b : Nat) : Int.tmod (a : Int) (b : Int) = ((a % b : Nat) : Int) := rfl
theorem tdiv_nat (a b : Nat) : Int.tdiv (a : Int) (b : Int) = ((a / b : Nat) : Int) := rfl

theorem cl98 (s : Sq) (t : Int) : Cl 98 [s.v, .i t] (rectV (s.tileRect t)) := by
  refine s98 ?_
  by_cases h0 : t < 0
  · exact run_ex [] ors_nil (by simp [A.evC, a98, denL, E.den, Pm.ev, ans, h0, Sq.tileRect, show ¬ 0 ≤ t by omega, optV, noRect])
  · by_cases h1 : t < s.tiles
    · obtain ⟨n, rfl⟩ := Int.eq_ofNat_of_zero_le (show 0 ≤ t by omega)
      obtain ⟨hok, hc, hr⟩ := Sq.tile_in h1
      have r := Sq.right hok
      generalize hcn : n % s.cols.length = c at hc
      generalize hrn : n / s.cols.length = d at hr
      have hm : Int.tmod (n : Int) (s.cols.length : Int) = c := by rw [tmod_nat, hcn]
      have hq : Int.tdiv (n : Int) (s.cols.length : Int) = d := by rw [tdiv_nat, hrn]
      have hge : ¬ s.tiles ≤ (n : Int) := by omega
      have b1 := take_sum_bound r.cs c
      have b2 := take_sum_bound r.rs d
      have b3 := small_at r.cs hc
      have b4 := small_at r.rs hr
      have r4 := r.r4
      have c4 := r.c4
      have c1 := r.c1
      have e1 : IntKind.i64.wrap (d : Int) = d := wrap_id (by omega) (by omega)
      have e2 : IntKind.i64.wrap (8 * (s.cols.take c).sum) = 8 * (s.cols.take c).sum := wrap_id (by omega) (by omega)
      have e3 : IntKind.i64.wrap (8 * (s.rows.take d).sum) = 8 * (s.rows.take d).sum := wrap_id (by omega) (by omega)
      have e4 : IntKind.i64.wrap (8 * s.cols[c]) = 8 * s.cols[c] := wrap_id (by omega) (by omega)
      have e5 : IntKind.i64.wrap (8 * s.rows[d]) = 8 * s.rows[d] := wrap_id (by omega) (by omega)
      have hne : ¬ s.cols = [] := by intro e; rw [e] at c1; simp at c1
      exact run_ex [.cl 140 [s.v] [.i s.tiles], .cl 244 [.l (ints s.cols), .i c] [.i (s.cols.take c).sum], .cl 244 [.l (ints s.rows), .i d] [.i (s.rows.take d).sum]] (ors_cl (cl140 s) (ors_cl (cl244 r.cs r.c4 (by omega)) (ors_cl (cl244 r.rs r.r4 (by omega)) ors_nil)))
        (by simp [A.evC, a98, denL, E.den, Pm.ev, ans, h1, h0, hge, Sq.tileRect, Sq.rect, Rc4.v, optV, Sq.v, ints_len, hne, hm, hq, hcn, hrn, e1, e2, e3, e4, e5, hc, hr, ints_el])
    · exact run_ex [.cl 140 [s.v] [.i s.tiles]] (ors_cl (cl140 s) ors_nil) (by simp [A.evC, a98, denL, E.den, Pm.ev, ans, h0, h1, show s.tiles ≤ t by omega, Sq.tileRect, Sq.v, optV, noRect])

theorem ints_take (l : List Int) (n : Nat) : (ints l).take n = ints (l.take n) := by simp [ints, List.map_take]

theorem subL_take {α : Type} {l : List α} {n : Nat} (h : n ≤ l.length) : subL l 0 n = some (l.take n) := by
  unfold subL
  rw [if_pos (by omega)]
  simp

theorem cl19 (s : Sq) (t : Int) : Cl 19 [s.v, .i t] (rectV (s.tileRect t)) := by
  refine s19 ?_
  have hb := s.tiles_bound
  have e0 : IntKind.i64.wrap (s.tiles - 1) = s.tiles - 1 := wrap_id (by omega) (by omega)
  by_cases h1 : within t 0 (s.tiles - 1) = true
  · have hw := w_in.1 h1
    obtain ⟨n, rfl⟩ := Int.eq_ofNat_of_zero_le hw.1
    have hlt : (n : Int) < s.tiles := by omega
    obtain ⟨hok, hc, hr⟩ := Sq.tile_in hlt
    have r := Sq.right hok
    generalize hcn : n % s.cols.length = c at hc
    generalize hrn : n / s.cols.length = d at hr
    have hm : Int.tmod (n : Int) (s.cols.length : Int) = c := by rw [tmod_nat, hcn]
    have hq : Int.tdiv (n : Int) (s.cols.length : Int) = d := by rw [tdiv_nat, hrn]
    have hge : ¬ s.tiles ≤ (n : Int) := by omega
    have b1 := take_sum_bound r.cs c
    have b2 := take_sum_bound r.rs d
    have b3 := small_at r.cs hc
    have b4 := small_at r.rs hr
    have r4 := r.r4
    have c4 := r.c4
    have c1 := r.c1
    have e1 : IntKind.i64.wrap (d : Int) = d := wrap_id (by omega) (by omega)
    have e2 : IntKind.i64.wrap (8 * (s.cols.take c).sum) = 8 * (s.cols.take c).sum := wrap_id (by omega) (by omega)
    have e3 : IntKind.i64.wrap (8 * (s.rows.take d).sum) = 8 * (s.rows.take d).sum := wrap_id (by omega) (by omega)
    have e4 : IntKind.i64.wrap (8 * s.cols[c]) = 8 * s.cols[c] := wrap_id (by omega) (by omega)
    have e5 : IntKind.i64.wrap (8 * s.rows[d]) = 8 * s.rows[d] := wrap_id (by omega) (by omega)
    have hne : ¬ s.cols = [] := by intro e; rw [e] at c1; simp at c1
    have s1 : subL (ints s.cols) 0 c = some (ints (s.cols.take c)) := by rw [subL_take (by rw [ints_len]; omega), ints_take]
    have s2 : subL (ints s.rows) 0 d = some (ints (s.rows.take d)) := by rw [subL_take (by rw [ints_len]; omega), ints_take]
    exact run_ex [.cl 76 [s.v] [.i s.tiles], .cl 84 [.i n, .i 0, .i (s.tiles - 1)] [.b (within n 0 (s.tiles - 1))], .cl 85 [.l (ints (s.cols.take c))] [.i (s.cols.take c).sum], .cl 85 [.l (ints (s.rows.take d))] [.i (s.rows.take d).sum]]
      (ors_cl (cl76 s) (ors_cl (cl84 _ _ _) (ors_cl (cl85 (small_take r.cs c) (by rw [List.length_take]; omega)) (ors_cl (cl85 (small_take r.rs d) (by rw [List.length_take]; omega)) ors_nil))))
      (by simp [A.evC, a19, denL, E.den, Pm.ev, ans, h1, hlt, e0, Sq.tileRect, Sq.rect, Rc4.v, optV, Sq.v, ints_len, hne, hm, hq, hcn, hrn, e1, e2, e3, e4, e5, hc, hr, ints_el, s1, s2])
  · have hno : ¬ (0 ≤ t ∧ t < s.tiles) := fun h => h1 (w_in.2 ⟨h.1, by omega⟩)
    have h1 := eq_false_of_ne_true h1
    exact run_ex [.cl 76 [s.v] [.i s.tiles], .cl 84 [.i t, .i 0, .i (s.tiles - 1)] [.b (within t 0 (s.tiles - 1))]] (ors_cl (cl76 s) (ors_cl (cl84 _ _ _) ors_nil))
      (by simp [A.evC, a19, denL, E.den, Pm.ev, ans, h1, e0, Sq.tileRect, hno, Sq.v, optV, noRect])

end Go.Proofs.YteleedlkdadogaaGreat.Fw
