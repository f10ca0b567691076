/- Pictures: what the reference's functions, and the program's, answer. -/
import Derived.Test.YteleedlkdadogaaGreatPu2
namespace Go.Proofs.YteleedlkdadogaaGreat.Fw
open Go.RowKit

structure Pc where
  w : Int
  h : Int
  d : List UInt8

def Pc.v (p : Pc) : V := .t [.i p.w, .i p.h, .s p.d]
def noPic : V := .t [.i 0, .i 0, .s []]
abbrev picV (o : Option Pc) : List V := optV noPic Pc.v o

def Pc.ok (p : Pc) : Bool := within p.w 1 256 && (within p.h 1 256 && ((p.d.length : Int) == p.w * p.h))

theorem cl288 (p : Pc) : Cl 288 [p.v] [.b p.ok] := by
  refine s288 ?_
  cases h1 : within p.w 1 256
  · exact run_ex [.cl 118 [.i p.w, .i 1, .i 256] [.b (within p.w 1 256)]] (ors_cl (cl118 _ _ _) ors_nil) (by simp [A.evC, a288, denL, E.den, Pm.ev, ans, Pc.v, Pc.ok, h1])
  · cases h2 : within p.h 1 256
    · exact run_ex [.cl 118 [.i p.w, .i 1, .i 256] [.b (within p.w 1 256)], .cl 118 [.i p.h, .i 1, .i 256] [.b (within p.h 1 256)]] (ors_cl (cl118 _ _ _) (ors_cl (cl118 _ _ _) ors_nil)) (by simp [A.evC, a288, denL, E.den, Pm.ev, ans, Pc.v, Pc.ok, h1, h2])
    · have w1 := w_in.1 h1
      have w2 := w_in.1 h2
      have hm := Int.mul_le_mul w1.2 w2.2 (by omega) (by omega)
      have hm0 := Int.mul_nonneg (show 0 ≤ p.w by omega) (show 0 ≤ p.h by omega)
      have e : IntKind.i64.wrap (p.w * p.h) = p.w * p.h := wrap_id (by omega) (by omega)
      exact run_ex [.cl 118 [.i p.w, .i 1, .i 256] [.b (within p.w 1 256)], .cl 118 [.i p.h, .i 1, .i 256] [.b (within p.h 1 256)]] (ors_cl (cl118 _ _ _) (ors_cl (cl118 _ _ _) ors_nil)) (by simp [A.evC, a288, denL, E.den, Pm.ev, ans, Pc.v, Pc.ok, h1, h2, e])

theorem cl83 (p : Pc) : Cl 83 [p.v] [.b p.ok] := by
  refine s83 ?_
  cases h1 : within p.w 1 256
  · exact run_ex [.cl 84 [.i p.w, .i 1, .i 256] [.b (within p.w 1 256)]] (ors_cl (cl84 _ _ _) ors_nil) (by simp [A.evC, a83, denL, E.den, Pm.ev, ans, Pc.v, Pc.ok, h1])
  · cases h2 : within p.h 1 256
    · exact run_ex [.cl 84 [.i p.w, .i 1, .i 256] [.b (within p.w 1 256)], .cl 84 [.i p.h, .i 1, .i 256] [.b (within p.h 1 256)]] (ors_cl (cl84 _ _ _) (ors_cl (cl84 _ _ _) ors_nil)) (by simp [A.evC, a83, denL, E.den, Pm.ev, ans, Pc.v, Pc.ok, h1, h2])
    · have w1 := w_in.1 h1
      have w2 := w_in.1 h2
      have hm := Int.mul_le_mul w1.2 w2.2 (by omega) (by omega)
      have hm0 := Int.mul_nonneg (show 0 ≤ p.w by omega) (show 0 ≤ p.h by omega)
      have e : IntKind.i64.wrap (p.w * p.h) = p.w * p.h := wrap_id (by omega) (by omega)
      exact run_ex [.cl 84 [.i p.w, .i 1, .i 256] [.b (within p.w 1 256)], .cl 84 [.i p.h, .i 1, .i 256] [.b (within p.h 1 256)]] (ors_cl (cl84 _ _ _) (ors_cl (cl84 _ _ _) ors_nil)) (by simp [A.evC, a83, denL, E.den, Pm.ev, ans, Pc.v, Pc.ok, h1, h2, e])

/-- A rectangle within a picture. -/
def Pc.holds (p : Pc) (r : Rc4) : Bool := within r.w 1 p.w && (within r.h 1 p.h && (within r.l 0 (p.w - r.w) && within r.t 0 (p.h - r.h)))

/-- Numbers that an int can be. -/
def isI (n : Int) : Prop := -9223372036854775808 ≤ n ∧ n ≤ 9223372036854775807

theorem cl245 (p : Pc) (r : Rc4) : Cl 245 [p.v, .i r.l, .i r.t, .i r.w, .i r.h] [.b (p.ok && p.holds r)] := by
  refine s245 ?_
  cases h0 : p.ok
  · exact run_ex [.cl 288 [p.v] [.b p.ok]] (ors_cl (cl288 _) ors_nil) (by simp [A.evC, a245, denL, E.den, Pm.ev, ans, Pc.v, h0])
  have hw : within p.w 1 256 = true ∧ within p.h 1 256 = true := by simp only [Pc.ok, Bool.and_eq_true] at h0; exact ⟨h0.1, h0.2.1⟩
  have w1 := w_in.1 hw.1
  have w2 := w_in.1 hw.2
  have c0 := cl288 p
  have c1 := cl118 r.w 1 p.w
  cases h1 : within r.w 1 p.w
  · exact run_ex [.cl 288 [p.v] [.b p.ok], .cl 118 _ _] (ors_cl c0 (ors_cl c1 ors_nil)) (by simp [A.evC, a245, denL, E.den, Pm.ev, ans, Pc.v, Pc.holds, h0, h1])
  have c2 := cl118 r.h 1 p.h
  have r1 := w_in.1 h1
  cases h2 : within r.h 1 p.h
  · exact run_ex [.cl 288 [p.v] [.b p.ok], .cl 118 _ _, .cl 118 _ _] (ors_cl c0 (ors_cl c1 (ors_cl c2 ors_nil))) (by simp [A.evC, a245, denL, E.den, Pm.ev, ans, Pc.v, Pc.holds, h0, h1, h2])
  have r2 := w_in.1 h2
  have e1 : IntKind.i64.wrap (p.w - r.w) = p.w - r.w := wrap_id (by omega) (by omega)
  have e2 : IntKind.i64.wrap (p.h - r.h) = p.h - r.h := wrap_id (by omega) (by omega)
  have c3 := cl118 r.l 0 (p.w - r.w)
  cases h3 : within r.l 0 (p.w - r.w)
  · exact run_ex [.cl 288 [p.v] [.b p.ok], .cl 118 _ _, .cl 118 _ _, .cl 118 _ _] (ors_cl c0 (ors_cl c1 (ors_cl c2 (ors_cl c3 ors_nil)))) (by simp [A.evC, a245, denL, E.den, Pm.ev, ans, Pc.v, Pc.holds, h0, h1, h2, h3, e1])
  have c4 := cl118 r.t 0 (p.h - r.h)
  exact run_ex [.cl 288 [p.v] [.b p.ok], .cl 118 _ _, .cl 118 _ _, .cl 118 _ _, .cl 118 _ _] (ors_cl c0 (ors_cl c1 (ors_cl c2 (ors_cl c3 (ors_cl c4 ors_nil))))) (by simp [A.evC, a245, denL, E.den, Pm.ev, ans, Pc.v, Pc.holds, h0, h1, h2, h3, e1, e2])

theorem cl90 (p : Pc) (r : Rc4) (hp : isI p.w ∧ isI p.h) : Cl 90 [p.v, r.v] [.b (p.holds r)] := by
  refine s90 ?_
  obtain ⟨⟨_, i1⟩, ⟨_, i2⟩⟩ := hp
  have c1 := cl84 r.w 1 p.w
  cases h1 : within r.w 1 p.w
  · exact run_ex [.cl 84 _ _] (ors_cl c1 ors_nil) (by simp [A.evC, a90, denL, E.den, Pm.ev, ans, Pc.v, Rc4.v, Pc.holds, h1])
  have c2 := cl84 r.h 1 p.h
  have r1 := w_in.1 h1
  cases h2 : within r.h 1 p.h
  · exact run_ex [.cl 84 _ _, .cl 84 _ _] (ors_cl c1 (ors_cl c2 ors_nil)) (by simp [A.evC, a90, denL, E.den, Pm.ev, ans, Pc.v, Rc4.v, Pc.holds, h1, h2])
  have r2 := w_in.1 h2
  have e1 : IntKind.i64.wrap (p.w - r.w) = p.w - r.w := wrap_id (by omega) (by omega)
  have e2 : IntKind.i64.wrap (p.h - r.h) = p.h - r.h := wrap_id (by omega) (by omega)
  have c3 := cl84 r.l 0 (p.w - r.w)
  cases h3 : within r.l 0 (p.w - r.w)
  · exact run_ex [.cl 84 _ _, .cl 84 _ _, .cl 84 _ _] (ors_cl c1 (ors_cl c2 (ors_cl c3 ors_nil))) (by simp [A.evC, a90, denL, E.den, Pm.ev, ans, Pc.v, Rc4.v, Pc.holds, h1, h2, h3, e1])
  have c4 := cl84 r.t 0 (p.h - r.h)
  exact run_ex [.cl 84 _ _, .cl 84 _ _, .cl 84 _ _, .cl 84 _ _] (ors_cl c1 (ors_cl c2 (ors_cl c3 (ors_cl c4 ors_nil)))) (by simp [A.evC, a90, denL, E.den, Pm.ev, ans, Pc.v, Rc4.v, Pc.holds, h1, h2, h3, e1, e2])

theorem strBytes_bytesV : ∀ s : List UInt8, strBytes (bytesV s) = some s
  | [] => rfl
  | c :: s => by
    have := strBytes_bytesV s
    simp only [bytesV] at this
    simp [bytesV, strBytes, this]

theorem bytesV_app (a b : List UInt8) : bytesV (a ++ b) = bytesV a ++ bytesV b := by simp [bytesV]
theorem bytesV_len (a : List UInt8) : (bytesV a).length = a.length := by simp [bytesV]

/-- One row of what is cut. -/
def cutRow (d : List UInt8) (W l w y : Nat) : List UInt8 := (d.take (y * W + l + w)).drop (y * W + l)

def cutD (d : List UInt8) (W l t w h : Nat) : List UInt8 := (List.range h).flatMap fun i => cutRow d W l w (t + i)

theorem cutD_succ (d : List UInt8) (W l t w h : Nat) : cutD d W l t w (h + 1) = cutD d W l t w h ++ cutRow d W l w (t + h) := by
  simp [cutD, List.range_succ, List.flatMap_append]

theorem cutRow_len (d : List UInt8) (W l w y : Nat) : (cutRow d W l w y).length ≤ w := by
  simp only [cutRow, List.length_drop, List.length_take]; omega

theorem cutD_len (d : List UInt8) (W l t w : Nat) : ∀ h, (cutD d W l t w h).length ≤ h * w
  | 0 => by simp [cutD]
  | h + 1 => by
    have h1 := cutD_len d W l t w h
    have h2 := cutRow_len d W l w (t + h)
    rw [cutD_succ, List.length_append, Nat.add_mul]
    omega

def Pc.cut (p : Pc) (r : Rc4) : Option Pc :=
  if p.ok && p.holds r then some ⟨r.w, r.h, cutD p.d p.w.toNat r.l.toNat r.t.toNat r.w.toNat r.h.toNat⟩ else none

/-- What a picture that holds a rectangle is made of. -/
structure Pc.Has (p : Pc) (r : Rc4) (W H l t w h : Nat) : Prop where
  pw : p.w = W
  ph : p.h = H
  rl : r.l = l
  rt : r.t = t
  rw : r.w = w
  rh : r.h = h
  w1 : 1 ≤ w
  h1 : 1 ≤ h
  lw : l + w ≤ W
  th : t + h ≤ H
  W6 : W ≤ 256
  H6 : H ≤ 256
  len : p.d.length = W * H

theorem Pc.has {p : Pc} {r : Rc4} (h : (p.ok && p.holds r) = true) : p.Has r p.w.toNat p.h.toNat r.l.toNat r.t.toNat r.w.toNat r.h.toNat := by
  simp only [Pc.ok, Pc.holds, Bool.and_eq_true, w_in, beq_iff_eq] at h
  obtain ⟨⟨h1, h2, h3⟩, h4, h5, h6, h7⟩ := h
  refine ⟨by omega, by omega, by omega, by omega, by omega, by omega, by omega, by omega, by omega, by omega, by omega, by omega, ?_⟩
  have e1 : p.w = (p.w.toNat : Int) := by omega
  have e2 : p.h = (p.h.toNat : Int) := by omega
  rw [e1, e2] at h3
  exact_mod_cast h3

theorem row_in {W H l t w h i : Nat} (h1 : l + w ≤ W) (h2 : t + h ≤ H) (hi : i < h) : (t + i) * W + l + w ≤ W * H := by
  have : (t + i + 1) * W ≤ H * W := Nat.mul_le_mul_right _ (by omega)
  rw [Nat.add_mul] at this
  rw [Nat.mul_comm W H]
  omega

theorem sub_row {d : List UInt8} {W H l t w h i : Nat} (hl : d.length = W * H) (h1 : l + w ≤ W) (h2 : t + h ≤ H) (hi : i < h) :
    subL d (((t : Int) + i) * W + l) (((t : Int) + i) * W + l + w) = some (cutRow d W l w (t + i)) := by
  have hr := row_in h1 h2 hi
  have e1 : ((t : Int) + i) * W + l = (((t + i) * W + l : Nat) : Int) := by simp
  have e2 : ((t : Int) + i) * W + l + w = (((t + i) * W + l + w : Nat) : Int) := by simp
  rw [e2, e1]
  unfold subL
  rw [if_pos ⟨by omega, by omega, by rw [hl]; omega⟩, Int.toNat_natCast, Int.toNat_natCast]
  rfl

theorem prod6 {W H : Nat} (h1 : W ≤ 256) (h2 : H ≤ 256) : W * H ≤ 65536 := Nat.mul_le_mul h1 h2

/-- the numbers of a row, as they stand -/
theorem row_nums {W H l t w h i : Nat} (h1 : l + w ≤ W) (h2 : t + h ≤ H) (hi : i < h) (h6 : W ≤ 256) (h7 : H ≤ 256) :
    IntKind.i64.wrap (((t : Int) + i) * W) = ((t : Int) + i) * W ∧ IntKind.i64.wrap (((t : Int) + i) * W + l) = ((t : Int) + i) * W + l ∧ IntKind.i64.wrap (((t : Int) + i) * W + l + w) = ((t : Int) + i) * W + l + w := by
  have hr := row_in h1 h2 hi
  have hp := prod6 h6 h7
  have e0 : ((t : Int) + i) * W = (((t + i) * W : Nat) : Int) := by simp
  rw [e0]
  exact ⟨wrap_id (by omega) (by omega), wrap_id (by omega) (by omega), wrap_id (by omega) (by omega)⟩

theorem lp99 {d : List UInt8} {W H l t w h : Nat} {b1 b2 : V} (hl : d.length = W * H) (h1 : l + w ≤ W) (h2 : t + h ≤ H) (h6 : W ≤ 256) (h7 : H ≤ 256) :
    l99_0.wp Cl (fun m vs => m = 1 ∧ vs = [.t [.i w, .i h, .s (cutD d W l t w h)], .b true]) [.t [.i W, .i H, .s d], .t [.i l, .i t, .i w, .i h], b1, b2] := by
  have eh : IntKind.i64.wrap ((t : Int) + h) = t + h := wrap_id (by omega) (by omega)
  refine lp_for h (fun i => [.i ((t : Int) + i), .l (bytesV (cutD d W l t w i))]) (fun _ => True) (by simp [denL, E.den, cutD, bytesV]) trivial (fun i hi _ => ?_) (fun _ => ?_)
  · obtain ⟨e1, e2, e3⟩ := row_nums h1 h2 hi h6 h7
    have hs := sub_row hl h1 h2 hi
    have e4 : IntKind.i64.wrap ((t : Int) + i + 1) = (t : Int) + (i + 1) := by rw [wrap_id (by omega) (by omega)]; omega
    have hroom : roomFor ((cutD d W l t w i).length + (cutRow d W l w (t + i)).length) 1 := by
      have k1 := cutD_len d W l t w i
      have k2 := cutRow_len d W l w (t + i)
      have k3 : i * w ≤ 256 * 256 := Nat.mul_le_mul (by omega) (by omega)
      unfold roomFor
      omega
    exact run_ex [] ors_nil (by simp [A.evC, l99_0b, denL, E.den, Pm.ev, eh, hi, e1, e2, e3, hs, bytesV_len, hroom, e4, cutD_succ, bytesV_app])
  · exact run_ex [] ors_nil (by simp [A.evC, l99_0b, denL, E.den, Pm.ev, eh, strBytes_bytesV])

theorem cl99 (p : Pc) (r : Rc4) : Cl 99 [p.v, r.v] (picV (p.cut r)) := by
  refine s99 ?_
  have c0 := cl245 p r
  cases h : p.ok && p.holds r
  · exact run_ex [.cl 245 _ _] (ors_cl c0 ors_nil) (by simp [A.evC, a99, denL, E.den, Pm.ev, ans, Pc.v, Rc4.v, h, Pc.cut, optV, noPic])
  · have hh := Pc.has h
    generalize p.w.toNat = W at hh
    generalize p.h.toNat = H at hh
    generalize r.l.toNat = l at hh
    generalize r.t.toNat = t at hh
    generalize r.w.toNat = w at hh
    generalize r.h.toNat = k at hh
    have hlp := lp99 (b1 := .b true) (b2 := .b false) hh.len hh.lw hh.th hh.W6 hh.H6
    refine run_ex [.cl 245 _ _, .lp l99_0 _ 1 _] (ors_cl c0 (ors_lp hlp ors_nil)) ?_
    simp [A.evC, a99, denL, E.den, Pm.ev, ans, Pc.v, Rc4.v, h, Pc.cut, optV, l99_0, hh.pw, hh.ph, hh.rl, hh.rt, hh.rw, hh.rh]

theorem lp21 {d : List UInt8} {W H l t w h : Nat} {b1 b2 : V} (hl : d.length = W * H) (h1 : l + w ≤ W) (h2 : t + h ≤ H) (h6 : W ≤ 256) (h7 : H ≤ 256) :
    l21_0.wp Cl (fun m vs => m = 1 ∧ vs = [.t [.i w, .i h, .s (cutD d W l t w h)], .b true]) [.t [.i W, .i H, .s d], .t [.i l, .i t, .i w, .i h], b1, b2, .l []] := by
  have eh : IntKind.i64.wrap ((t : Int) + h) = t + h := wrap_id (by omega) (by omega)
  refine lp_for h (fun i => [.i ((t : Int) + i), .l (bytesV (cutD d W l t w i))]) (fun _ => True) (by simp [denL, E.den, cutD, bytesV]) trivial (fun i hi _ => ?_) (fun _ => ?_)
  · obtain ⟨e1, e2, e3⟩ := row_nums h1 h2 hi h6 h7
    have hs := sub_row hl h1 h2 hi
    have e4 : IntKind.i64.wrap ((t : Int) + i + 1) = (t : Int) + (i + 1) := by rw [wrap_id (by omega) (by omega)]; omega
    have hroom : roomFor ((cutD d W l t w i).length + (cutRow d W l w (t + i)).length) 1 := by
      have k1 := cutD_len d W l t w i
      have k2 := cutRow_len d W l w (t + i)
      have k3 : i * w ≤ 256 * 256 := Nat.mul_le_mul (by omega) (by omega)
      unfold roomFor
      omega
    exact run_ex [] ors_nil (by simp [A.evC, l21_0b, denL, E.den, Pm.ev, eh, hi, e1, e2, e3, hs, bytesV_len, hroom, e4, cutD_succ, bytesV_app])
  · exact run_ex [] ors_nil (by simp [A.evC, l21_0b, denL, E.den, Pm.ev, eh, strBytes_bytesV])

theorem cl21 (p : Pc) (r : Rc4) : Cl 21 [p.v, r.v] (picV (p.cut r)) := by
  refine s21 ?_
  have c0 := cl83 p
  cases h0 : p.ok
  · exact run_ex [.cl 83 _ _] (ors_cl c0 ors_nil) (by simp [A.evC, a21, denL, E.den, Pm.ev, ans, Pc.v, Rc4.v, h0, Pc.cut, optV, noPic])
  have hw : within p.w 1 256 = true ∧ within p.h 1 256 = true := by simp only [Pc.ok, Bool.and_eq_true] at h0; exact ⟨h0.1, h0.2.1⟩
  have w1 := w_in.1 hw.1
  have w2 := w_in.1 hw.2
  have c1 := cl90 p r ⟨⟨by omega, by omega⟩, ⟨by omega, by omega⟩⟩
  cases h1 : p.holds r
  · exact run_ex [.cl 83 _ _, .cl 90 _ _] (ors_cl c0 (ors_cl c1 ors_nil)) (by simp [A.evC, a21, denL, E.den, Pm.ev, ans, Pc.v, Rc4.v, h0, h1, Pc.cut, optV, noPic])
  · have hh := Pc.has (p := p) (r := r) (by simp [h0, h1])
    have hr := h1
    generalize p.w.toNat = W at hh
    generalize p.h.toNat = H at hh
    generalize r.l.toNat = l at hh
    generalize r.t.toNat = t at hh
    generalize r.w.toNat = w at hh
    generalize r.h.toNat = k at hh
    have hlp := lp21 (b1 := .b false) (b2 := .i ((w : Int) * k)) hh.len hh.lw hh.th hh.W6 hh.H6
    have hm : w * k ≤ 256 * 256 := Nat.mul_le_mul (by have := hh.lw; have := hh.W6; omega) (by have := hh.th; have := hh.H6; omega)
    have em : IntKind.i64.wrap ((w : Int) * k) = (w : Int) * k := by rw [show (w : Int) * k = ((w * k : Nat) : Int) by simp]; exact wrap_id (by omega) (by omega)
    have hroom : roomFor (w * k) 1 := by unfold roomFor; omega
    have et : ((w : Int) * k).toNat = w * k := by rw [show (w : Int) * k = ((w * k : Nat) : Int) by simp]; exact Int.toNat_natCast (w * k)
    have e0 : (0 : Int) ≤ (w : Int) * k := by rw [show (w : Int) * k = ((w * k : Nat) : Int) by simp]; omega
    refine run_ex [.cl 83 _ _, .cl 90 _ _, .lp l21_0 _ 1 _] (ors_cl c0 (ors_cl c1 (ors_lp hlp ors_nil))) ?_
    simp [A.evC, a21, denL, E.den, Pm.ev, ans, Pc.v, Rc4.v, h0, h1, Pc.cut, optV, l21_0, hh.pw, hh.ph, hh.rl, hh.rt, hh.rw, hh.rh, em, hroom, et, e0]

end Go.Proofs.YteleedlkdadogaaGreat.Fw
