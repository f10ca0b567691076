/- Whether a look is true, whether counts ascend, whether a world is true. -/
import Derived.Test.YteleedlkdadogaaGreatPu5
namespace Go.Proofs.YteleedlkdadogaaGreat.Fw
open Go.RowKit

def Sq.wide (s : Sq) : Int := if s.ok then 8 * s.cols.sum else 0
def Sq.high (s : Sq) : Int := if s.ok then 8 * s.rows.sum else 0

theorem Sq.sums {s : Sq} (h : s.ok = true) : (0 ≤ s.cols.sum ∧ s.cols.sum ≤ 32) ∧ (0 ≤ s.rows.sum ∧ s.rows.sum ≤ 32) ∧ sideSum s.cols = s.cols.sum ∧ sideSum s.rows = s.rows.sum := by
  have r := Sq.right h
  have h1 := sum_bound r.cs
  have h2 := sum_bound r.rs
  have h3 := r.c4
  have h4 := r.r4
  exact ⟨by omega, by omega, by simp [sideSum, sideOk, r.c1, r.c4, r.cs], by simp [sideSum, sideOk, r.r1, r.r4, r.rs]⟩

theorem cl287 (s : Sq) : Cl 287 [s.v] [.i s.wide, .i s.high] := by
  refine s287 ?_
  have c0 := cl138 s
  cases h : s.ok
  · exact run_ex [.cl 138 _ _] (ors_cl c0 ors_nil) (by simp [A.evC, a287, denL, E.den, Pm.ev, ans, Sq.v, Sq.wide, Sq.high, h])
  · obtain ⟨h1, h2, h3, h4⟩ := Sq.sums h
    have c1 := cl322 (l := s.cols)
    have c2 := cl322 (l := s.rows)
    rw [h3] at c1
    rw [h4] at c2
    have e1 : IntKind.i64.wrap (8 * s.cols.sum) = 8 * s.cols.sum := wrap_id (by omega) (by omega)
    have e2 : IntKind.i64.wrap (8 * s.rows.sum) = 8 * s.rows.sum := wrap_id (by omega) (by omega)
    exact run_ex [.cl 138 _ _, .cl 322 _ _, .cl 322 _ _] (ors_cl c0 (ors_cl c1 (ors_cl c2 ors_nil))) (by simp [A.evC, a287, denL, E.den, Pm.ev, ans, Sq.v, Sq.wide, Sq.high, h, e1, e2])

theorem cl289 (s : Sq) : Cl 289 [s.v] [.i s.wide, .i s.high] := by
  refine s289 ?_
  have c0 := cl74 s
  cases h : s.ok
  · exact run_ex [.cl 74 _ _] (ors_cl c0 ors_nil) (by simp [A.evC, a289, denL, E.den, Pm.ev, ans, Sq.v, Sq.wide, Sq.high, h])
  · obtain ⟨h1, h2, h3, h4⟩ := Sq.sums h
    have r := Sq.right h
    have c1 := cl85 r.cs r.c4
    have c2 := cl85 r.rs r.r4
    have e1 : IntKind.i64.wrap (8 * s.cols.sum) = 8 * s.cols.sum := wrap_id (by omega) (by omega)
    have e2 : IntKind.i64.wrap (8 * s.rows.sum) = 8 * s.rows.sum := wrap_id (by omega) (by omega)
    exact run_ex [.cl 74 _ _, .cl 85 _ _, .cl 85 _ _] (ors_cl c0 (ors_cl c1 (ors_cl c2 ors_nil))) (by simp [A.evC, a289, denL, E.den, Pm.ev, ans, Sq.v, Sq.wide, Sq.high, h, e1, e2])

/-- A right picture of a set's size. -/
def Pc.fits (p : Pc) (s : Sq) : Bool := p.ok && ((p.w == s.wide) && (p.h == s.high))

theorem cl139 (p : Pc) (s : Sq) : Cl 139 [p.v, s.v] [.b (p.fits s)] := by
  refine s139 ?_
  have c0 := cl287 s
  have c1 := cl288 p
  cases h : p.ok
  · exact run_ex [.cl 287 _ _, .cl 288 _ _] (ors_cl c0 (ors_cl c1 ors_nil)) (by simp [A.evC, a139, denL, E.den, Pm.ev, ans, Sq.v, Pc.v, Pc.fits, h])
  · cases h1 : p.w == s.wide
    · exact run_ex [.cl 287 _ _, .cl 288 _ _] (ors_cl c0 (ors_cl c1 ors_nil)) (by simp [A.evC, a139, denL, E.den, Pm.ev, ans, Sq.v, Pc.v, Pc.fits, h, h1])
    · exact run_ex [.cl 287 _ _, .cl 288 _ _] (ors_cl c0 (ors_cl c1 ors_nil)) (by simp [A.evC, a139, denL, E.den, Pm.ev, ans, Sq.v, Pc.v, Pc.fits, h, h1])

theorem cl141 (p : Pc) (s : Sq) : Cl 141 [p.v, s.v] [.b (p.fits s)] := by
  refine s141 ?_
  have c0 := cl289 s
  have c1 := cl83 p
  cases h : p.ok
  · exact run_ex [.cl 289 _ _, .cl 83 _ _] (ors_cl c0 (ors_cl c1 ors_nil)) (by simp [A.evC, a141, denL, E.den, Pm.ev, ans, Sq.v, Pc.v, Pc.fits, h])
  · cases h1 : p.w == s.wide
    · exact run_ex [.cl 289 _ _, .cl 83 _ _] (ors_cl c0 (ors_cl c1 ors_nil)) (by simp [A.evC, a141, denL, E.den, Pm.ev, ans, Sq.v, Pc.v, Pc.fits, h, h1])
    · exact run_ex [.cl 289 _ _, .cl 83 _ _] (ors_cl c0 (ors_cl c1 ors_nil)) (by simp [A.evC, a141, denL, E.den, Pm.ev, ans, Sq.v, Pc.v, Pc.fits, h, h1])

/-- What holds of all numbers below n. -/
def allN (n : Nat) (p : Nat → Bool) : Bool := (List.range n).all p

theorem allN_succ (n : Nat) (p : Nat → Bool) : allN (n + 1) p = (allN n p && p n) := by simp [allN, List.range_succ, List.all_append]

theorem allN_false {n i : Nat} {p : Nat → Bool} (hi : i < n) (h : p i = false) : allN n p = false := by
  cases h' : allN n p with
  | false => rfl
  | true =>
    unfold allN at h'
    rw [List.all_eq_true] at h'
    rw [h' i (by simpa using hi)] at h; cases h

def codeAt (l : List Int) (i : Nat) : Int := l.getD i 0
def codesOk (l : List Int) : Bool := allN l.length fun i => codeAt l i == 0

/-- What a look asks behind its codes. -/
def lookRest (l : Lk) (p : Pc) : Bool := l.sq.ok && (p.fits l.sq && ((l.tells.length : Int) == l.sq.tiles))

def lookTrueOf (ls : List Lk) (ss : List St8) (k : Int) (l : Lk) : Bool :=
  codesOk l.codes && (match l.pics with
    | [p] => lookRest l p && allN l.tells.length fun t => tileTrue ls ss k t
    | _ => false)

def lookTrue (ls : List Lk) (ss : List St8) (k : Int) : Bool :=
  if 0 ≤ k ∧ k < ls.length then (match ls[k.toNat]? with
    | some l => lookTrueOf ls ss k l
    | none => false) else false

section
variable {fs : List V} {ls : List Lk} {ss : List St8}

theorem lp39_0 (W : Wd fs ls ss) {k : Int} {l : Lk} (htl : l.tells.length ≤ big) (v2 v4 v5 v6 v7 : V) :
    l39_0.wp Cl (fun m vs => m = 1 ∧ vs = [.b (allN l.tells.length fun t => tileTrue ls ss k t)]) [.t fs, .i k, v2, l.v, v4, v5, v6, v7] := by
  have hall : ∀ (ρ : List V) (n : Nat), ρ[n]? = some (.t fs) → (fieldsE n 0 43).den ρ = some (.t fs) := fun ρ n h => wd_all W.len h
  refine lp_for l.tells.length (fun i => [.i i]) (fun i => allN i (fun t => tileTrue ls ss k t) = true) (by simp [denL, E.den]) (by simp [allN]) (fun i hi hp => ?_) (fun hp => ?_)
  · have e2 : IntKind.i64.wrap ((i : Int) + 1) = (i : Int) + 1 := wrap_id (by omega) (by simp [big] at htl; omega)
    have c1 := cl37 W k i
    cases ht : tileTrue ls ss k i
    · rw [ht] at c1
      have := allN_false (p := fun t : Nat => tileTrue ls ss k t) hi ht
      exact run_ex [.cl 37 _ _] (ors_cl c1 ors_nil) (by simp [A.evC, l39_0b, denL, hall, E.den, Pm.ev, Lk.v, hi, this])
    · rw [ht] at c1
      exact run_ex [.cl 37 _ _] (ors_cl c1 ors_nil) (by simp [A.evC, l39_0b, denL, hall, E.den, Pm.ev, Lk.v, hi, e2, allN_succ, hp, ht])
  · exact run_ex [] ors_nil (by simp [A.evC, l39_0b, denL, E.den, Pm.ev, Lk.v, hp])

theorem lp39_1 (W : Wd fs ls ss) {k : Int} {l : Lk} (hf : l.Fit) (v2 : V) :
    l39_1.wp Cl (fun m vs => m = 1 ∧ vs = [.b (lookTrueOf ls ss k l)]) [.t fs, .i k, v2, l.v] := by
  have hcl := hf.codes.1
  refine lp_for l.codes.length (fun i => [.i i]) (fun i => allN i (fun j => codeAt l.codes j == 0) = true) (by simp [denL, E.den]) (by simp [allN]) (fun i hi hp => ?_) (fun hp => ?_)
  · have e2 : IntKind.i64.wrap ((i : Int) + 1) = (i : Int) + 1 := wrap_id (by omega) (by simp [big] at hcl; omega)
    have hg : codeAt l.codes i = l.codes[i] := by simp [codeAt, hi]
    by_cases hc : l.codes[i] = 0
    · have hz : (codeAt l.codes i == 0) = true := by rw [hg, hc]; rfl
      exact run_ex [] ors_nil (by simp [A.evC, l39_1b, denL, E.den, Pm.ev, Lk.v, ints_len, ints_el, hi, hc, e2, allN_succ, hp, hz])
    · have hb : (l.codes[i] != 0) = true := by simpa using hc
      have hbad : codesOk l.codes = false := allN_false hi (by rw [hg]; simpa using hc)
      exact run_ex [] ors_nil (by simp [A.evC, l39_1b, denL, E.den, Pm.ev, Lk.v, ints_len, ints_el, hi, hb, lookTrueOf, hbad])
  · have hok : codesOk l.codes = true := hp
    match hps : l.pics with
    | [] => exact run_ex [] ors_nil (by simp [A.evC, l39_1b, denL, E.den, Pm.ev, Lk.v, ints_len, hps, lookTrueOf])
    | p :: q :: r =>
      have : ((r.length : Int) + 1 + 1 != 1) = true := by
        have : ¬ ((r.length : Int) + 1 + 1 = 1) := by omega
        simpa using this
      exact run_ex [] ors_nil (by simp [A.evC, l39_1b, denL, E.den, Pm.ev, Lk.v, ints_len, hps, lookTrueOf, this])
    | [p] =>
      have c1 := cl138 l.sq
      cases h1 : l.sq.ok
      · rw [h1] at c1
        exact run_ex [.cl 138 _ _] (ors_cl c1 ors_nil) (by simp [A.evC, l39_1b, denL, E.den, Pm.ev, Lk.v, Sq.v, ints_len, hps, lookTrueOf, lookRest, h1])
      · rw [h1] at c1
        have c2 := cl139 p l.sq
        cases h2 : p.fits l.sq
        · rw [h2] at c2
          exact run_ex [.cl 138 _ _, .cl 139 _ _] (ors_cl c1 (ors_cl c2 ors_nil)) (by simp [A.evC, l39_1b, denL, E.den, Pm.ev, Lk.v, Sq.v, Pc.v, ints_len, hps, lookTrueOf, lookRest, h1, h2])
        · rw [h2] at c2
          have c3 := cl140 l.sq
          by_cases h3 : (l.tells.length : Int) = l.sq.tiles
          · rw [← h3] at c3
            have hlp := lp39_0 W (k := k) (l := l) hf.tells.1 v2 (.i l.codes.length) (.i l.codes.length) (.b false) (.b false)
            refine run_ex [.cl 138 _ _, .cl 139 _ _, .cl 140 _ _, .lp l39_0 _ 1 _] (ors_cl c1 (ors_cl c2 (ors_cl c3 (ors_lp hlp ors_nil)))) ?_
            simp [A.evC, l39_1b, denL, E.den, Pm.ev, Lk.v, Sq.v, Pc.v, ints_len, hps, lookTrueOf, lookRest, h1, h2, ← h3, l39_0, hok]
          · have hb : ((l.tells.length : Int) != l.sq.tiles) = true := by simpa using h3
            have hb2 : ((l.tells.length : Int) == l.sq.tiles) = false := by simpa using h3
            exact run_ex [.cl 138 _ _, .cl 139 _ _, .cl 140 _ _] (ors_cl c1 (ors_cl c2 (ors_cl c3 ors_nil))) (by simp [A.evC, l39_1b, denL, E.den, Pm.ev, Lk.v, Sq.v, Pc.v, ints_len, hps, lookTrueOf, lookRest, h1, h2, hb, hb2])

theorem cl39 (W : Wd fs ls ss) (k : Int) : Cl 39 [.t fs, .i k] [.b (lookTrue ls ss k)] := by
  refine s39 ?_
  have h41 := W.looks
  by_cases h0 : k < 0
  · exact run_ex [] ors_nil (by simp [A.evC, a39, denL, E.den, Pm.ev, ans, h0, lookTrue, show ¬ (0 ≤ k) by omega])
  by_cases h1 : k < ls.length
  · obtain ⟨n, rfl⟩ := Int.eq_ofNat_of_zero_le (show 0 ≤ k by omega)
    have hn : n < ls.length := by omega
    obtain ⟨l, hl⟩ : ∃ l, ls[n]? = some l := ⟨ls[n], List.getElem?_eq_getElem hn⟩
    have hl' := get_el hl
    have hlp := lp39_1 W (k := n) (W.lf l (List.mem_of_getElem? hl)) (.b false)
    have hge : ¬ ls.length ≤ n := by omega
    refine run_ex [.lp l39_1 _ 1 _] (ors_lp hlp ors_nil) ?_
    simp [A.evC, a39, denL, E.den, Pm.ev, ans, h0, h41, hn, hge, hl', l39_1, lookTrue]
  · exact run_ex [] ors_nil (by simp [A.evC, a39, denL, E.den, Pm.ev, ans, h0, h41, show (ls.length : Int) ≤ k by omega, lookTrue, h1])

theorem lp40_0 (W : Wd fs ls ss) {k : Int} {l : Lk} (htl : l.tells.length ≤ big) (v2 v3 v4 v5 v7 v8 v9 v10 : V) :
    l40_0.wp Cl (fun m vs => m = 1 ∧ vs = [.b (allN l.tells.length fun t => tileTrue ls ss k t)]) [.t fs, .i k, v2, v3, v4, v5, l.v, v7, v8, v9, v10, .i l.tells.length] := by
  have hall : ∀ (ρ : List V) (n : Nat), ρ[n]? = some (.t fs) → (fieldsE n 0 43).den ρ = some (.t fs) := fun ρ n h => wd_all W.len h
  refine lp_for l.tells.length (fun i => [.i i]) (fun i => allN i (fun t => tileTrue ls ss k t) = true) (by simp [denL, E.den]) (by simp [allN]) (fun i hi hp => ?_) (fun hp => ?_)
  · have e2 : IntKind.i64.wrap ((i : Int) + 1) = (i : Int) + 1 := wrap_id (by omega) (by simp [big] at htl; omega)
    have c1 := cl38 W k i
    cases ht : tileTrue ls ss k i
    · rw [ht] at c1
      have := allN_false (p := fun t : Nat => tileTrue ls ss k t) hi ht
      exact run_ex [.cl 38 _ _] (ors_cl c1 ors_nil) (by simp [A.evC, l40_0b, denL, hall, E.den, Pm.ev, hi, this])
    · rw [ht] at c1
      exact run_ex [.cl 38 _ _] (ors_cl c1 ors_nil) (by simp [A.evC, l40_0b, denL, hall, E.den, Pm.ev, hi, e2, allN_succ, hp, ht])
  · exact run_ex [] ors_nil (by simp [A.evC, l40_0b, denL, E.den, Pm.ev, hp])

theorem lp40_1 (W : Wd fs ls ss) {k : Int} {l : Lk} (hf : l.Fit) (v2 v3 v4 v5 : V) :
    l40_1.wp Cl (fun m vs => m = 1 ∧ vs = [.b (lookTrueOf ls ss k l)]) [.t fs, .i k, v2, v3, v4, v5, l.v, .i l.codes.length] := by
  have hcl := hf.codes.1
  refine lp_for l.codes.length (fun i => [.i i]) (fun i => allN i (fun j => codeAt l.codes j == 0) = true) (by simp [denL, E.den]) (by simp [allN]) (fun i hi hp => ?_) (fun hp => ?_)
  · have e2 : IntKind.i64.wrap ((i : Int) + 1) = (i : Int) + 1 := wrap_id (by omega) (by simp [big] at hcl; omega)
    have hg : codeAt l.codes i = l.codes[i] := by simp [codeAt, hi]
    by_cases hc : l.codes[i] = 0
    · have hz : (codeAt l.codes i == 0) = true := by rw [hg, hc]; rfl
      exact run_ex [] ors_nil (by simp [A.evC, l40_1b, denL, E.den, Pm.ev, Lk.v, ints_len, ints_el, hi, hc, e2, allN_succ, hp, hz])
    · have hb : (l.codes[i] != 0) = true := by simpa using hc
      have hbad : codesOk l.codes = false := allN_false hi (by rw [hg]; simpa using hc)
      exact run_ex [] ors_nil (by simp [A.evC, l40_1b, denL, E.den, Pm.ev, Lk.v, ints_len, ints_el, hi, hb, lookTrueOf, hbad])
  · have hok : codesOk l.codes = true := hp
    match hps : l.pics with
    | [] => exact run_ex [] ors_nil (by simp [A.evC, l40_1b, denL, E.den, Pm.ev, Lk.v, ints_len, hps, lookTrueOf])
    | p :: q :: r =>
      have : ((r.length : Int) + 1 + 1 != 1) = true := by
        have : ¬ ((r.length : Int) + 1 + 1 = 1) := by omega
        simpa using this
      exact run_ex [] ors_nil (by simp [A.evC, l40_1b, denL, E.den, Pm.ev, Lk.v, ints_len, hps, lookTrueOf, this])
    | [p] =>
      have c1 := cl74 l.sq
      cases h1 : l.sq.ok
      · rw [h1] at c1
        exact run_ex [.cl 74 _ _] (ors_cl c1 ors_nil) (by simp [A.evC, l40_1b, denL, E.den, Pm.ev, Lk.v, Sq.v, ints_len, hps, lookTrueOf, lookRest, h1])
      · rw [h1] at c1
        have c2 := cl141 p l.sq
        cases h2 : p.fits l.sq
        · rw [h2] at c2
          exact run_ex [.cl 74 _ _, .cl 141 _ _] (ors_cl c1 (ors_cl c2 ors_nil)) (by simp [A.evC, l40_1b, denL, E.den, Pm.ev, Lk.v, Sq.v, Pc.v, ints_len, hps, lookTrueOf, lookRest, h1, h2])
        · rw [h2] at c2
          have c3 := cl76 l.sq
          by_cases h3 : (l.tells.length : Int) = l.sq.tiles
          · rw [← h3] at c3
            have hlp := lp40_0 W (k := k) (l := l) hf.tells.1 v2 v3 v4 v5 (.i l.codes.length) (.i l.codes.length) (.b false) (.b false)
            refine run_ex [.cl 74 _ _, .cl 141 _ _, .cl 76 _ _, .lp l40_0 _ 1 _] (ors_cl c1 (ors_cl c2 (ors_cl c3 (ors_lp hlp ors_nil)))) ?_
            simp [A.evC, l40_1b, denL, E.den, Pm.ev, Lk.v, Sq.v, Pc.v, ints_len, hps, lookTrueOf, lookRest, h1, h2, ← h3, l40_0, hok]
          · have hb : ((l.tells.length : Int) != l.sq.tiles) = true := by simpa using h3
            have hb2 : ((l.tells.length : Int) == l.sq.tiles) = false := by simpa using h3
            exact run_ex [.cl 74 _ _, .cl 141 _ _, .cl 76 _ _] (ors_cl c1 (ors_cl c2 (ors_cl c3 ors_nil))) (by simp [A.evC, l40_1b, denL, E.den, Pm.ev, Lk.v, Sq.v, Pc.v, ints_len, hps, lookTrueOf, lookRest, h1, h2, hb, hb2])

theorem cl40 (W : Wd fs ls ss) (k : Int) : Cl 40 [.t fs, .i k] [.b (lookTrue ls ss k)] := by
  refine s40 ?_
  have h41 := W.looks
  have hll := W.ll
  have e0 : IntKind.i64.wrap ((ls.length : Int) - 1) = (ls.length : Int) - 1 := wrap_id (by omega) (by simp [big] at hll; omega)
  have c0 := cl84 k 0 ((ls.length : Int) - 1)
  cases h0 : within k 0 ((ls.length : Int) - 1)
  · have hno : ¬ (0 ≤ k ∧ k < ls.length) := fun h => by rw [w_in.2 ⟨h.1, by omega⟩] at h0; cases h0
    exact run_ex [.cl 84 _ _] (ors_cl c0 ors_nil) (by simp [A.evC, a40, denL, E.den, Pm.ev, ans, h0, h41, e0, lookTrue, hno])
  · have hw := w_in.1 h0
    obtain ⟨n, rfl⟩ := Int.eq_ofNat_of_zero_le hw.1
    have hn : n < ls.length := by omega
    obtain ⟨l, hl⟩ : ∃ l, ls[n]? = some l := ⟨ls[n], List.getElem?_eq_getElem hn⟩
    have hl' := get_el hl
    have hlp := lp40_1 W (k := n) (W.lf l (List.mem_of_getElem? hl)) (.i ls.length) (.i ((ls.length : Int) - 1)) (.b true) (.b false)
    refine run_ex [.cl 84 _ _, .lp l40_1 _ 1 _] (ors_cl c0 (ors_lp hlp ors_nil)) ?_
    simp [A.evC, a40, denL, E.den, Pm.ev, ans, h0, h41, e0, hn, hl', Lk.v, ints_len, l40_1, lookTrue]

end
end Go.Proofs.YteleedlkdadogaaGreat.Fw
