/- Sights, grey pictures, and whether a tile is true. -/
import Derived.Test.YteleedlkdadogaaGreatPu4
namespace Go.Proofs.YteleedlkdadogaaGreat.Fw
open Go.RowKit

def sightOf (ss : List St8) (who count : Int) : Option St8 := ss.find? fun s => decide (s.who = who) && decide (s.count = count)
def noSight : V := .t [.i 0, .i 0, .b false, .i 0, .s [], .i 0, .i 0, .s []]
abbrev sightV (o : Option St8) : List V := optV noSight St8.v o

theorem find_step {ss : List St8} {p : St8 → Bool} {i : Nat} (h : i < ss.length) : (ss.drop i).find? p = if p ss[i] then some ss[i] else (ss.drop (i + 1)).find? p := by
  rw [List.drop_eq_getElem_cons h, List.find?_cons]
  cases p ss[i] <;> rfl

theorem cl133 {fs : List V} {ls : List Lk} {ss : List St8} (W : Wd fs ls ss) (who count : Int) : Cl 133 [.t fs, .i who, .i count] (sightV (sightOf ss who count)) := by
  refine s133 ?_
  have h40 := W.sights
  have hsl := W.sl
  have hloop : l133_0.wp Cl (fun m vs => m = 1 ∧ vs = sightV (sightOf ss who count)) [.t fs, .i who, .i count] := by
    refine lp_for ss.length (fun i => [.i i]) (fun i => sightOf ss who count = (ss.drop i).find? fun s => decide (s.who = who) && decide (s.count = count)) (by simp [denL, E.den]) (by simp [sightOf]) (fun i hi hp => ?_) (fun hp => ?_)
    · have e2 : IntKind.i64.wrap ((i : Int) + 1) = (i : Int) + 1 := wrap_id (by omega) (by simp [big] at hsl; omega)
      rw [find_step hi] at hp
      by_cases h1 : ss[i].who = who
      · by_cases h2 : ss[i].count = count
        · simp only [h1, h2, decide_true, Bool.and_self, if_true] at hp
          exact run_ex [] ors_nil (by simp [A.evC, l133_0b, denL, E.den, Pm.ev, h40, hi, St8.v, h1, h2, hp, optV])
        · have b2 : (ss[i].count == count) = false := by simpa using h2
          simp only [h2, decide_false, Bool.and_false, Bool.false_eq_true, if_false] at hp
          exact run_ex [] ors_nil (by simp [A.evC, l133_0b, denL, E.den, Pm.ev, h40, hi, St8.v, h1, b2, hp, e2])
      · have b1 : (ss[i].who == who) = false := by simpa using h1
        simp only [h1, decide_false, Bool.false_and, Bool.false_eq_true, if_false] at hp
        exact run_ex [] ors_nil (by simp [A.evC, l133_0b, denL, E.den, Pm.ev, h40, hi, St8.v, b1, hp, e2])
    · rw [List.drop_length] at hp
      exact run_ex [] ors_nil (by simp [A.evC, l133_0b, denL, E.den, Pm.ev, h40, hp, optV, noSight])
  exact run_ex [.lp l133_0 _ 1 _] (ors_lp hloop ors_nil) (by simp [A.evC, a133, l133_0, ans])

theorem cl136 {fs : List V} {ls : List Lk} {ss : List St8} (W : Wd fs ls ss) (who count : Int) : Cl 136 [.t fs, .i who, .i count] (sightV (sightOf ss who count)) := by
  refine s136 ?_
  have h40 := W.sights
  have hsl := W.sl
  have hloop : l136_0.wp Cl (fun m vs => m = 1 ∧ vs = sightV (sightOf ss who count)) [.t fs, .i who, .i count, .i ss.length] := by
    refine lp_for ss.length (fun i => [.i i]) (fun i => sightOf ss who count = (ss.drop i).find? fun s => decide (s.who = who) && decide (s.count = count)) (by simp [denL, E.den]) (by simp [sightOf]) (fun i hi hp => ?_) (fun hp => ?_)
    · have e2 : IntKind.i64.wrap ((i : Int) + 1) = (i : Int) + 1 := wrap_id (by omega) (by simp [big] at hsl; omega)
      rw [find_step hi] at hp
      by_cases h1 : ss[i].who = who
      · by_cases h2 : ss[i].count = count
        · simp only [h1, h2, decide_true, Bool.and_self, if_true] at hp
          exact run_ex [] ors_nil (by simp [A.evC, l136_0b, denL, E.den, Pm.ev, h40, hi, St8.v, h1, h2, hp, optV])
        · have b2 : (ss[i].count == count) = false := by simpa using h2
          simp only [h2, decide_false, Bool.and_false, Bool.false_eq_true, if_false] at hp
          exact run_ex [] ors_nil (by simp [A.evC, l136_0b, denL, E.den, Pm.ev, h40, hi, St8.v, h1, b2, hp, e2])
      · have b1 : (ss[i].who == who) = false := by simpa using h1
        simp only [h1, decide_false, Bool.false_and, Bool.false_eq_true, if_false] at hp
        exact run_ex [] ors_nil (by simp [A.evC, l136_0b, denL, E.den, Pm.ev, h40, hi, St8.v, b1, hp, e2])
    · rw [List.drop_length] at hp
      exact run_ex [] ors_nil (by simp [A.evC, l136_0b, denL, E.den, Pm.ev, h40, hp, optV, noSight])
  exact run_ex [.lp l136_0 _ 1 _] (ors_lp hloop ors_nil) (by simp [A.evC, a136, denL, E.den, Pm.ev, h40, l136_0, ans])

theorem strBytes_rep (n : Nat) (x : Int) : strBytes (List.replicate n (.i x)) = some (List.replicate n (UInt8.ofNat x.toNat)) := by
  induction n with
  | zero => rfl
  | succ n ih => simp [List.replicate_succ, strBytes, ih]

theorem rep_get {n i : Nat} {v : V} (h : i < n) : (List.replicate n v)[i]? = some v := by simp [h]

theorem lp285 {n : Nat} {x : Int} (hn : n ≤ 1000000) : l285_0.wp Cl (fun m vs => m = 1 ∧ vs = [.s (List.replicate n (UInt8.ofNat x.toNat))]) [.i n, .i x, .l (List.replicate n (.i 0))] := by
  refine lp_for n (fun i => [.i i, .l (half (List.replicate n (.i x)) (.i 0) i)]) (fun _ => True) (by simp [denL, E.den, half]) trivial (fun i hi _ => ?_) (fun _ => ?_)
  · have e2 : IntKind.i64.wrap ((i : Int) + 1) = (i : Int) + 1 := wrap_id (by omega) (by omega)
    have hlen : (half (List.replicate n (V.i x)) (.i 0) i).length = n := by rw [half_length _ _ (by simp; omega)]; simp
    have hset := half_set (List.replicate n (V.i x)) (.i 0) (rep_get hi)
    exact run_ex [] ors_nil (by simp [A.evC, l285_0b, denL, E.den, Pm.ev, hi, hlen, hset, e2])
  · have hall : half (List.replicate n (V.i x)) (.i 0) n = List.replicate n (V.i x) := by
      have := half_all (List.replicate n (V.i x)) (.i 0)
      rwa [List.length_replicate] at this
    exact run_ex [] ors_nil (by simp [A.evC, l285_0b, denL, E.den, Pm.ev, hall, strBytes_rep])

theorem cl285 {n : Nat} {x : Int} (hn : n ≤ 1000000) : Cl 285 [.i n, .i x] [.s (List.replicate n (UInt8.ofNat x.toNat))] := by
  refine s285 ?_
  have hroom : roomFor n 1 := by unfold roomFor; omega
  exact run_ex [.lp l285_0 _ 1 _] (ors_lp (lp285 (x := x) hn) ors_nil) (by simp [A.evC, a285, denL, E.den, Pm.ev, hroom, l285_0, ans])

def greyD (n : Nat) : List UInt8 := List.replicate n 128

def grey (w h : Int) : Pc := if within w 1 256 && within h 1 256 then ⟨w, h, greyD (w.toNat * h.toNat)⟩ else ⟨0, 0, []⟩

theorem cl135 (w h : Int) : Cl 135 [.i w, .i h] [(grey w h).v] := by
  refine s135 ?_
  have c1 := cl118 w 1 256
  cases h1 : within w 1 256
  · exact run_ex [.cl 118 _ _] (ors_cl c1 ors_nil) (by simp [A.evC, a135, denL, E.den, Pm.ev, ans, grey, h1, Pc.v])
  have c2 := cl118 h 1 256
  cases h2 : within h 1 256
  · exact run_ex [.cl 118 _ _, .cl 118 _ _] (ors_cl c1 (ors_cl c2 ors_nil)) (by simp [A.evC, a135, denL, E.den, Pm.ev, ans, grey, h1, h2, Pc.v])
  have w1 := w_in.1 h1
  have w2 := w_in.1 h2
  obtain ⟨a, rfl⟩ := Int.eq_ofNat_of_zero_le (show 0 ≤ w by omega)
  obtain ⟨b, rfl⟩ := Int.eq_ofNat_of_zero_le (show 0 ≤ h by omega)
  have hm : a * b ≤ 256 * 256 := Nat.mul_le_mul (by omega) (by omega)
  have em : IntKind.i64.wrap ((a : Int) * b) = ((a * b : Nat) : Int) := by rw [show (a : Int) * b = ((a * b : Nat) : Int) by simp]; exact wrap_id (by omega) (by omega)
  have c3 := cl285 (n := a * b) (x := 128) (by omega)
  generalize hab : a * b = n at em c3
  exact run_ex [.cl 118 _ _, .cl 118 _ _, .cl 285 _ _] (ors_cl c1 (ors_cl c2 (ors_cl c3 ors_nil))) (by simp [A.evC, a135, denL, E.den, Pm.ev, ans, grey, h1, h2, Pc.v, em, hab, greyD])

theorem lp137 {n : Nat} {w h b p : V} (hn : n ≤ 1000000) : l137_0.wp Cl (fun m vs => m = 1 ∧ vs = [.t [w, h, .s (greyD n)]]) [w, h, b, p, .l (List.replicate n (.i 0)), .i n] := by
  refine lp_for n (fun i => [.i i, .l (half (List.replicate n (.i 128)) (.i 0) i)]) (fun _ => True) (by simp [denL, E.den, half]) trivial (fun i hi _ => ?_) (fun _ => ?_)
  · have e2 : IntKind.i64.wrap ((i : Int) + 1) = (i : Int) + 1 := wrap_id (by omega) (by omega)
    have hlen : (half (List.replicate n (V.i 128)) (.i 0) i).length = n := by rw [half_length _ _ (by simp; omega)]; simp
    have hset := half_set (List.replicate n (V.i 128)) (.i 0) (rep_get hi)
    exact run_ex [] ors_nil (by simp [A.evC, l137_0b, denL, E.den, Pm.ev, hi, hlen, hset, e2])
  · have hall : half (List.replicate n (V.i 128)) (.i 0) n = List.replicate n (V.i 128) := by
      have := half_all (List.replicate n (V.i 128)) (.i 0)
      rwa [List.length_replicate] at this
    exact run_ex [] ors_nil (by simp [A.evC, l137_0b, denL, E.den, Pm.ev, hall, strBytes_rep, greyD])

theorem cl137 (w h : Int) : Cl 137 [.i w, .i h] [(grey w h).v] := by
  refine s137 ?_
  have c1 := cl84 w 1 256
  cases h1 : within w 1 256
  · exact run_ex [.cl 84 _ _] (ors_cl c1 ors_nil) (by simp [A.evC, a137, denL, E.den, Pm.ev, ans, grey, h1, Pc.v])
  have c2 := cl84 h 1 256
  cases h2 : within h 1 256
  · exact run_ex [.cl 84 _ _, .cl 84 _ _] (ors_cl c1 (ors_cl c2 ors_nil)) (by simp [A.evC, a137, denL, E.den, Pm.ev, ans, grey, h1, h2, Pc.v])
  have w1 := w_in.1 h1
  have w2 := w_in.1 h2
  obtain ⟨a, rfl⟩ := Int.eq_ofNat_of_zero_le (show 0 ≤ w by omega)
  obtain ⟨b, rfl⟩ := Int.eq_ofNat_of_zero_le (show 0 ≤ h by omega)
  have hm : a * b ≤ 256 * 256 := Nat.mul_le_mul (by omega) (by omega)
  have em : IntKind.i64.wrap ((a : Int) * b) = ((a * b : Nat) : Int) := by rw [show (a : Int) * b = ((a * b : Nat) : Int) by simp]; exact wrap_id (by omega) (by omega)
  have c3 := lp137 (n := a * b) (w := .i a) (h := .i b) (b := .b false) (p := .i ((a * b : Nat) : Int)) (by omega)
  generalize hab : a * b = n at em c3
  have hroom : roomFor n 1 := by unfold roomFor; omega
  exact run_ex [.cl 84 _ _, .cl 84 _ _, .lp l137_0 _ 1 _] (ors_cl c1 (ors_cl c2 (ors_lp c3 ors_nil))) (by simp [A.evC, a137, denL, E.den, Pm.ev, ans, grey, h1, h2, Pc.v, em, hab, hroom, l137_0])

def picEq (p q : Pc) : Bool := (p.w == q.w) && ((p.h == q.h) && (p.d == q.d))

theorem cl134 (p q : Pc) : Cl 134 [p.v, q.v] [.b (picEq p q)] := by
  refine s134 ?_
  cases h1 : p.w == q.w
  · exact run_ex [] ors_nil (by simp [A.evC, a134, denL, E.den, Pm.ev, ans, Pc.v, picEq, h1])
  · cases h2 : p.h == q.h
    · exact run_ex [] ors_nil (by simp [A.evC, a134, denL, E.den, Pm.ev, ans, Pc.v, picEq, h1, h2])
    · exact run_ex [] ors_nil (by simp [A.evC, a134, denL, E.den, Pm.ev, ans, Pc.v, picEq, h1, h2])

def tellTrue (ss : List St8) (p : Pc) (t : Tl) : Bool :=
  if t.what = 1 ∨ t.what = 2 then (match sightOf ss t.who t.count with
    | some s => picEq p s.pic
    | none => false) else if t.what = 3 then picEq p (grey p.w p.h) else false

/-- Whether a tile is true. -/
def tileTrue (ls : List Lk) (ss : List St8) (k tile : Int) : Bool :=
  match tileShows ls k tile, ls[k.toNat]? with
  | some p, some l => (match l.tells[tile.toNat]? with
    | some t => tellTrue ss p t
    | none => false)
  | _, _ => false

theorem shows_in {ls : List Lk} {k tile : Int} {q : Pc} (h : tileShows ls k tile = some q) : ∃ (n m : Nat) (l : Lk), k = n ∧ tile = m ∧ n < ls.length ∧ ls[n]? = some l := by
  unfold tileShows at h
  split at h
  · rename_i hk
    split at h
    · rename_i l hl
      split at h
      · cases h
      · split at h
        · rename_i r hr
          unfold Sq.tileRect at hr
          split at hr
          · rename_i ht
            exact ⟨k.toNat, tile.toNat, l, by omega, by omega, by omega, hl⟩
          · cases hr
        · cases h
    · cases h
  · cases h

theorem cl37 {fs : List V} {ls : List Lk} {ss : List St8} (W : Wd fs ls ss) (k tile : Int) : Cl 37 [.t fs, .i k, .i tile] [.b (tileTrue ls ss k tile)] := by
  refine s37 ?_
  have h41 := W.looks
  have hall : ∀ (ρ : List V) (n : Nat), ρ[n]? = some (.t fs) → (fieldsE n 0 43).den ρ = some (.t fs) := fun ρ n h => wd_all W.len h
  have c1 := cl23 W k tile
  cases hs : tileShows ls k tile with
  | none =>
    rw [hs] at c1
    exact run_ex [.cl 23 _ _] (ors_cl c1 ors_nil) (by simp [A.evC, a37, denL, hall, E.den, Pm.ev, ans, optV, tileTrue, hs])
  | some p =>
    rw [hs] at c1
    obtain ⟨n, m, l, rfl, rfl, hn, hl⟩ := shows_in hs
    have hl' := get_el hl
    by_cases hm : m < l.tells.length
    · obtain ⟨t, ht⟩ : ∃ t, l.tells[m]? = some t := ⟨l.tells[m], List.getElem?_eq_getElem hm⟩
      have ht' := get_el ht
      have htt : tileTrue ls ss n m = tellTrue ss p t := by simp [tileTrue, hs, hn, hl', hm, ht']
      rw [htt]
      have hge : ¬ (l.tells.length : Int) ≤ m := by omega
      have c2 := cl133 W t.who t.count
      by_cases w12 : t.what = 1 ∨ t.what = 2
      · have htr : tellTrue ss p t = match sightOf ss t.who t.count with | some s => picEq p s.pic | none => false := by simp only [tellTrue, if_pos w12]
        rw [htr]
        cases hso : sightOf ss t.who t.count with
        | none =>
          rw [hso] at c2
          rcases w12 with w | w <;> exact run_ex [.cl 23 _ _, .cl 133 _ _] (ors_cl c1 (ors_cl c2 ors_nil)) (by simp [A.evC, a37, denL, hall, E.den, Pm.ev, ans, optV, h41, hn, hl', Lk.v, Tl.v, hm, ht', hge, w])
        | some s =>
          rw [hso] at c2
          have c3 := cl134 p s.pic
          rcases w12 with w | w <;> exact run_ex [.cl 23 _ _, .cl 133 _ _, .cl 134 _ _] (ors_cl c1 (ors_cl c2 (ors_cl c3 ors_nil))) (by simp [A.evC, a37, denL, hall, E.den, Pm.ev, ans, optV, h41, hn, hl', Lk.v, Tl.v, hm, ht', hge, w, Pc.v, St8.v])
      · have n1 : (t.what == 1) = false := by simp only [not_or] at w12; simpa using w12.1
        have n2 : (t.what == 2) = false := by simp only [not_or] at w12; simpa using w12.2
        by_cases w3 : t.what = 3
        · have htr : tellTrue ss p t = picEq p (grey p.w p.h) := by simp [tellTrue, w3]
          rw [htr]
          have c3 := cl135 p.w p.h
          have c4 := cl134 p (grey p.w p.h)
          exact run_ex [.cl 23 _ _, .cl 135 _ _, .cl 134 _ _] (ors_cl c1 (ors_cl c3 (ors_cl c4 ors_nil))) (by simp [A.evC, a37, denL, hall, E.den, Pm.ev, ans, optV, h41, hn, hl', Lk.v, Tl.v, hm, ht', hge, w3, Pc.v])
        · have n3 : (t.what == 3) = false := by simpa using w3
          have htr : tellTrue ss p t = false := by simp only [tellTrue, if_neg w12, if_neg w3]
          rw [htr]
          exact run_ex [.cl 23 _ _] (ors_cl c1 ors_nil) (by simp [A.evC, a37, denL, hall, E.den, Pm.ev, ans, optV, h41, hn, hl', Lk.v, Tl.v, hm, ht', hge, n1, n2, n3])
    · have hno : l.tells[m]? = none := List.getElem?_eq_none (by omega)
      have htt : tileTrue ls ss n m = false := by simp [tileTrue, hs, hn, hl', hno]
      rw [htt]
      exact run_ex [.cl 23 _ _] (ors_cl c1 ors_nil) (by simp [A.evC, a37, denL, hall, E.den, Pm.ev, ans, optV, h41, hn, hl', Lk.v, show (l.tells.length : Int) ≤ m by omega])

theorem cl38 {fs : List V} {ls : List Lk} {ss : List St8} (W : Wd fs ls ss) (k tile : Int) : Cl 38 [.t fs, .i k, .i tile] [.b (tileTrue ls ss k tile)] := by
  refine s38 ?_
  have h41 := W.looks
  have hall : ∀ (ρ : List V) (n : Nat), ρ[n]? = some (.t fs) → (fieldsE n 0 43).den ρ = some (.t fs) := fun ρ n h => wd_all W.len h
  have c1 := cl25 W k tile
  cases hs : tileShows ls k tile with
  | none =>
    rw [hs] at c1
    exact run_ex [.cl 25 _ _] (ors_cl c1 ors_nil) (by simp [A.evC, a38, denL, hall, E.den, Pm.ev, ans, optV, tileTrue, hs])
  | some p =>
    rw [hs] at c1
    obtain ⟨n, m, l, rfl, rfl, hn, hl⟩ := shows_in hs
    have hl' := get_el hl
    have hfit := W.lf l (List.mem_of_getElem? hl)
    have htl := hfit.tells.1
    have e0 : IntKind.i64.wrap ((l.tells.length : Int) - 1) = (l.tells.length : Int) - 1 := wrap_id (by omega) (by simp [big] at htl; omega)
    have c0 := cl84 m 0 ((l.tells.length : Int) - 1)
    by_cases hm : m < l.tells.length
    · obtain ⟨t, ht⟩ : ∃ t, l.tells[m]? = some t := ⟨l.tells[m], List.getElem?_eq_getElem hm⟩
      have ht' := get_el ht
      have htt : tileTrue ls ss n m = tellTrue ss p t := by simp [tileTrue, hs, hn, hl', hm, ht']
      rw [htt]
      have hw : within m 0 ((l.tells.length : Int) - 1) = true := w_in.2 ⟨by omega, by omega⟩
      rw [hw] at c0
      have c2 := cl136 W t.who t.count
      by_cases w12 : t.what = 1 ∨ t.what = 2
      · have htr : tellTrue ss p t = match sightOf ss t.who t.count with | some s => picEq p s.pic | none => false := by simp only [tellTrue, if_pos w12]
        rw [htr]
        cases hso : sightOf ss t.who t.count with
        | none =>
          rw [hso] at c2
          rcases w12 with w | w <;> exact run_ex [.cl 25 _ _, .cl 84 _ _, .cl 136 _ _] (ors_cl c1 (ors_cl c0 (ors_cl c2 ors_nil))) (by simp [A.evC, a38, denL, hall, E.den, Pm.ev, ans, optV, h41, hn, hl', Lk.v, Tl.v, hm, ht', e0, w])
        | some s =>
          rw [hso] at c2
          rcases w12 with w | w <;> exact run_ex [.cl 25 _ _, .cl 84 _ _, .cl 136 _ _] (ors_cl c1 (ors_cl c0 (ors_cl c2 ors_nil))) (by simp [A.evC, a38, denL, hall, E.den, Pm.ev, ans, optV, h41, hn, hl', Lk.v, Tl.v, hm, ht', e0, w, Pc.v, St8.v, picEq, eqVs, eqV])
      · have n1 : (t.what == 1) = false := by simp only [not_or] at w12; simpa using w12.1
        have n2 : (t.what == 2) = false := by simp only [not_or] at w12; simpa using w12.2
        by_cases w3 : t.what = 3
        · have htr : tellTrue ss p t = picEq p (grey p.w p.h) := by simp [tellTrue, w3]
          rw [htr]
          have c3 := cl137 p.w p.h
          exact run_ex [.cl 25 _ _, .cl 84 _ _, .cl 137 _ _] (ors_cl c1 (ors_cl c0 (ors_cl c3 ors_nil))) (by simp [A.evC, a38, denL, hall, E.den, Pm.ev, ans, optV, h41, hn, hl', Lk.v, Tl.v, hm, ht', e0, w3, Pc.v, picEq, eqVs, eqV])
        · have n3 : (t.what == 3) = false := by simpa using w3
          have htr : tellTrue ss p t = false := by simp only [tellTrue, if_neg w12, if_neg w3]
          rw [htr]
          exact run_ex [.cl 25 _ _, .cl 84 _ _] (ors_cl c1 (ors_cl c0 ors_nil)) (by simp [A.evC, a38, denL, hall, E.den, Pm.ev, ans, optV, h41, hn, hl', Lk.v, Tl.v, hm, ht', e0, n1, n2, n3])
    · have hno : l.tells[m]? = none := List.getElem?_eq_none (by omega)
      have htt : tileTrue ls ss n m = false := by simp [tileTrue, hs, hn, hl', hno]
      rw [htt]
      have hw : within m 0 ((l.tells.length : Int) - 1) = false := by
        cases h : within m 0 ((l.tells.length : Int) - 1) with
        | false => rfl
        | true => have := w_in.1 h; omega
      rw [hw] at c0
      exact run_ex [.cl 25 _ _, .cl 84 _ _] (ors_cl c1 (ors_cl c0 ors_nil)) (by simp [A.evC, a38, denL, hall, E.den, Pm.ev, ans, optV, h41, hn, hl', Lk.v, e0])

end Go.Proofs.YteleedlkdadogaaGreat.Fw
