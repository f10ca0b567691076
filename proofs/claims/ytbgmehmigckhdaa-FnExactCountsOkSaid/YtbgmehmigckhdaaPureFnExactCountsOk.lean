/- The law FnExactCountsOk: its pure word. -/
import Derived.Test.YtbgmehmigckhdaaHp
import Derived.Test.YtbgmehmigckhdaaFw28
namespace Go.Proofs.Ytbgmehmigckhdaa.fnExactCountsOk
open Go.RowKit Go.Proofs.Ytbgmehmigckhdaa.Fw

def tst (who : Int) (has : Bool) (last : Int) : V → Option (Bool × Int)
  | .t (.i what :: .i w :: .i c :: _) =>
    if w = who then (if what = 1 then (if has = true ∧ c ≤ last then none else some (true, c)) else if what = 2 then (if has = true ∧ c = last then some (has, last) else none) else some (has, last)) else some (has, last)
  | _ => some (has, last)

def tsts (who : Int) : Bool × Int → List V → Option (Bool × Int)
  | st, [] => some st
  | st, x :: xs => (tst who st.1 st.2 x).bind fun st' => tsts who st' xs

def tellsOf : V → List V
  | .t gs => (match gs[4]? with | some (V.l ts) => ts | _ => [])
  | _ => []

def looks (who : Int) : Bool × Int → List V → Option (Bool × Int)
  | st, [] => some st
  | st, x :: xs => (tsts who st (tellsOf x)).bind fun st' => looks who st' xs

structure LookOk (x : V) (gs ts : List V) : Prop where
  eq : x = .t gs
  at4 : gs[4]? = some (.l ts)
  len : ts.length ≤ big
  tells : ∀ y ∈ ts, ∃ (what w c : Int) (r : List V), y = .t (.i what :: .i w :: .i c :: r)

theorem drop_cons {α : Type} {l : List α} {i : Nat} (h : i < l.length) : l.drop i = l[i] :: l.drop (i + 1) := List.drop_eq_getElem_cons h

section
variable {C : Nat → List V → List V → Prop}

theorem a19_ok {fs ls : List V} {who : Int} (h41 : fs[41]? = some (.l ls)) (hlen : ls.length ≤ big) (hok : ∀ x ∈ ls, ∃ gs ts, LookOk x gs ts) :
    a19.wp C (ans [.b (looks who (false, 0) ls).isSome]) [.t fs, .i who] := by
  refine ⟨[.l ls], .i ls.length, by simp [denL, E.den, h41], rfl, ?_⟩
  refine lp_intro (fun k vs => ∃ (i : Nat) (has : Bool) (last : Int), i + k = ls.length ∧ vs = [.b has, .i last, .i (i : Int)] ∧ looks who (has, last) (ls.drop i) = looks who (false, 0) ls) (n := ls.length) (vs := [.b false, .i 0, .i 0]) rfl ⟨0, false, 0, by omega, rfl, rfl⟩ ?_
  rintro k vs ⟨i, has, last, hi, rfl, hfold⟩
  refine ⟨[.i i, .i ls.length], .b (decide ((i : Int) < ls.length)), rfl, rfl, decide ((i : Int) < ls.length), rfl, fun ht => ?_, fun hf => ?_⟩
  · have hlt : i < ls.length := by simpa using ht
    obtain ⟨gs, ts, hl⟩ := hok _ (List.getElem_mem hlt)
    rw [drop_cons hlt] at hfold
    have hte : tellsOf ls[i] = ts := by rw [hl.eq]; simp [tellsOf, hl.at4]
    simp only [looks, hte] at hfold
    refine ⟨[.l ls, .i i], .t gs, by simp [denL, E.den, h41], by simp [Pm.ev, List.getElem?_eq_getElem hlt, hl.eq], [.l ts], .i ts.length, by simp [denL, E.den, hl.at4], rfl, ?_⟩
    refine lp_intro (fun k' vs => ∃ (j : Nat) (has' : Bool) (last' : Int), j + k' = ts.length ∧ vs = [.b has', .i last', .i (j : Int)] ∧ (tsts who (has', last') (ts.drop j)).bind (fun st' => looks who st' (ls.drop (i + 1))) = looks who (false, 0) ls) (n := ts.length) (vs := [.b has, .i last, .i 0]) rfl
      ⟨0, has, last, by omega, rfl, hfold⟩ ?_
    rintro k' vs ⟨j, has', last', hj, rfl, hfold'⟩
    refine ⟨[.i j, .i ts.length], .b (decide ((j : Int) < ts.length)), rfl, rfl, decide ((j : Int) < ts.length), rfl, fun ht' => ?_, fun hf' => ?_⟩
    · have hlt' : j < ts.length := by simpa using ht'
      obtain ⟨what, w, c, r, hy⟩ := hl.tells _ (List.getElem_mem hlt')
      rw [drop_cons hlt'] at hfold'
      simp only [tsts, hy, tst] at hfold'
      have hw1 := i64_nat (n := j + 1) (by have := hl.len; have := big_le; omega)
      have hw1' : IntKind.i64.wrap ((j : Int) + 1) = ((j + 1 : Nat) : Int) := by rw [show ((j : Int) + 1) = ((j + 1 : Nat) : Int) by omega, hw1]
      have hget : ts[j]? = some (.t (.i what :: .i w :: .i c :: r)) := by rw [List.getElem?_eq_getElem hlt', hy]
      suffices H : ∀ Q : Nat → List V → Prop, (∀ (b : Bool) (l : Int), (tsts who (b, l) (ts.drop (j + 1))).bind (fun st' => looks who st' (ls.drop (i + 1))) = looks who (false, 0) ls → Q 3 [.b b, .i l, .i ((j : Int) + 1)]) →
          (none = looks who (false, 0) ls → Q 1 [.b false]) → A.wp C _ Q _ from
        H _ (fun b l h => ⟨k' - 1, by omega, j + 1, b, l, by omega, by simp, h⟩) (fun h => ⟨rfl, by rw [← h]; rfl⟩)
      intro Q hQ3 hQ1
      have h4 := hl.at4
      by_cases e1 : w = who
      · rw [if_pos e1] at hfold'
        by_cases e2 : what = 1
        · rw [if_pos e2] at hfold'
          by_cases e3 : has' = true ∧ c ≤ last'
          · rw [if_pos e3] at hfold'
            obtain ⟨rfl, e3⟩ := e3
            exact ev_wp (by simp [A.ev, denL, E.den, Pm.ev, h4, hget, e1, e2, e3]) (hQ1 hfold')
          · rw [if_neg e3] at hfold'
            cases has' with
            | true =>
              have e3 : ¬ c ≤ last' := fun h => e3 ⟨rfl, h⟩
              exact ev_wp (by simp [A.ev, denL, E.den, Pm.ev, h4, hget, e1, e2, e3, hw1']) (hQ3 _ _ hfold')
            | false => exact ev_wp (by simp [A.ev, denL, E.den, Pm.ev, h4, hget, e1, e2, hw1']) (hQ3 _ _ hfold')
        · rw [if_neg e2] at hfold'
          by_cases e2' : what = 2
          · rw [if_pos e2'] at hfold'
            by_cases e3 : has' = true ∧ c = last'
            · rw [if_pos e3] at hfold'
              obtain ⟨rfl, e3⟩ := e3
              exact ev_wp (by simp [A.ev, denL, E.den, Pm.ev, h4, hget, e1, e2', e3, hw1']) (hQ3 _ _ hfold')
            · rw [if_neg e3] at hfold'
              cases has' with
              | true =>
                have e3 : (c != last') = true := by simpa using fun h => e3 ⟨rfl, h⟩
                exact ev_wp (by simp [A.ev, denL, E.den, Pm.ev, h4, hget, e1, e2', e3]) (hQ1 hfold')
              | false => exact ev_wp (by simp [A.ev, denL, E.den, Pm.ev, h4, hget, e1, e2']) (hQ1 hfold')
          · rw [if_neg e2'] at hfold'
            have e2 : (what == 1) = false := by simpa using e2
            have e2' : (what == 2) = false := by simpa using e2'
            exact ev_wp (by simp [A.ev, denL, E.den, Pm.ev, h4, hget, e1, e2, e2', hw1']) (hQ3 _ _ hfold')
      · rw [if_neg e1] at hfold'
        have e1 : (w != who) = true := by simpa using e1
        exact ev_wp (by simp [A.ev, denL, E.den, Pm.ev, h4, hget, e1, hw1']) (hQ3 _ _ hfold')
    · have hge : j = ts.length := by simp at hf'; omega
      subst hge
      simp [tsts] at hfold'
      have hw1 := i64_nat (n := i + 1) (by have := big_le; omega)
      refine ⟨[.i i, .i 1], .i (i + 1 : Nat), rfl, ?_, [.b has', .i last', .i (i + 1 : Nat)], rfl, ?_⟩
      · simp only [Pm.ev]
        rw [show ((i : Int) + 1) = ((i + 1 : Nat) : Int) by omega, hw1]
      · show (if (2 : Nat) = 3 then _ else (if (2 : Nat) = 2 then _ else _))
        rw [if_neg (by decide), if_pos rfl]
        exact ⟨k - 1, by omega, i + 1, has', last', by omega, rfl, hfold'⟩
  · have hge : ls.length ≤ i := by simpa using hf
    rw [List.drop_of_length_le hge] at hfold
    refine ⟨[.b true], rfl, ?_⟩
    show (if (1 : Nat) = 2 then _ else _)
    rw [if_neg (by decide)]
    exact ⟨rfl, by rw [← hfold]; rfl⟩

theorem a17_ok {fs ls : List V} {who : Int} (h41 : fs[41]? = some (.l ls)) (hlen : ls.length ≤ big) (hok : ∀ x ∈ ls, ∃ gs ts, LookOk x gs ts) :
    a17.wp C (ans [.b (looks who (false, 0) ls).isSome]) [.t fs, .i who] := by
  refine lp_intro (fun k vs => ∃ (i : Nat) (has : Bool) (last : Int), i + k = ls.length ∧ vs = [.i last, .b has, .i (i : Int)] ∧ looks who (has, last) (ls.drop i) = looks who (false, 0) ls) (n := ls.length) (vs := [.i 0, .b false, .i 0]) rfl ⟨0, false, 0, by omega, rfl, rfl⟩ ?_
  rintro k vs ⟨i, has, last, hi, rfl, hfold⟩
  refine ⟨[.l ls], .i ls.length, by simp [denL, E.den, h41], rfl, [.i i, .i ls.length], .b (decide ((i : Int) < ls.length)), rfl, rfl, decide ((i : Int) < ls.length), rfl, fun ht => ?_, fun hf => ?_⟩
  · have hlt : i < ls.length := by simpa using ht
    obtain ⟨gs, ts, hl⟩ := hok _ (List.getElem_mem hlt)
    rw [drop_cons hlt] at hfold
    have hte : tellsOf ls[i] = ts := by rw [hl.eq]; simp [tellsOf, hl.at4]
    simp only [looks, hte] at hfold
    have hgi : ls[i]? = some (.t gs) := by rw [List.getElem?_eq_getElem hlt, hl.eq]
    refine lp_intro (fun k' vs => ∃ (j : Nat) (has' : Bool) (last' : Int), j + k' = ts.length ∧ vs = [.i last', .b has', .i (j : Int)] ∧ (tsts who (has', last') (ts.drop j)).bind (fun st' => looks who st' (ls.drop (i + 1))) = looks who (false, 0) ls) (n := ts.length) (vs := [.i last, .b has, .i 0]) rfl
      ⟨0, has, last, by omega, rfl, hfold⟩ ?_
    rintro k' vs ⟨j, has', last', hj, rfl, hfold'⟩
    refine ⟨[.l ls, .i i], .t gs, by simp [denL, E.den, h41], by simp [Pm.ev, hgi], [.l ts], .i ts.length, by simp [denL, E.den, hl.at4], rfl, [.i j, .i ts.length], .b (decide ((j : Int) < ts.length)), rfl, rfl, decide ((j : Int) < ts.length), rfl, fun ht' => ?_, fun hf' => ?_⟩
    · have hlt' : j < ts.length := by simpa using ht'
      obtain ⟨what, w, c, r, hy⟩ := hl.tells _ (List.getElem_mem hlt')
      rw [drop_cons hlt'] at hfold'
      simp only [tsts, hy, tst] at hfold'
      have hw1 := i64_nat (n := j + 1) (by have := hl.len; have := big_le; omega)
      have hw1' : IntKind.i64.wrap ((j : Int) + 1) = ((j + 1 : Nat) : Int) := by rw [show ((j : Int) + 1) = ((j + 1 : Nat) : Int) by omega, hw1]
      have hget : ts[j]? = some (.t (.i what :: .i w :: .i c :: r)) := by rw [List.getElem?_eq_getElem hlt', hy]
      suffices H : ∀ Q : Nat → List V → Prop, (∀ (b : Bool) (l : Int), (tsts who (b, l) (ts.drop (j + 1))).bind (fun st' => looks who st' (ls.drop (i + 1))) = looks who (false, 0) ls → Q 3 [.i l, .b b, .i ((j : Int) + 1)]) →
          (none = looks who (false, 0) ls → Q 1 [.b false]) → A.wp C _ Q _ from
        H _ (fun b l h => ⟨k' - 1, by omega, j + 1, b, l, by omega, by simp, h⟩) (fun h => ⟨rfl, by rw [← h]; rfl⟩)
      intro Q hQ3 hQ1
      have h4 := hl.at4
      by_cases e1 : w = who
      · rw [if_pos e1] at hfold'
        by_cases e2 : what = 1
        · rw [if_pos e2] at hfold'
          by_cases e3 : has' = true ∧ c ≤ last'
          · rw [if_pos e3] at hfold'
            obtain ⟨rfl, e3⟩ := e3
            exact ev_wp (by simp [A.ev, denL, E.den, Pm.ev, h41, hgi, h4, hget, e1, e2, e3]) (hQ1 hfold')
          · rw [if_neg e3] at hfold'
            cases has' with
            | true =>
              have e3 : ¬ c ≤ last' := fun h => e3 ⟨rfl, h⟩
              exact ev_wp (by simp [A.ev, denL, E.den, Pm.ev, h41, hgi, h4, hget, e1, e2, e3, hw1']) (hQ3 _ _ hfold')
            | false => exact ev_wp (by simp [A.ev, denL, E.den, Pm.ev, h41, hgi, h4, hget, e1, e2, hw1']) (hQ3 _ _ hfold')
        · rw [if_neg e2] at hfold'
          by_cases e2' : what = 2
          · rw [if_pos e2'] at hfold'
            by_cases e3 : has' = true ∧ c = last'
            · rw [if_pos e3] at hfold'
              obtain ⟨rfl, e3⟩ := e3
              exact ev_wp (by simp [A.ev, denL, E.den, Pm.ev, h41, hgi, h4, hget, e1, e2', e3, hw1']) (hQ3 _ _ hfold')
            · rw [if_neg e3] at hfold'
              cases has' with
              | true =>
                have e3 : (c != last') = true := by simpa using fun h => e3 ⟨rfl, h⟩
                exact ev_wp (by simp [A.ev, denL, E.den, Pm.ev, h41, hgi, h4, hget, e1, e2', e3]) (hQ1 hfold')
              | false => exact ev_wp (by simp [A.ev, denL, E.den, Pm.ev, h41, hgi, h4, hget, e1, e2']) (hQ1 hfold')
          · rw [if_neg e2'] at hfold'
            have e2 : (what == 1) = false := by simpa using e2
            have e2' : (what == 2) = false := by simpa using e2'
            exact ev_wp (by simp [A.ev, denL, E.den, Pm.ev, h41, hgi, h4, hget, e1, e2, e2', hw1']) (hQ3 _ _ hfold')
      · rw [if_neg e1] at hfold'
        have e1 : (w != who) = true := by simpa using e1
        exact ev_wp (by simp [A.ev, denL, E.den, Pm.ev, h41, hgi, h4, hget, e1, hw1']) (hQ3 _ _ hfold')
    · have hge : j = ts.length := by simp at hf'; omega
      subst hge
      simp [tsts] at hfold'
      have hw1 := i64_nat (n := i + 1) (by have := big_le; omega)
      refine ⟨[.i i, .i 1], .i (i + 1 : Nat), rfl, ?_, [.i last', .b has', .i (i + 1 : Nat)], rfl, ?_⟩
      · simp only [Pm.ev]
        rw [show ((i : Int) + 1) = ((i + 1 : Nat) : Int) by omega, hw1]
      · show (if (2 : Nat) = 3 then _ else (if (2 : Nat) = 2 then _ else _))
        rw [if_neg (by decide), if_pos rfl]
        exact ⟨k - 1, by omega, i + 1, has', last', by omega, rfl, hfold'⟩
  · have hge : ls.length ≤ i := by simpa using hf
    rw [List.drop_of_length_le hge] at hfold
    refine ⟨[.b true], rfl, ?_⟩
    show (if (1 : Nat) = 2 then _ else _)
    rw [if_neg (by decide)]
    exact ⟨rfl, by rw [← hfold]; rfl⟩

end

def law4 : A :=
  .cl 16 [etaE 0 z58, .ki 1048576] 1 <| .pm .lt [.v 2, .ki 0] <| .ite (.v 3) (.out 1 [.kb true]) <|
  .cl 18 [etaE 0 z58] 1 <| .cl 17 [etaE 4 z71, .v 1] 1 <| .cl 18 [etaE 0 z58] 1 <| .cl 19 [etaE 6 z71, .v 1] 1 <|
  .pm .bne [.v 7, .v 5] <| .ite (.v 8) (.out 1 [.kb false]) <|
  .cl 18 [etaE 0 z58] 1 <| .cl 20 [etaE 6 z71, etaE 9 z71] 1 <| .pm .not [.v 10] <| .ite (.v 11) (.out 1 [.kb false]) <| .out 1 [.kb true]

theorem e4 : a4 = law4 := by kernel_rfl

theorem l41 : z71.leaf 41 = some (.sl z98 98) := by kernel_rfl
theorem l4 : z98.leaf 4 = some (.sl z100 100) := by kernel_rfl
theorem st98 : z98.isSt = true := by kernel_rfl
theorem ch98 : z98.chain = true := by kernel_rfl
theorem tell_ok {y : V} (h : Bd z100 y) : ∃ (what w c : Int) (r : List V), y = .t (.i what :: .i w :: .i c :: r) := by
  unfold z100 at h
  obtain ⟨_, _, rfl, ⟨what, rfl, _⟩, _, _, e1, ⟨w, rfl, _⟩, _, _, e2, ⟨c, rfl, _⟩, _⟩ := h
  cases e1
  cases e2
  exact ⟨what, w, c, _, rfl⟩

set_option maxRecDepth 100000 in
theorem world_looks {fs : List V} (h : Bd z71 (.t fs)) : ∃ ls, fs[41]? = some (.l ls) ∧ ls.length ≤ big ∧ ∀ x ∈ ls, ∃ gs ts, LookOk x gs ts := by
  obtain ⟨v, h1, ls, rfl, h2, h3⟩ := h.at l41
  refine ⟨ls, h1, h2, fun x hx => ?_⟩
  have hb := h3 x hx
  obtain ⟨gs, rfl, _⟩ := hb.wt.len st98 ch98
  obtain ⟨v', h4, ts, rfl, h5, h6⟩ := hb.at l4
  exact ⟨gs, ts, rfl, h4, h5, fun y hy => tell_ok (h6 y hy)⟩

theorem wt2 {a b : Sh} {us : List V} (h : WtAll [a, b] us) : ∃ w n, us = [w, n] ∧ Wt a w ∧ Wt b n := by
  match us, h with
  | [w, n], ⟨h1, h2, _⟩ => exact ⟨w, n, rfl, h1, h2⟩
theorem wt_int {v : V} (h : Wt z3 v) : ∃ n, v = .i n := by
  obtain ⟨n, h, _⟩ := h
  exact ⟨n, h⟩

set_option maxRecDepth 100000 in
theorem law : ∀ us, WtAll [z58, z3] us → SoundAt Try.prog 4 [z58, z3] [.bool] us [.b true] := by
  intro us hus
  obtain ⟨w, n, rfl, hw, hn⟩ := wt2 hus
  obtain ⟨who, rfl⟩ := wt_int hn
  refine compF_sound tabOk mixed Try.func4 c4 ?_
  show a4.wp Cl (ans [.b true]) [w, .i who]
  rw [e4]
  have hch : z58.isSt = true → z58.chain = true := fun _ => rfl
  have hch' : z71.isSt = true → z71.chain = true := fun _ => rfl
  obtain ⟨r, hr, h1, h2, h3⟩ := sz16 w 1048576 hw (by decide) (by decide)
  have eta0 : ∀ (n : Nat) (ρ : List V), ρ[n]? = some w → (etaE n z58).den ρ = some w := fun n ρ h => etaE_den hch hw h
  refine ⟨[w, .i 1048576], [.i r], ?_, hr, rfl, [.i r, .i 0], .b (decide (r < 0)), rfl, rfl, decide (r < 0), rfl, fun _ => ⟨[.b true], rfl, rfl, rfl⟩, fun hge => ?_⟩
  · simp only [denL]
    rw [eta0 _ _ rfl]
    rfl
  · have hb : Bd z58 w := h3 (by simpa using hge)
    have hb' : Bd z71 w := hb.like rfl
    have hto := to18 w hb
    have heq := eq20 w hb'
    have eta1 : ∀ (n : Nat) (ρ : List V), ρ[n]? = some w → (etaE n z71).den ρ = some w := fun n ρ h => etaE_den hch' hb'.wt h
    obtain ⟨fs, rfl, _⟩ := hw.len rfl rfl
    obtain ⟨ls, k1, k2, k3⟩ := world_looks hb'
    have r17 := s17 (a17_ok (C := Cl) (who := who) k1 k2 k3)
    have r19 := s19 (a19_ok (C := Cl) (who := who) k1 k2 k3)
    generalize hR : (looks who (false, 0) ls).isSome = R at r17 r19
    refine ⟨[.t fs], [.t fs], ?_, hto, rfl, [.t fs, .i who], [.b R], ?_, r17, rfl, [.t fs], [.t fs], ?_, hto, rfl, [.t fs, .i who], [.b R], ?_, r19, rfl, [.b R, .b R], .b false, rfl, by simp [Pm.ev], false, rfl, (fun h => nomatch h), fun _ =>
      ⟨[.t fs], [.t fs], ?_, hto, rfl, [.t fs, .t fs], [.b true], ?_, heq, rfl, [.b true], .b false, rfl, rfl, false, rfl, (fun h => nomatch h), fun _ => ⟨[.b true], rfl, rfl, rfl⟩⟩⟩
    · simp only [denL]; rw [eta0 _ _ rfl]
    · simp only [denL]; rw [eta1 _ _ rfl]; rfl
    · simp only [denL]; rw [eta0 _ _ rfl]
    · simp only [denL]; rw [eta1 _ _ rfl]; rfl
    · simp only [denL]; rw [eta0 _ _ rfl]
    · simp only [denL]; rw [eta1 _ _ rfl, eta1 _ _ rfl]

end Go.Proofs.Ytbgmehmigckhdaa.fnExactCountsOk
