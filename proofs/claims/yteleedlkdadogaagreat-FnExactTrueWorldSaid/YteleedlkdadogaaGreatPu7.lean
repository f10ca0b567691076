/- Whether counts ascend, whether a world is true. -/
import Derived.Test.YteleedlkdadogaaGreatPu6
namespace Go.Proofs.YteleedlkdadogaaGreat.Fw
open Go.RowKit

/-- A loop that is gone through N times, with what holds on the way; it may end on the way. -/
theorem lp_rel {C : Nat → List V → List V → Prop} {m : Nat} {init : List E} {body : A} {Q : Nat → List V → Prop} {ρ : List V} (N : Nat) (P : Nat → List V → Prop) (h0 : ∃ vs, denL ρ init = some vs ∧ P 0 vs)
    (step : ∀ i, i < N → ∀ vs, P i vs → body.wp C (fun m' vs' => if m' = m then P (i + 1) vs' else Q m' vs') (ρ ++ vs))
    (fin : ∀ vs, P N vs → body.wp C (fun m' vs' => if m' = m then False else Q m' vs') (ρ ++ vs)) : (A.lp m init body).wp C Q ρ := by
  obtain ⟨vs0, h0, p0⟩ := h0
  refine ⟨vs0, h0, N + 1, ?_⟩
  have : ∀ k i vs, i + k = N → P i vs → loopN (fun vs' R => body.wp C R (ρ ++ vs')) m Q (k + 1) vs := by
    intro k
    induction k with
    | zero =>
      intro i vs hi hp
      rw [Nat.add_zero] at hi
      subst hi
      exact A.wp_mono _ (fun m' vs h => by
        split at h
        · exact h.elim
        · rename_i e; rw [if_neg e]; exact h) (fin vs hp)
    | succ k ih =>
      intro i vs hi hp
      exact A.wp_mono _ (fun m' vs' h => by
        split at h
        · rename_i e
          rw [if_pos e]
          exact ih (i + 1) vs' (by omega) h
        · rename_i e; rw [if_neg e]; exact h) (step i (by omega) vs hp)
  exact this N 0 vs0 (by omega) p0

abbrev Cs := Bool × Int

def tellStep (who : Int) (st : Cs) (t : Tl) : Option Cs :=
  if t.who = who then (if t.what = 1 then (if st.1 = true ∧ t.count ≤ st.2 then none else some (true, t.count))
    else if t.what = 2 then (if st.1 = true ∧ t.count = st.2 then some st else none) else some st) else some st

def tellsRun (who : Int) : Cs → List Tl → Option Cs
  | st, [] => some st
  | st, t :: ts => (tellStep who st t).bind fun st => tellsRun who st ts

def looksRun (who : Int) : Cs → List Lk → Option Cs
  | st, [] => some st
  | st, l :: ls => (tellsRun who st l.tells).bind fun st => looksRun who st ls

def countsOk (ls : List Lk) (who : Int) : Bool := (looksRun who (false, 0) ls).isSome

theorem run_drop {who : Int} {ts : List Tl} {i : Nat} (st : Cs) (h : i < ts.length) : tellsRun who st (ts.drop i) = (tellStep who st ts[i]).bind fun st => tellsRun who st (ts.drop (i + 1)) := by
  rw [List.drop_eq_getElem_cons h]; rfl

theorem runs_drop {who : Int} {ls : List Lk} {i : Nat} (st : Cs) (h : i < ls.length) : looksRun who st (ls.drop i) = (tellsRun who st ls[i].tells).bind fun st => looksRun who st (ls.drop (i + 1)) := by
  rw [List.drop_eq_getElem_cons h]; rfl

section
variable {fs : List V} {ls : List Lk} {ss : List St8}

/-- What the loop over a look's tells ends with. -/
def tellsEnd (R : Option Cs) (nx : Int) (f : Cs → Int → List V) (m : Nat) (vs : List V) : Prop :=
  match R with
  | some st => m = 2 ∧ vs = f st nx
  | none => m = 1 ∧ vs = [.b false]

theorem lp150_0 (W : Wd fs ls ss) {who : Int} {k : Nat} (hk : k < ls.length) (st0 : Cs) (v5 v6 : V) :
    l150_0.wp Cl (tellsEnd (tellsRun who st0 ls[k].tells) ((k : Int) + 1) fun st nx => [.i st.2, .b st.1, .i nx]) [.t fs, .i who, .i st0.2, .b st0.1, .i k, v5, v6] := by
  have h41 := W.looks
  have hll := W.ll
  have htl := (W.lf _ (List.getElem_mem hk)).tells.1
  refine lp_rel ls[k].tells.length (fun i vs => ∃ st : Cs, vs = [.i st.2, .b st.1, .i i] ∧ tellsRun who st (ls[k].tells.drop i) = tellsRun who st0 ls[k].tells) ⟨_, by simp [denL, E.den], st0, rfl, rfl⟩ (fun i hi vs hp => ?_) (fun vs hp => ?_)
  · obtain ⟨⟨has, last⟩, rfl, hp⟩ := hp
    rw [run_drop _ hi] at hp
    generalize hR : tellsRun who st0 ls[k].tells = R at hp
    have e2 : IntKind.i64.wrap ((i : Int) + 1) = (i : Int) + 1 := wrap_id (by omega) (by simp [big] at htl; omega)
    generalize ht : ls[k].tells[i] = t at hp
    unfold tellStep at hp
    by_cases e1 : t.who = who
    · by_cases w1 : t.what = 1
      · cases has with
        | true =>
          by_cases c1 : t.count ≤ last
          · simp only [e1, w1, c1, if_true, and_self, Option.bind_none] at hp
            exact run_ex [] ors_nil (by simp [A.evC, l150_0b, denL, E.den, Pm.ev, h41, hk, Lk.v, Tl.v, hi, ht, e1, w1, c1, tellsEnd, ← hp])
          · simp only [e1, w1, c1, if_true, and_false, if_false, Option.bind_some] at hp
            exact run_ex [] ors_nil (by simp [A.evC, l150_0b, denL, E.den, Pm.ev, h41, hk, Lk.v, Tl.v, hi, ht, e1, w1, c1, e2, hp])
        | false =>
          simp only [e1, w1, if_true, Bool.false_eq_true, false_and, if_false, Option.bind_some] at hp
          exact run_ex [] ors_nil (by simp [A.evC, l150_0b, denL, E.den, Pm.ev, h41, hk, Lk.v, Tl.v, hi, ht, e1, w1, e2, hp])
      · have n1 : (t.what == 1) = false := by simpa using w1
        by_cases w2 : t.what = 2
        · cases has with
          | true =>
            by_cases c1 : t.count = last
            · simp only [e1, w1, w2, c1, if_true, if_false, and_self, Option.bind_some, show ¬ ((2 : Int) = 1) by omega] at hp
              exact run_ex [] ors_nil (by simp [A.evC, l150_0b, denL, E.den, Pm.ev, h41, hk, Lk.v, Tl.v, hi, ht, e1, w2, c1, e2, hp])
            · have n3 : (t.count != last) = true := by simpa using c1
              simp only [e1, w1, w2, c1, if_true, and_false, if_false, Option.bind_none, show ¬ ((2 : Int) = 1) by omega] at hp
              exact run_ex [] ors_nil (by simp [A.evC, l150_0b, denL, E.den, Pm.ev, h41, hk, Lk.v, Tl.v, hi, ht, e1, w2, n3, tellsEnd, ← hp])
          | false =>
            simp only [e1, w1, w2, if_true, Bool.false_eq_true, false_and, if_false, Option.bind_none, show ¬ ((2 : Int) = 1) by omega] at hp
            exact run_ex [] ors_nil (by simp [A.evC, l150_0b, denL, E.den, Pm.ev, h41, hk, Lk.v, Tl.v, hi, ht, e1, w2, tellsEnd, ← hp])
        · have n2 : (t.what == 2) = false := by simpa using w2
          simp only [e1, w1, w2, if_true, if_false, Option.bind_some] at hp
          cases has <;> exact run_ex [] ors_nil (by simp [A.evC, l150_0b, denL, E.den, Pm.ev, h41, hk, Lk.v, Tl.v, hi, ht, e1, n1, n2, e2, hp])
    · have n1 : (t.who != who) = true := by simpa using e1
      simp only [e1, if_false, Option.bind_some] at hp
      cases has <;> exact run_ex [] ors_nil (by simp [A.evC, l150_0b, denL, E.den, Pm.ev, h41, hk, Lk.v, Tl.v, hi, ht, n1, e2, hp])
  · obtain ⟨st, rfl, hp⟩ := hp
    rw [List.drop_length] at hp
    have e2 : IntKind.i64.wrap ((k : Int) + 1) = (k : Int) + 1 := wrap_id (by omega) (by simp [big] at hll; omega)
    exact run_ex [] ors_nil (by simp [A.evC, l150_0b, denL, E.den, Pm.ev, h41, hk, Lk.v, e2, tellsEnd, ← hp, tellsRun])

theorem cl150 (W : Wd fs ls ss) (who : Int) : Cl 150 [.t fs, .i who] [.b (countsOk ls who)] := by
  refine s150 ?_
  have h41 := W.looks
  have hloop : l150_1.wp Cl (fun m vs => m = 1 ∧ vs = [.b (countsOk ls who)]) [.t fs, .i who] := by
    refine lp_rel ls.length (fun i vs => ∃ st : Cs, vs = [.i st.2, .b st.1, .i i] ∧ looksRun who st (ls.drop i) = looksRun who (false, 0) ls) ⟨_, by simp [denL, E.den], (false, 0), rfl, rfl⟩ (fun i hi vs hp => ?_) (fun vs hp => ?_)
    · obtain ⟨st, rfl, hp⟩ := hp
      rw [runs_drop _ hi] at hp
      have hlp := lp150_0 W (who := who) hi st (.i ls.length) (.b true)
      cases hr : tellsRun who st ls[i].tells with
      | none =>
        rw [hr] at hp hlp
        exact run_ex [.lp l150_0 _ 1 _] (ors_lp hlp ors_nil) (by simp [A.evC, l150_1b, denL, E.den, Pm.ev, h41, hi, l150_0, countsOk, ← hp])
      | some st' =>
        rw [hr] at hp hlp
        obtain ⟨h', l'⟩ := st'
        simp only [Option.bind_some] at hp
        cases h' <;> exact run_ex [.lp l150_0 _ 2 _] (ors_lp hlp ors_nil) (by simp [A.evC, l150_1b, denL, E.den, Pm.ev, h41, hi, l150_0, hp])
    · obtain ⟨st, rfl, hp⟩ := hp
      rw [List.drop_length] at hp
      exact run_ex [] ors_nil (by simp [A.evC, l150_1b, denL, E.den, Pm.ev, h41, countsOk, ← hp, looksRun])
  exact run_ex [.lp l150_1 _ 1 _] (ors_lp hloop ors_nil) (by simp [A.evC, a150, l150_1, ans])

theorem lp151_0 (W : Wd fs ls ss) {who : Int} {k : Nat} (hk : k < ls.length) (st0 : Cs) (v2 v6 : V) :
    l151_0.wp Cl (tellsEnd (tellsRun who st0 ls[k].tells) ((k : Int) + 1) fun st nx => [.b st.1, .i st.2, .i nx]) [.t fs, .i who, v2, .b st0.1, .i st0.2, .i k, v6, ls[k].v, .i ls[k].tells.length] := by
  have hll := W.ll
  have htl := (W.lf _ (List.getElem_mem hk)).tells.1
  refine lp_rel ls[k].tells.length (fun i vs => ∃ st : Cs, vs = [.b st.1, .i st.2, .i i] ∧ tellsRun who st (ls[k].tells.drop i) = tellsRun who st0 ls[k].tells) ⟨_, by simp [denL, E.den], st0, rfl, rfl⟩ (fun i hi vs hp => ?_) (fun vs hp => ?_)
  · obtain ⟨⟨has, last⟩, rfl, hp⟩ := hp
    rw [run_drop _ hi] at hp
    generalize hR : tellsRun who st0 ls[k].tells = R at hp
    have e2 : IntKind.i64.wrap ((i : Int) + 1) = (i : Int) + 1 := wrap_id (by omega) (by simp [big] at htl; omega)
    generalize ht : ls[k].tells[i] = t at hp
    unfold tellStep at hp
    by_cases e1 : t.who = who
    · by_cases w1 : t.what = 1
      · cases has with
        | true =>
          by_cases c1 : t.count ≤ last
          · simp only [e1, w1, c1, if_true, and_self, Option.bind_none] at hp
            exact run_ex [] ors_nil (by simp [A.evC, l151_0b, denL, E.den, Pm.ev, Lk.v, Tl.v, hi, ht, e1, w1, c1, tellsEnd, ← hp])
          · simp only [e1, w1, c1, if_true, and_false, if_false, Option.bind_some] at hp
            exact run_ex [] ors_nil (by simp [A.evC, l151_0b, denL, E.den, Pm.ev, Lk.v, Tl.v, hi, ht, e1, w1, c1, e2, hp])
        | false =>
          simp only [e1, w1, if_true, Bool.false_eq_true, false_and, if_false, Option.bind_some] at hp
          exact run_ex [] ors_nil (by simp [A.evC, l151_0b, denL, E.den, Pm.ev, Lk.v, Tl.v, hi, ht, e1, w1, e2, hp])
      · have n1 : (t.what == 1) = false := by simpa using w1
        by_cases w2 : t.what = 2
        · cases has with
          | true =>
            by_cases c1 : t.count = last
            · simp only [e1, w1, w2, c1, if_true, if_false, and_self, Option.bind_some, show ¬ ((2 : Int) = 1) by omega] at hp
              exact run_ex [] ors_nil (by simp [A.evC, l151_0b, denL, E.den, Pm.ev, Lk.v, Tl.v, hi, ht, e1, w2, c1, e2, hp])
            · have n3 : (t.count != last) = true := by simpa using c1
              simp only [e1, w1, w2, c1, if_true, and_false, if_false, Option.bind_none, show ¬ ((2 : Int) = 1) by omega] at hp
              exact run_ex [] ors_nil (by simp [A.evC, l151_0b, denL, E.den, Pm.ev, Lk.v, Tl.v, hi, ht, e1, w2, n3, tellsEnd, ← hp])
          | false =>
            simp only [e1, w1, w2, if_true, Bool.false_eq_true, false_and, if_false, Option.bind_none, show ¬ ((2 : Int) = 1) by omega] at hp
            exact run_ex [] ors_nil (by simp [A.evC, l151_0b, denL, E.den, Pm.ev, Lk.v, Tl.v, hi, ht, e1, w2, tellsEnd, ← hp])
        · have n2 : (t.what == 2) = false := by simpa using w2
          simp only [e1, w1, w2, if_true, if_false, Option.bind_some] at hp
          cases has <;> exact run_ex [] ors_nil (by simp [A.evC, l151_0b, denL, E.den, Pm.ev, Lk.v, Tl.v, hi, ht, e1, n1, n2, e2, hp])
    · have n1 : (t.who != who) = true := by simpa using e1
      simp only [e1, if_false, Option.bind_some] at hp
      cases has <;> exact run_ex [] ors_nil (by simp [A.evC, l151_0b, denL, E.den, Pm.ev, Lk.v, Tl.v, hi, ht, n1, e2, hp])
  · obtain ⟨st, rfl, hp⟩ := hp
    rw [List.drop_length] at hp
    have e2 : IntKind.i64.wrap ((k : Int) + 1) = (k : Int) + 1 := wrap_id (by omega) (by simp [big] at hll; omega)
    exact run_ex [] ors_nil (by simp [A.evC, l151_0b, denL, E.den, Pm.ev, Lk.v, e2, tellsEnd, ← hp, tellsRun])

theorem cl151 (W : Wd fs ls ss) (who : Int) : Cl 151 [.t fs, .i who] [.b (countsOk ls who)] := by
  refine s151 ?_
  have h41 := W.looks
  have hloop : l151_1.wp Cl (fun m vs => m = 1 ∧ vs = [.b (countsOk ls who)]) [.t fs, .i who, .i ls.length] := by
    refine lp_rel ls.length (fun i vs => ∃ st : Cs, vs = [.b st.1, .i st.2, .i i] ∧ looksRun who st (ls.drop i) = looksRun who (false, 0) ls) ⟨_, by simp [denL, E.den], (false, 0), rfl, rfl⟩ (fun i hi vs hp => ?_) (fun vs hp => ?_)
    · obtain ⟨st, rfl, hp⟩ := hp
      rw [runs_drop _ hi] at hp
      have hlp := lp151_0 W (who := who) hi st (.i ls.length) (.b true)
      cases hr : tellsRun who st ls[i].tells with
      | none =>
        rw [hr] at hp hlp
        exact run_ex [.lp l151_0 _ 1 _] (ors_lp hlp ors_nil) (by simp [A.evC, l151_1b, denL, E.den, Pm.ev, h41, hi, Lk.v, l151_0, countsOk, ← hp])
      | some st' =>
        rw [hr] at hp hlp
        obtain ⟨h', l'⟩ := st'
        simp only [Option.bind_some] at hp
        cases h' <;> exact run_ex [.lp l151_0 _ 2 _] (ors_lp hlp ors_nil) (by simp [A.evC, l151_1b, denL, E.den, Pm.ev, h41, hi, Lk.v, l151_0, hp])
    · obtain ⟨st, rfl, hp⟩ := hp
      rw [List.drop_length] at hp
      exact run_ex [] ors_nil (by simp [A.evC, l151_1b, denL, E.den, Pm.ev, h41, countsOk, ← hp, looksRun])
  exact run_ex [.lp l151_1 _ 1 _] (ors_lp hloop ors_nil) (by simp [A.evC, a151, denL, E.den, Pm.ev, h41, l151_1, ans])

def trueWorld (ls : List Lk) (ss : List St8) : Bool := allN ls.length (fun k => lookTrue ls ss k) && allN 6 (fun who => countsOk ls who)

theorem lp47_0 (W : Wd fs ls ss) (v1 v2 v3 : V) : l47_0.wp Cl (fun m vs => m = 1 ∧ vs = [.b (allN 6 fun who => countsOk ls who)]) [.t fs, v1, v2, v3] := by
  have hall : ∀ (ρ : List V) (n : Nat), ρ[n]? = some (.t fs) → (fieldsE n 0 43).den ρ = some (.t fs) := fun ρ n h => wd_all W.len h
  refine lp_for 6 (fun i => [.i i]) (fun i => allN i (fun who => countsOk ls who) = true) (by simp [denL, E.den]) (by simp [allN]) (fun i hi hp => ?_) (fun hp => ?_)
  · have e2 : IntKind.i64.wrap ((i : Int) + 1) = (i : Int) + 1 := wrap_id (by omega) (by omega)
    have c1 := cl150 W i
    have hi' : (i : Int) < 6 := by omega
    cases ht : countsOk ls i
    · rw [ht] at c1
      have := allN_false (p := fun t : Nat => countsOk ls t) hi ht
      exact run_ex [.cl 150 _ _] (ors_cl c1 ors_nil) (by simp [A.evC, l47_0b, denL, hall, E.den, Pm.ev, hi', this])
    · rw [ht] at c1
      exact run_ex [.cl 150 _ _] (ors_cl c1 ors_nil) (by simp [A.evC, l47_0b, denL, hall, E.den, Pm.ev, hi', e2, allN_succ, hp, ht])
  · exact run_ex [] ors_nil (by simp [A.evC, l47_0b, denL, E.den, Pm.ev, hp])

theorem cl47 (W : Wd fs ls ss) : Cl 47 [.t fs] [.b (trueWorld ls ss)] := by
  refine s47 ?_
  have h41 := W.looks
  have hll := W.ll
  have hall : ∀ (ρ : List V) (n : Nat), ρ[n]? = some (.t fs) → (fieldsE n 0 43).den ρ = some (.t fs) := fun ρ n h => wd_all W.len h
  have hloop : l47_1.wp Cl (fun m vs => m = 1 ∧ vs = [.b (trueWorld ls ss)]) [.t fs] := by
    refine lp_for ls.length (fun i => [.i i]) (fun i => allN i (fun k => lookTrue ls ss k) = true) (by simp [denL, E.den]) (by simp [allN]) (fun i hi hp => ?_) (fun hp => ?_)
    · have e2 : IntKind.i64.wrap ((i : Int) + 1) = (i : Int) + 1 := wrap_id (by omega) (by simp [big] at hll; omega)
      have c1 := cl39 W i
      cases ht : lookTrue ls ss i
      · rw [ht] at c1
        have := allN_false (p := fun t : Nat => lookTrue ls ss t) hi ht
        exact run_ex [.cl 39 _ _] (ors_cl c1 ors_nil) (by simp [A.evC, l47_1b, denL, hall, E.den, Pm.ev, h41, hi, trueWorld, this])
      · rw [ht] at c1
        exact run_ex [.cl 39 _ _] (ors_cl c1 ors_nil) (by simp [A.evC, l47_1b, denL, hall, E.den, Pm.ev, h41, hi, e2, allN_succ, hp, ht])
    · have hlp := lp47_0 W (.i ls.length) (.i ls.length) (.b false)
      exact run_ex [.lp l47_0 _ 1 _] (ors_lp hlp ors_nil) (by simp [A.evC, l47_1b, denL, E.den, Pm.ev, h41, l47_0, trueWorld, hp])
  exact run_ex [.lp l47_1 _ 1 _] (ors_lp hloop ors_nil) (by simp [A.evC, a47, l47_1, ans])

theorem lp48_0 (W : Wd fs ls ss) (v1 v2 v3 : V) : l48_0.wp Cl (fun m vs => m = 1 ∧ vs = [.b (allN 6 fun who => countsOk ls who)]) [.t fs, v1, v2, v3] := by
  have hall : ∀ (ρ : List V) (n : Nat), ρ[n]? = some (.t fs) → (fieldsE n 0 43).den ρ = some (.t fs) := fun ρ n h => wd_all W.len h
  refine lp_for 6 (fun i => [.i i]) (fun i => allN i (fun who => countsOk ls who) = true) (by simp [denL, E.den]) (by simp [allN]) (fun i hi hp => ?_) (fun hp => ?_)
  · have e2 : IntKind.i64.wrap ((i : Int) + 1) = (i : Int) + 1 := wrap_id (by omega) (by omega)
    have c1 := cl151 W i
    have hi' : (i : Int) < 6 := by omega
    cases ht : countsOk ls i
    · rw [ht] at c1
      have := allN_false (p := fun t : Nat => countsOk ls t) hi ht
      exact run_ex [.cl 151 _ _] (ors_cl c1 ors_nil) (by simp [A.evC, l48_0b, denL, hall, E.den, Pm.ev, hi', this])
    · rw [ht] at c1
      exact run_ex [.cl 151 _ _] (ors_cl c1 ors_nil) (by simp [A.evC, l48_0b, denL, hall, E.den, Pm.ev, hi', e2, allN_succ, hp, ht])
  · exact run_ex [] ors_nil (by simp [A.evC, l48_0b, denL, E.den, Pm.ev, hp])

theorem cl48 (W : Wd fs ls ss) : Cl 48 [.t fs] [.b (trueWorld ls ss)] := by
  refine s48 ?_
  have h41 := W.looks
  have hll := W.ll
  have hall : ∀ (ρ : List V) (n : Nat), ρ[n]? = some (.t fs) → (fieldsE n 0 43).den ρ = some (.t fs) := fun ρ n h => wd_all W.len h
  have hloop : l48_1.wp Cl (fun m vs => m = 1 ∧ vs = [.b (trueWorld ls ss)]) [.t fs, .i ls.length] := by
    refine lp_for ls.length (fun i => [.i i]) (fun i => allN i (fun k => lookTrue ls ss k) = true) (by simp [denL, E.den]) (by simp [allN]) (fun i hi hp => ?_) (fun hp => ?_)
    · have e2 : IntKind.i64.wrap ((i : Int) + 1) = (i : Int) + 1 := wrap_id (by omega) (by simp [big] at hll; omega)
      have c1 := cl40 W i
      cases ht : lookTrue ls ss i
      · rw [ht] at c1
        have := allN_false (p := fun t : Nat => lookTrue ls ss t) hi ht
        exact run_ex [.cl 40 _ _] (ors_cl c1 ors_nil) (by simp [A.evC, l48_1b, denL, hall, E.den, Pm.ev, hi, trueWorld, this])
      · rw [ht] at c1
        exact run_ex [.cl 40 _ _] (ors_cl c1 ors_nil) (by simp [A.evC, l48_1b, denL, hall, E.den, Pm.ev, hi, e2, allN_succ, hp, ht])
    · have hlp := lp48_0 W (.i ls.length) (.i ls.length) (.b false)
      exact run_ex [.lp l48_0 _ 1 _] (ors_lp hlp ors_nil) (by simp [A.evC, l48_1b, denL, E.den, Pm.ev, l48_0, trueWorld, hp])
  exact run_ex [.lp l48_1 _ 1 _] (ors_lp hloop ors_nil) (by simp [A.evC, a48, denL, E.den, Pm.ev, h41, l48_1, ans])

end
end Go.Proofs.YteleedlkdadogaaGreat.Fw
