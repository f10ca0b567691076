/- Pure programs that count a struct; shapes alike; contracts out of pure programs. -/
import Derived.Test.YteleedlkdadogaaGreatFw26
import Derived.Test.YteleedlkdadogaaGreatFw34
namespace Go.Proofs.YteleedlkdadogaaGreat.Fw
open Go.RowKit

section
variable {C : Nat → List V → List V → Prop} {K : Nat → Option Sh} {sh : Sh} {fs : List V}

/-- The cells of which all is known. -/
def Known (sh : Sh) (fs : List V) (cov : List Nat) : Prop := ∀ j ∈ cov, ∀ s x, sh.leaf j = some s → fs[j]? = some x → Bd s x

def cntR (sh : Sh) (fs : List V) (cov : List Nat) (n : Int) (m : Nat) (vs : List V) : Prop := m = 1 ∧ ∃ r : Int, vs = [.i r] ∧ r ≤ n ∧ -1 ≤ r ∧ (0 ≤ r → Known sh fs cov)

theorem get_app {ρ δ : List V} {i : Nat} {v : V} (h : ρ[i]? = some v) : (ρ ++ δ)[i]? = some v := by
  rw [List.getElem?_append_left (List.getElem?_eq_some_iff.1 h).1]; exact h

theorem get_end {ρ : List V} {v : V} {i : Nat} (h : ρ.length = i) : (ρ ++ [v])[i]? = some v := by subst h; simp

set_option maxRecDepth 100000 in
theorem szRun_ok (hK : ∀ f s, K f = some s → SzF C f s) (hwt : Wt sh (.t fs)) {n : Int} (hn : n ≤ big) : ∀ (a : A) {cur next : Nat} {cov cov' : List Nat} {ρ : List V} {left : Int}, szRun K sh a cur next cov = some cov' → ρ.length = next → ρ[0]? = some (.t fs) → ρ[cur]? = some (.i left) →
    0 ≤ left → left ≤ n → Known sh fs cov → a.wp C (cntR sh fs cov' n) ρ
  | .out m es, cur, next, cov, cov', ρ, left, h, hl, h0, hcur, hl0, hl1, hk => by
    match es with
    | [] => simp [szRun] at h
    | _ :: _ :: _ => simp [szRun] at h
    | [e] =>
      simp only [szRun] at h
      split at h
      · rename_i hc
        simp only [Bool.and_eq_true] at hc
        have := E.beq_eq hc.2
        subst this
        cases h
        exact ⟨[.i left], by simp [denL, E.den, hcur], Nat.eq_of_beq_eq_true hc.1, left, rfl, hl1, by omega, fun _ => hk⟩
      · cases h
  | .cl f args m k, cur, next, cov, cov', ρ, left, h, hl, h0, hcur, hl0, hl1, hk => by
    unfold szRun at h
    split at h
    · rename_i heq; cases heq
    · rename_i f' e l m' x z c m1 z1 k' heq
      cases heq
      split at h
      · rename_i hc
        simp only [Bool.and_eq_true] at hc
        obtain ⟨⟨⟨⟨⟨⟨c1, c2⟩, c3⟩, c4⟩, c5⟩, c6⟩, c7⟩ := hc
        have c1 := Nat.eq_of_beq_eq_true c1
        have c2 := E.beq_eq c2
        have c3 := E.beq_eq c3
        have c4 := E.beq_eq c4
        have c5 := E.beq_eq c5
        have c6 := Nat.eq_of_beq_eq_true c6
        have c7 := E.beq_eq c7
        subst c1; subst c2; subst c3; subst c4; subst c5; subst c6; subst c7
        split at h
        · rename_i js s' s h1 h2
          split at h
          · rename_i hs
            have := Sh.beq_eq hs
            subst this
            obtain ⟨u, hu, hwu, hback⟩ := argE_back h0 hwt h1
            obtain ⟨r, hr, hr1, hr2, hr3⟩ := hK f _ h2 u left hwu hl0 (by omega)
            refine ⟨[u, .i left], [.i r], by simp [denL, E.den, hu, hcur], hr, rfl, [.i r, .i 0], .b (decide (r < 0)), ?_, rfl, decide (r < 0), ?_, fun hneg => ?_, fun hge => ?_⟩
            · have := get_end (v := V.i r) hl
              simp [denL, E.den, this]
            · have g := get_end (ρ := ρ ++ [V.i r]) (v := V.b (decide (r < 0))) rfl
              rw [List.length_append, hl] at g
              exact g
            · exact ⟨[.i (-1)], rfl, rfl, -1, rfl, by omega, by omega, fun h => by omega⟩
            · have hr0 : 0 ≤ r := by simpa using hge
              refine szRun_ok hK hwt hn k' h (by simp [hl]) (get_app (get_app h0)) (get_app (get_end hl)) hr0 (by omega) ?_
              intro j hj s x e1 e2
              rcases List.mem_append.1 hj with hj | hj
              · exact hback (hr3 hr0) j hj s x e1 e2
              · exact hk j hj s x e1 e2
          · cases h
        · cases h
      · cases h
    · rename_i heq; cases heq
    · cases h
  | .pm p args k, cur, next, cov, cov', ρ, left, h, hl, h0, hcur, hl0, hl1, hk => by
    unfold szRun at h
    split at h
    · rename_i heq; cases heq
    · rename_i heq; cases heq
    · rename_i e l a x z c m1 z1 k' heq
      cases heq
      split at h
      · rename_i hc
        simp only [Bool.and_eq_true] at hc
        obtain ⟨⟨⟨⟨⟨⟨c1, c2⟩, c3⟩, c4⟩, c5⟩, c6⟩, c7⟩ := hc
        have c1 := E.beq_eq c1
        have c2 := E.beq_eq c2
        have c3 := E.beq_eq c3
        have c4 := E.beq_eq c4
        have c5 := E.beq_eq c5
        have c6 := Nat.eq_of_beq_eq_true c6
        have c7 := E.beq_eq c7
        subst c1; subst c2; subst c3; subst c4; subst c5; subst c6; subst c7
        split at h
        · rename_i j h1
          obtain ⟨u, hu, ⟨sx, rfl, hsl⟩, _⟩ := fld_ok (Q := Wt) (fun _ _ _ h => h) h0 hwt h1
          have hsub := sub_len hl0 (Int.le_trans hl1 hn) hsl
          have g1 := get_end (v := V.i sx.length) hl
          have g2 := get_end (ρ := ρ ++ [V.i sx.length]) (v := V.i (left - sx.length)) rfl
          have g3 := get_end (ρ := (ρ ++ [V.i sx.length]) ++ [V.i (left - sx.length)]) (v := V.b (decide (left - (sx.length : Int) < 0))) rfl
          rw [List.length_append, hl] at g2
          rw [List.length_append, List.length_append, hl] at g3
          refine ⟨[.s sx], .i sx.length, by simp [denL, hu], rfl, [.i left, .i sx.length], .i (left - sx.length), ?_, by simp [Pm.ev, hsub], [.i (left - sx.length), .i 0], .b (decide (left - (sx.length : Int) < 0)), ?_, rfl, decide (left - (sx.length : Int) < 0), g3, fun hneg => ?_, fun hge => ?_⟩
          · have := get_app (δ := [V.i sx.length]) hcur
            simp only [denL, E.den, this, g1]
          · simp only [List.length_singleton] at g2
            simp only [denL, E.den, g2]
          · exact ⟨[.i (-1)], rfl, rfl, -1, rfl, by omega, by omega, fun h => by omega⟩
          · have hr0 : 0 ≤ left - (sx.length : Int) := by simpa using hge
            exact szRun_ok hK hwt hn k' h (by simp [hl]) (get_app (get_app (get_app h0))) (get_app g2) hr0 (by omega) hk
        · cases h
      · cases h
    · cases h
  | .ite c a b, cur, next, cov, cov', ρ, left, h, _, _, _, _, _, _ => by simp [szRun] at h
  | .jn m a b, cur, next, cov, cov', ρ, left, h, _, _, _, _, _, _ => by simp [szRun] at h
  | .lp m a b, cur, next, cov, cov', ρ, left, h, _, _, _, _, _, _ => by simp [szRun] at h

theorem sz_struct (hK : ∀ f s, K f = some s → SzF C f s) {a : A} (hst : sh.isSt = true) (hch : sh.chain = true) {cov : List Nat} (h : szRun K sh a 1 2 [] = some cov) (hc : covOk sh cov = true) {v : V} (hv : Wt sh v) {n : Int} (h0 : 0 ≤ n) (hn : n ≤ big) : a.wp C (cnt sh v n) [v, .i n] := by
  obtain ⟨fs, rfl, hl⟩ := hv.len hst hch
  refine A.wp_mono a ?_ (szRun_ok hK hv hn a h rfl rfl rfl h0 (Int.le_refl _) (fun j hj => by cases hj))
  rintro m vs ⟨rfl, r, rfl, h1, h2, h3⟩
  refine ⟨rfl, r, rfl, h1, h2, fun hr => Bd.all hst hch hv (fun j s x e1 e2 => ?_)⟩
  have hjs : j < sh.sz := by have := (List.getElem?_eq_some_iff.1 e2).1; omega
  unfold covOk at hc
  have := List.all_eq_true.1 hc j (by simp [hjs])
  rw [e1] at this
  simp only [Bool.or_eq_true] at this
  rcases this with hf | hm
  · obtain ⟨y, e3, e4⟩ := Wt.at hv e1
    rw [e2] at e3
    cases e3
    exact e4.flatBd hf
  · exact h3 hr j (memN_iff.1 hm) s x e1 e2

/-- The same but for the types' numbers. -/
def Sh.like : Sh → Sh → Bool
  | .int k, .int k' => kindEq k k'
  | .bool, .bool => true
  | .str, .str => true
  | .sl e _, .sl e' _ => e.like e'
  | .nil, .nil => true
  | .cons h t, .cons h' t' => h.like h' && t.like t'
  | _, _ => false

theorem Bd.like : ∀ {s s' : Sh} {v : V}, s.like s' = true → Bd s v → Bd s' v := by
  intro s
  induction s with
  | sl e t ih =>
    intro s' v h hb
    cases s' <;> simp only [Sh.like, Bool.false_eq_true] at h
    obtain ⟨xs, h1, h2, h3⟩ := hb
    exact ⟨xs, h1, h2, fun x hx => ih h (h3 x hx)⟩
  | cons a t ih1 ih2 =>
    intro s' v h hb
    cases s' <;> simp only [Sh.like, Bool.false_eq_true, Bool.and_eq_true] at h
    obtain ⟨x, xs, h1, h2, h3⟩ := hb
    exact ⟨x, xs, h1, ih1 h.1 h2, ih2 h.2 h3⟩
  | int k =>
    intro s' v h hb
    cases s' <;> simp only [Sh.like, Bool.false_eq_true] at h
    have := kindEq_eq h
    subst this
    exact hb
  | bool => intro s' v h hb; cases s' <;> simp only [Sh.like, Bool.false_eq_true] at h; exact hb
  | str => intro s' v h hb; cases s' <;> simp only [Sh.like, Bool.false_eq_true] at h; exact hb
  | nil => intro s' v h hb; cases s' <;> simp only [Sh.like, Bool.false_eq_true] at h; exact hb

end

section
variable {P : Program} {B : Tabs}

/-- A function's contract, out of its pure program. -/
theorem cc_of (hT : TabOk P B.T) (hmix : P.follows .mixedOrders = true) {f : FuncId} {fn : Func} (hf : P.funcs[f]? = some fn) {H : Nat → Option Tm} {ps rs : List Sh} {a : A} (h : compF B fn H ps rs = some a) (hS : B.S f = some (.rd ps rs)) (hc : callable P f = true)
    {vs us : List V} (hw : a.wp (CC P B.S) (ans us) vs) : CC P B.S f vs us := ⟨hc, by rw [hS]; exact compF_sound hT hmix hf h hw⟩

theorem ccW_of (hT : TabOk P B.T) (hmix : P.follows .mixedOrders = true) {f : FuncId} {fn : Func} (hf : P.funcs[f]? = some fn) {H : Nat → Option Tm} {ps : List Pk} {rs : List Rk} {a : A} (h : compW B fn H ps rs = some a) (hS : B.S f = some (.w ps rs)) (hc : callable P f = true)
    {vs us : List V} (hw : a.wp (CC P B.S) (ans us) vs) : CC P B.S f vs us := ⟨hc, by rw [hS]; exact compW_sound hT hmix hf h hw⟩

theorem szF_of {C : Nat → List V → List V → Prop} {f : Nat} {s : Sh} {a : A} (hC : ∀ {vs us : List V}, a.wp C (ans us) vs → C f vs us) (h : ∀ v (n : Int), Wt s v → 0 ≤ n → n ≤ big → a.wp C (cnt s v n) [v, .i n]) : SzF C f s := by
  intro v n hv h0 hn
  obtain ⟨m, vs, ⟨rfl, r, rfl, h1, h2, h3⟩, hw⟩ := wp_pick a (h v n hv h0 hn)
  exact ⟨r, hC hw, h1, h2, h3⟩

end
end Go.Proofs.YteleedlkdadogaaGreat.Fw
