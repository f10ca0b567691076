/- A function's code as a pure program. -/
import Derived.Test.YteleedlkdadogaaGreatFw18
namespace Go.Proofs.YteleedlkdadogaaGreat.Fw
open Go.RowKit

/-- What is kept where ways join, and what is told anew (from the number of values, and of chunks, on). -/
structure Tm where
  keepS : List Nat
  newS : Nat → Nat → List (Nat × SV)
  newC : Nat → Nat → List (Nat × Ch)
  m : Nat
  ids : Nat

def Ch.chunks : Ch → List Nat
  | .box cells _ => cells.flatMap CV.chunks
  | _ => []

def keptCh (Γ : G) (ts : List Nat) : List Nat :=
  let cs := ts.flatMap fun t => (Γ.slot t).chunks
  cs ++ cs.flatMap fun c => (Γ.chunk c).chunks

def Tm.at (T : Tm) (s : St) : St :=
  ⟨⟨T.keepS.map (fun t => (t, s.Γ.slot t)) ++ T.newS s.n s.id, (keptCh s.Γ T.keepS).map (fun c => (c, s.Γ.chunk c)) ++ T.newC s.n s.id⟩, s.kn, s.n + T.m, s.id + T.ids⟩

def firstReg : Code → Option Nat
  | .region id _ _ => some id
  | .seq x y => (match firstReg x with | some i => some i | none => firstReg y)
  | .cond _ x y => (match firstReg x with | some i => some i | none => firstReg y)
  | .block _ b => firstReg b
  | .loop b => firstReg b
  | _ => none

/-- The join behind x, in x and then y. -/
def hintSeq (H : Nat → Option Tm) (y : Code) : Option Tm := match firstReg y with | some i => H (3 * i) | none => none
def hintLoop (H : Nat → Option Tm) (b : Code) : Option Tm := match firstReg b with | some i => H (3 * i + 2) | none => none

def comp (B : Tabs) (nt : Nat × Nat) (H : Nat → Option Tm) : Code → Nat → (Exit → St → Option A) → St → Option A
  | .skip, _, κ, s => κ .normal s
  | .label _, _, κ, s => κ .normal s
  | .region _ ops draw, _, κ, s => region B nt ops.toList draw s (κ .normal)
  | .seq x y, m, κ, s => (match hintSeq H y with
    | none => comp B nt H x m (fun e s => match e with | .normal => comp B nt H y m κ s | e => κ e s) s
    | some T => (match comp B nt H x (m + 1) (fun e s2 => match e with | .normal => (seeAs s.n T.m (T.at s).Γ s2.Γ).map (.out m) | e => κ e s2) s, comp B nt H y m κ (T.at s) with
      | some a, some k => some (.jn m a k)
      | _, _ => none))
  | .cond c x y, m, κ, s => (match opnd s.Γ.slot c with
    | .cv (.sc .bool e) => (match knows s.kn e with
      | some true => comp B nt H x m κ s
      | some false => comp B nt H y m κ s
      | none => (match comp B nt H x m κ { s with kn := (e, true) :: s.kn }, comp B nt H y m κ { s with kn := (e, false) :: s.kn } with
        | some a, some b => some (.ite e a b)
        | _, _ => none))
    | _ => none)
  | .block id b, m, κ, s => (match H (3 * id + 1) with
    | none => comp B nt H b m (fun e s => match e with | .exit j => (if j = id then κ .normal s else κ (.exit j) s) | e => κ e s) s
    | some T => (match comp B nt H b (m + 1) (fun e s2 => match e with
        | .exit j => (if j = id then (seeAs s.n T.m (T.at s).Γ s2.Γ).map (.out m) else κ (.exit j) s2)
        | .normal => (seeAs s.n T.m (T.at s).Γ s2.Γ).map (.out m)
        | e => κ e s2) s, κ .normal (T.at s) with
      | some a, some k => some (.jn m a k)
      | _, _ => none))
  | .loop b, m, κ, s => (match hintLoop H b with
    | none => none
    | some T => (match seeAs s.n T.m (T.at s).Γ s.Γ, comp B nt H b (m + 1) (fun e s2 => match e with | .normal => (seeAs s.n T.m (T.at s).Γ s2.Γ).map (.out m) | e => κ e s2) (T.at s) with
      | some es, some bd => some (.lp m es bd)
      | _, _ => none))
  | .exit id, _, κ, s => κ (.exit id) s
  | .ret, _, κ, s => κ .ret s
  | _, _, _, _ => none

section
variable {x : Fx} {B : Tabs}

/-- What an ending must bring about. -/
def KOk (x : Fx) (B : Tabs) (κ : Exit → St → Option A) (m : Nat) (R : Nat → List V → Prop) (ρ : List V) (Q : Exit → Act → World → Prop) : Prop :=
  ∀ (e : Exit) (R' : Nat → List V → Prop) (δ : List V) (s' : St) (A1 : A) (a' : Act) (w' : World) (g' : Gh), (∀ j, j < m → R' j = R j) → κ e s' = some A1 → A1.wp (CC x.P B.S) R' (ρ ++ δ) →
    Rel x s'.Γ (ρ ++ δ) a' w' g' → KnOk (ρ ++ δ) s'.kn → s'.n = (ρ ++ δ).length → Q e a' w'

theorem KOk.app {κ : Exit → St → Option A} {m : Nat} {R R' : Nat → List V → Prop} {ρ : List V} {Q : Exit → Act → World → Prop} (h : KOk x B κ m R ρ Q) (hR : ∀ j, j < m → R' j = R j) (δ : List V) : KOk x B κ m R' (ρ ++ δ) Q := by
  intro e R'' δ' s' A1 a' w' g' h1 h2 h3 h4 h5 h6
  rw [List.append_assoc] at h3 h4 h5 h6
  exact h e R'' (δ ++ δ') s' A1 a' w' g' (fun j hj => (h1 j hj).trans (hR j hj)) h2 h3 h4 h5 h6

/-- What is handed on at a join is what the state behind it tells of. -/
theorem seeAs_ok {Γ' Γ : G} {ρ δ : List V} {a : Act} {w : World} {g : Gh} {m : Nat} {es : List E} {vs : List V} (h : seeAs ρ.length m Γ' Γ = some es) (hv : denL (ρ ++ δ) es = some vs) (hr : Rel x Γ (ρ ++ δ) a w g) :
    vs.length = m ∧ ∃ g', Rel x Γ' (ρ ++ vs) a w g' := by
  unfold seeAs at h
  simp only at h
  split at h
  · rename_i hck
    cases h
    have hl : vs.length = m := by rw [denL_length hv, outs_length]
    refine ⟨hl, _, ckG_ok hr (fun i hi => by rw [List.getElem?_append_left hi, List.getElem?_append_left hi]) (fun k e v hk htop hlk he => ?_) hck⟩
    have htop' : k < ρ.length + m := by
      have ht : ∀ (l : List (Nat × SV)) (M : Mt), (colSlots ρ.length Γ l M).top = M.top := by
        have h1 : ∀ (M : Mt) (e' e : E), (colCV.colE ρ.length M e' e).top = M.top := by
          intro M e' e; unfold colCV.colE; split
          · split <;> rfl
          · rfl
        have h2 : ∀ (M : Mt) (s' s : Src), (colCV.colSrc M s' s).top = M.top := by
          intro M s' s; unfold colCV.colSrc; split <;> rfl
        have h3 : ∀ (M : Mt) (c' c : CV), (colCV ρ.length M c' c).top = M.top := by
          intro M c' c; unfold colCV; split <;> simp only [h1, h2]
        have h4 : ∀ (cs' cs : List CV) (M : Mt), (colCVs ρ.length M cs' cs).top = M.top := by
          intro cs'
          induction cs' with
          | nil => intro cs M; rfl
          | cons a as ih =>
            intro cs M
            cases cs with
            | nil => rfl
            | cons b bs => simp only [colCVs, ih, h3]
        intro l
        induction l with
        | nil => intro M; rfl
        | cons p l ih =>
          intro M
          obtain ⟨t, s⟩ := p
          simp only [colSlots, ih]
          split <;> simp only [h3, h4]
      have ht2 : ∀ (l : List (Nat × Ch)) (M : Mt), (colChunks ρ.length Γ l M).top = M.top := by
        have h1 : ∀ (M : Mt) (e' e : E), (colCV.colE ρ.length M e' e).top = M.top := by
          intro M e' e; unfold colCV.colE; split
          · split <;> rfl
          · rfl
        have h2 : ∀ (M : Mt) (s' s : Src), (colCV.colSrc M s' s).top = M.top := by
          intro M s' s; unfold colCV.colSrc; split <;> rfl
        have h3 : ∀ (M : Mt) (c' c : CV), (colCV ρ.length M c' c).top = M.top := by
          intro M c' c; unfold colCV; split <;> simp only [h1, h2]
        have h4 : ∀ (cs' cs : List CV) (M : Mt), (colCVs ρ.length M cs' cs).top = M.top := by
          intro cs'
          induction cs' with
          | nil => intro cs M; rfl
          | cons a as ih =>
            intro cs M
            cases cs with
            | nil => rfl
            | cons b bs => simp only [colCVs, ih, h3]
        intro l
        induction l with
        | nil => intro M; rfl
        | cons p l ih =>
          intro M
          obtain ⟨t, s⟩ := p
          simp only [colChunks, ih]
          split
          · simp only [h1]
          · split <;> simp only [h1]
          · split <;> simp only [h4]
          · rfl
      rw [ht2, ht] at htop
      exact htop
    have hg := outs_get (m := m) (j := k - ρ.length) (k := ρ.length) (by rw [show ρ.length + (k - ρ.length) = k by omega]; exact hlk) (by omega)
    obtain ⟨v', h1, h2⟩ := denL_get hv hg
    rw [he] at h2
    cases h2
    rw [List.getElem?_append_right hk]
    exact h1
  · cases h

theorem least {p : Nat → Prop} (h : ∃ n, p n) : ∃ n, p n ∧ ∀ k, p k → n ≤ k := by
  obtain ⟨n, hn⟩ := h
  induction n using Nat.strongRecOn with
  | ind n ih =>
    by_cases hk : ∃ k, k < n ∧ p k
    · obtain ⟨k, h1, h2⟩ := hk
      exact ih k h1 h2
    · exact ⟨n, hn, fun k hpk => by
        rcases Nat.lt_or_ge k n with h | h
        · exact absurd ⟨k, h, hpk⟩ hk
        · exact h⟩

theorem comp_wp (hT : TabOk x.P B.T) (hmix : x.P.follows .mixedOrders = true) {H : Nat → Option Tm} : ∀ (c : Code) {m : Nat} {κ : Exit → St → Option A} {s : St} {A0 : A} {R : Nat → List V → Prop} {ρ : List V} {Q : Exit → Act → World → Prop} {a : Act} {w : World} {g : Gh},
    comp B x.nt H c m κ s = some A0 → A0.wp (CC x.P B.S) R ρ → Rel x s.Γ ρ a w g → KnOk ρ s.kn → s.n = ρ.length → KOk x B κ m R ρ Q → c.wp x.P Q a w := by
  intro c
  induction c with
  | skip =>
    intro m κ s A0 R ρ Q a w g h hw hr hk hn hK
    exact wp_skip (hK .normal R [] s A0 a w g (fun _ _ => rfl) h (by simpa using hw) (by simpa using hr) (by simpa using hk) (by simpa using hn))
  | label l =>
    intro m κ s A0 R ρ Q a w g h hw hr hk hn hK
    exact wp_label (hK .normal R [] s A0 a w g (fun _ _ => rfl) h (by simpa using hw) (by simpa using hr) (by simpa using hk) (by simpa using hn))
  | region id ops draw =>
    intro m κ s A0 R ρ Q a w g h hw hr hk hn hK
    exact region_wp hT hmix h hw hr hk hn (fun δ s' A1 a' w' g' h1 h2 h3 h4 h5 => hK .normal R δ s' A1 a' w' g' (fun _ _ => rfl) h1 h2 h3 h4 h5)
  | exit id =>
    intro m κ s A0 R ρ Q a w g h hw hr hk hn hK
    exact wp_exit (hK (.exit id) R [] s A0 a w g (fun _ _ => rfl) h (by simpa using hw) (by simpa using hr) (by simpa using hk) (by simpa using hn))
  | ret =>
    intro m κ s A0 R ρ Q a w g h hw hr hk hn hK
    exact wp_ret (hK .ret R [] s A0 a w g (fun _ _ => rfl) h (by simpa using hw) (by simpa using hr) (by simpa using hk) (by simpa using hn))
  | cond c x1 y1 ihx ihy =>
    intro m κ s A0 R ρ Q a w g h hw hr hk hn hK
    simp only [comp] at h
    split at h
    · rename_i e hc
      have hv : Vw x s.Γ ρ a w g s.Γ.slot (fun c => some (s.Γ.chunk c)) := ⟨hr, hr.slots, fun c h hc => by cases hc; rfl⟩
      obtain ⟨v, hv1, b, rfl, hb⟩ := hv.cv hc
      split at h
      · rename_i hkn
        have := knows_ok hk hkn
        rw [hv1] at this
        cases this
        exact wp_cond_true hb (ihx h hw hr hk hn hK)
      · rename_i hkn
        have := knows_ok hk hkn
        rw [hv1] at this
        cases this
        exact wp_cond_false hb (ihy h hw hr hk hn hK)
      · split at h
        · rename_i a1 b1 h1 h2
          cases h
          obtain ⟨y, hy, ht, hf⟩ := hw
          rw [hv1] at hy
          cases hy
          have hkn' : KnOk ρ ((e, b) :: s.kn) := fun e' b' hm => by
            cases hm with
            | head => exact hv1
            | tail _ hm => exact hk _ _ hm
          cases b with
          | true => exact wp_cond_true hb (ihx h1 (ht rfl) hr hkn' hn hK)
          | false => exact wp_cond_false hb (ihy h2 (hf rfl) hr hkn' hn hK)
        · cases h
    · cases h
  | seq x1 y1 ihx ihy =>
    intro m κ s A0 R ρ Q a w g h hw hr hk hn hK
    simp only [comp] at h
    refine wp_seq ?_
    split at h
    · refine ihx h hw hr hk hn (fun e R' δ s' A1 a' w' g' e1 e2 e3 e4 e5 e6 => ?_)
      cases e with
      | normal => exact ihy e2 e3 e4 e5 e6 (hK.app e1 δ)
      | _ => exact hK _ R' δ s' A1 a' w' g' e1 e2 e3 e4 e5 e6
    · rename_i T hT'
      split at h
      · rename_i a1 k1 h1 h2
        cases h
        refine ihx h1 hw hr hk hn (fun e R' δ s' A1 a' w' g' e1 e2 e3 e4 e5 e6 => ?_)
        cases e with
        | normal =>
          simp only [Option.map_eq_some_iff] at e2
          obtain ⟨es, hes, rfl⟩ := e2
          obtain ⟨vs, hvs, hR⟩ := e3
          rw [e1 m (Nat.lt_succ_self m), if_pos rfl] at hR
          rw [hn] at hes
          obtain ⟨hl, g2, hr2⟩ := seeAs_ok hes hvs e4
          exact ihy h2 hR hr2 (hk.app vs) (by simp only [Tm.at, List.length_append, hl, hn]) (hK.app (fun _ _ => rfl) vs)
        | _ => exact hK _ R' δ s' A1 a' w' g' (fun j hj => by rw [e1 j (Nat.lt_succ_of_lt hj)]; funext vs; rw [if_neg (Nat.ne_of_lt hj)]) e2 e3 e4 e5 e6
      · cases h
  | block id b ih =>
    intro m κ s A0 R ρ Q a w g h hw hr hk hn hK
    simp only [comp] at h
    refine wp_block ?_
    split at h
    · refine ih h hw hr hk hn (fun e R' δ s' A1 a' w' g' e1 e2 e3 e4 e5 e6 => ?_)
      cases e with
      | exit j =>
        simp only [Exit.inBlock] at e2 ⊢
        split
        · rename_i hj
          rw [if_pos hj] at e2
          exact hK _ R' δ s' A1 a' w' g' e1 e2 e3 e4 e5 e6
        · rename_i hj
          rw [if_neg hj] at e2
          exact hK _ R' δ s' A1 a' w' g' e1 e2 e3 e4 e5 e6
      | _ => exact hK _ R' δ s' A1 a' w' g' e1 e2 e3 e4 e5 e6
    · rename_i T hT'
      split at h
      · rename_i a1 k1 h1 h2
        cases h
        have hjoin : ∀ {R' : Nat → List V → Prop} {δ : List V} {s' : St} {A1 : A} {a' : Act} {w' : World} {g' : Gh}, (∀ j, j < m + 1 → R' j = fun vs => if j = m then k1.wp (CC x.P B.S) R (ρ ++ vs) else R j vs) → (seeAs s.n T.m (T.at s).Γ s'.Γ).map (A.out m) = some A1 → A1.wp (CC x.P B.S) R' (ρ ++ δ) →
            Rel x s'.Γ (ρ ++ δ) a' w' g' → Q .normal a' w' := by
          intro R' δ s' A1 a' w' g' e1 e2 e3 e4
          simp only [Option.map_eq_some_iff] at e2
          obtain ⟨es, hes, rfl⟩ := e2
          obtain ⟨vs, hvs, hR⟩ := e3
          rw [e1 m (Nat.lt_succ_self m), if_pos rfl] at hR
          rw [hn] at hes
          obtain ⟨hl, g2, hr2⟩ := seeAs_ok hes hvs e4
          exact hK .normal R vs (T.at s) k1 a' w' g2 (fun _ _ => rfl) h2 hR hr2 (hk.app vs) (by simp only [Tm.at, List.length_append, hl, hn])
        refine ih h1 hw hr hk hn (fun e R' δ s' A1 a' w' g' e1 e2 e3 e4 e5 e6 => ?_)
        have hlow : ∀ j, j < m → R' j = R j := fun j hj => by rw [e1 j (Nat.lt_succ_of_lt hj)]; funext vs; rw [if_neg (Nat.ne_of_lt hj)]
        cases e with
        | normal => exact hjoin e1 e2 e3 e4
        | exit j =>
          simp only [Exit.inBlock] at e2 ⊢
          split
          · rename_i hj
            rw [if_pos hj] at e2
            exact hjoin e1 e2 e3 e4
          · rename_i hj
            rw [if_neg hj] at e2
            exact hK _ R' δ s' A1 a' w' g' hlow e2 e3 e4 e5 e6
        | _ => exact hK _ R' δ s' A1 a' w' g' hlow e2 e3 e4 e5 e6
      · cases h
  | loop b ih =>
    intro m κ s A0 R ρ Q a w g h hw hr hk hn hK
    simp only [comp] at h
    split at h
    · cases h
    · rename_i T hT'
      split at h
      · rename_i es bd h1 h2
        cases h
        obtain ⟨vs, hvs, n, hloop⟩ := hw
        rw [hn] at h1
        obtain ⟨hl, g2, hr2⟩ := seeAs_ok (δ := []) h1 (by simpa using hvs) (by simpa using hr)
        let p : Act → World → Nat → Prop := fun a w n => ∃ vs g, loopN (fun vs' R' => bd.wp (CC x.P B.S) R' (ρ ++ vs')) m R n vs ∧ vs.length = T.m ∧ Rel x (T.at s).Γ (ρ ++ vs) a w g
        have hmu : ∃ μ : Act → World → Nat, ∀ a w, (∃ n, p a w n) → p a w (μ a w) ∧ ∀ k, p a w k → μ a w ≤ k := by
          refine ⟨fun a w => Classical.epsilon fun n => (∃ n, p a w n) → p a w n ∧ ∀ k, p a w k → n ≤ k, fun a w => ?_⟩
          refine Classical.epsilon_spec (p := fun n => (∃ n, p a w n) → p a w n ∧ ∀ k, p a w k → n ≤ k) ?_
          by_cases hp : ∃ n, p a w n
          · obtain ⟨n, hn⟩ := least hp
            exact ⟨n, fun _ => hn⟩
          · exact ⟨0, fun h => absurd h hp⟩
        obtain ⟨μ, hμ⟩ := hmu
        refine wp_loop (fun a w => ∃ n, p a w n) μ ⟨n, vs, g2, hloop, hl, hr2⟩ (fun a1 w1 hI => ?_)
        obtain ⟨⟨vs1, g1, q1, q2, q3⟩, hmin⟩ := hμ a1 w1 hI
        cases hμn : μ a1 w1 with
        | zero => rw [hμn] at q1; exact q1.elim
        | succ k =>
          rw [hμn] at q1
          refine ih h2 q1 q3 (hk.app vs1) (by simp only [Tm.at, List.length_append, q2, hn]) (fun e R' δ s' A1 a' w' g' e1 e2 e3 e4 e5 e6 => ?_)
          cases e with
          | normal =>
            simp only [Option.map_eq_some_iff] at e2
            obtain ⟨es', hes, rfl⟩ := e2
            obtain ⟨vs', hvs', hR⟩ := e3
            rw [e1 m (Nat.lt_succ_self m), if_pos rfl] at hR
            rw [hn] at hes
            rw [List.append_assoc] at hvs' e4
            obtain ⟨hl', g3, hr3⟩ := seeAs_ok hes hvs' e4
            have hp : p a' w' k := ⟨vs', g3, hR, hl', hr3⟩
            exact ⟨⟨k, hp⟩, Nat.lt_succ_of_le ((hμ a' w' ⟨k, hp⟩).2 k hp)⟩
          | _ =>
            rw [List.append_assoc] at e3 e4 e5 e6
            exact hK _ R' (vs1 ++ δ) s' A1 a' w' g' (fun j hj => by rw [e1 j (Nat.lt_succ_of_lt hj)]; funext vs; rw [if_neg (Nat.ne_of_lt hj)]) e2 e3 e4 e5 e6
      · cases h
  | _ => intro m κ s A0 R ρ Q a w g h; simp [comp] at h

end
end Go.Proofs.YteleedlkdadogaaGreat.Fw
