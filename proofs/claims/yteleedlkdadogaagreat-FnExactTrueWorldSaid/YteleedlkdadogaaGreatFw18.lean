/- Where ways join: a state seen as another. -/
import Derived.Test.YteleedlkdadogaaGreatFw17
namespace Go.Proofs.YteleedlkdadogaaGreat.Fw
open Go.RowKit

def E.lowE (n0 : Nat) : E → Bool
  | .v n => Nat.blt n n0
  | .pj e _ => e.lowE n0
  | .tc h t => h.lowE n0 && t.lowE n0
  | _ => true

theorem E.lowE_den {n0 : Nat} {ρ ρ' : List V} (h : ∀ i, i < n0 → ρ'[i]? = ρ[i]?) : ∀ {e : E}, e.lowE n0 = true → e.den ρ' = e.den ρ := by
  intro e
  induction e with
  | v n => intro hb; exact h n (Nat.le_of_ble_eq_true hb)
  | pj e j ih => intro hb; simp only [E.den, ih hb]
  | tc a t ih1 ih2 =>
    intro hb
    simp only [E.lowE, Bool.and_eq_true] at hb
    simp only [E.den, ih1 hb.1, ih2 hb.2]
  | _ => intro _; rfl

/-- What stands for the new values, and for the chunks. -/
structure Mt where
  top : Nat
  bd : List (Nat × E)
  th : List (Nat × Option Nat)

def thInv : List (Nat × Option Nat) → List (Nat × Nat)
  | [] => []
  | (c', some c) :: l => (c, c') :: thInv l
  | (_, none) :: l => thInv l

def ckE (n0 : Nat) (M : Mt) (e' e : E) : Bool :=
  match e' with
  | .v k => if Nat.blt k n0 then e'.beq e else (match look M.bd k with | some e2 => e2.beq e && Nat.blt k M.top | none => false)
  | _ => e'.lowE n0 && e'.beq e

def optEq (o : Option Nat) (c : Nat) : Bool := match o with | some d => Nat.beq d c | none => false

def ckTh (M : Mt) (c' c : Nat) : Bool :=
  (match look M.th c' with | some (some d) => Nat.beq d c | _ => false) && optEq (look (thInv M.th) c) c' && !(Nat.beq c 0)

def ckNil (M : Mt) (c' : Nat) : Bool := match look M.th c' with | some none => true | _ => false

def liveG (Γ : G) (s : Src) : Bool := match s with
  | .st => true
  | .ch c ver => (match Γ.chunk c with | .arr v _ _ _ => Nat.beq v ver | _ => false)

def ckSrc (M : Mt) (Γ' Γ : G) : Src → Src → Bool
  | .st, .st => true
  | .ch c' v', .ch c v => liveG Γ' (.ch c' v') && liveG Γ (.ch c v) && ckTh M c' c
  | _, _ => false

def ckCV (n0 : Nat) (M : Mt) (Γ' Γ : G) : CV → CV → Bool
  | .junk, _ => true
  | .und, .und => true
  | .nil, .nil => true
  | .sc s e', .sc s' e => s.beq s' && ckE n0 M e' e
  | .rd .st _ _ y', .nil => ckE n0 M y' .kl
  | .rd s' e' et' y', .rd s e et y => ckSrc M Γ' Γ s' s && e'.beq e && Nat.beq et' et && ckE n0 M y' y
  | .rp s' e' y' off', .rp s e y off => ckSrc M Γ' Γ s' s && e'.beq e && Nat.beq off' off && ckE n0 M y' y
  | .own c', .own c => ckTh M c' c
  | .own c', .nil => ckNil M c'
  | .ptr c' off', .ptr c off => ckTh M c' c && Nat.beq off' off
  | .pin k', .pin k => Nat.beq k' k
  | .fn k', .fn k => Nat.beq k' k
  | _, _ => false

def ckCVs (n0 : Nat) (M : Mt) (Γ' Γ : G) : List CV → List CV → Bool
  | [], [] => true
  | a :: as, b :: bs => ckCV n0 M Γ' Γ a b && ckCVs n0 M Γ' Γ as bs
  | _, _ => false

def ckSV (n0 : Nat) (M : Mt) (Γ' Γ : G) : SV → SV → Bool
  | .cv .junk, _ => true
  | .cv a, .cv b => ckCV n0 M Γ' Γ a b
  | .agg as, .agg bs => ckCVs n0 M Γ' Γ as bs
  | _, _ => false

def ckCh (n0 : Nat) (M : Mt) (Γ' Γ : G) (c' : Nat) (ch' : Ch) : Bool :=
  match ch' with
  | .dead => true
  | .fresh => true
  | .arr _ e' et' y' => (match look M.th c' with
    | some (some c) => (match Γ.chunk c with
      | .arr _ e et y => ckTh M c' c && e'.beq e && Nat.beq et' et && ckE n0 M y' y
      | _ => false)
    | some none => ckE n0 M y' .kl
    | none => false)
  | .box cells' ty' => (match look M.th c' with
    | some (some c) => (match Γ.chunk c with
      | .box cells ty => ckTh M c' c && Nat.beq ty' ty && ckCVs n0 M Γ' Γ cells' cells
      | _ => false)
    | _ => false)

def ckSlots (n0 : Nat) (M : Mt) (Γ' Γ : G) : List (Nat × SV) → Bool
  | [] => true
  | (t, s) :: l => ckSV n0 M Γ' Γ s (asRd (Γ.slot t)) && ckSlots n0 M Γ' Γ l

def ckChunks (n0 : Nat) (M : Mt) (Γ' Γ : G) : List (Nat × Ch) → Bool
  | [] => true
  | (c, h) :: l => ckCh n0 M Γ' Γ c h && ckChunks n0 M Γ' Γ l

def ckKeys (Γ' : G) : List (Nat × Option Nat) → Bool
  | [] => true
  | (c, _) :: l => (match Γ'.chunk c with | .fresh => false | _ => true) && ckKeys Γ' l

def ckG (n0 : Nat) (M : Mt) (Γ' Γ : G) : Bool := ckSlots n0 M Γ' Γ Γ'.slots && ckChunks n0 M Γ' Γ Γ'.chunks && ckKeys Γ' M.th

theorem ckSlots_spec {n0 : Nat} {M : Mt} {Γ' Γ : G} {t : Nat} {s : SV} : ∀ {l : List (Nat × SV)}, ckSlots n0 M Γ' Γ l = true → look l t = some s → ckSV n0 M Γ' Γ s (asRd (Γ.slot t)) = true
  | (k, v) :: l, h, hl => by
    simp only [ckSlots, Bool.and_eq_true] at h
    simp only [look] at hl
    split at hl
    · rename_i hk
      have := Nat.eq_of_beq_eq_true hk
      subst this
      cases hl
      exact h.1
    · exact ckSlots_spec h.2 hl

theorem ckChunks_spec {n0 : Nat} {M : Mt} {Γ' Γ : G} {t : Nat} {s : Ch} : ∀ {l : List (Nat × Ch)}, ckChunks n0 M Γ' Γ l = true → look l t = some s → ckCh n0 M Γ' Γ t s = true
  | (k, v) :: l, h, hl => by
    simp only [ckChunks, Bool.and_eq_true] at h
    simp only [look] at hl
    split at hl
    · rename_i hk
      have := Nat.eq_of_beq_eq_true hk
      subst this
      cases hl
      exact h.1
    · exact ckChunks_spec h.2 hl

theorem ckKeys_spec {Γ' : G} {c : Nat} (hf : Γ'.chunk c = .fresh) : ∀ {l : List (Nat × Option Nat)}, ckKeys Γ' l = true → look l c = none
  | [], _ => rfl
  | (k, v) :: l, h => by
    simp only [ckKeys, Bool.and_eq_true] at h
    simp only [look]
    split
    · rename_i hk
      have := Nat.eq_of_beq_eq_true hk
      subst this
      rw [hf] at h
      simp at h
    · exact ckKeys_spec hf h.2

/-- Labels under new numbers of chunks. -/
def relL (M : Mt) (l : List Nat) : List Nat :=
  match l.getLast? with
  | none => []
  | some k => if Nat.beq k 0 then l else match look (thInv M.th) k with
    | some c' => l.dropLast ++ [c']
    | none => []

theorem relL_c {M : Mt} {c' c : Nat} (h : ckTh M c' c = true) (q : List Nat) : relL M (q ++ [c]) = q ++ [c'] := by
  simp only [ckTh, Bool.and_eq_true, Bool.not_eq_true'] at h
  have h2 : look (thInv M.th) c = some c' := by
    have := h.1.2
    unfold optEq at this
    split at this
    · rename_i d hd
      rw [hd, Nat.eq_of_beq_eq_true this]
    · cases this
  simp [relL, h.2, h2]

theorem relL_last {M : Mt} {c' c : Nat} (h : ckTh M c' c = true) {l : List Nat} (hl : l.getLast? = some c) : (relL M l).getLast? = some c' := by
  obtain ⟨q, rfl⟩ := List.getLast?_eq_some_iff.1 hl
  rw [relL_c h]; simp

theorem relL_zero {M : Mt} {l : List Nat} (hl : l.getLast? = some 0) : (relL M l).getLast? = some 0 := by
  unfold relL
  rw [hl]
  simp [hl]

def Gh.seen (g : Gh) (M : Mt) (Γ' : G) : Gh :=
  { L := fun b => relL M (g.L b)
    io := fun c' => match look M.th c' with | some (some c) => g.io c | some none => some (.slice none 0 0) | none => none
    gv := fun c' => match Γ'.chunk c' with | .arr v _ _ _ => v | _ => 0 }

theorem ckTh_look {M : Mt} {c' c : Nat} (h : ckTh M c' c = true) : look M.th c' = some (some c) := by
  simp only [ckTh, Bool.and_eq_true] at h
  have := h.1.1
  split at this
  · rename_i d hd
    rw [hd, Nat.eq_of_beq_eq_true this]
  · cases this

section
variable {x : Fx} {Γ Γ' : G} {ρ ρ' : List V} {a : Act} {w : World} {g : Gh} {n0 : Nat} {M : Mt}

theorem ckE_ok (hρ : ∀ i, i < n0 → ρ'[i]? = ρ[i]?) (hb : ∀ k e v, n0 ≤ k → k < M.top → look M.bd k = some e → e.den ρ = some v → ρ'[k]? = some v) {e' e : E} (h : ckE n0 M e' e = true) {v : V} (he : e.den ρ = some v) : e'.den ρ' = some v := by
  unfold ckE at h
  split at h
  · rename_i k
    split at h
    · rename_i hk
      have := E.beq_eq h
      subst this
      rw [E.lowE_den (e := .v k) hρ hk]; exact he
    · rename_i hk
      split at h
      · rename_i e2 h2
        simp only [Bool.and_eq_true] at h
        have := E.beq_eq h.1
        subst this
        refine hb k _ v ?_ (Nat.le_of_ble_eq_true h.2) h2 he
        rcases Nat.lt_or_ge k n0 with h | h
        · exact absurd (Nat.ble_eq_true_of_le h) hk
        · exact h
      · cases h
  · simp only [Bool.and_eq_true] at h
    have := E.beq_eq h.2
    subst this
    rw [E.lowE_den hρ h.1]; exact he

theorem liveG_ok (hr : Rel x Γ ρ a w g) {s : Src} (h : liveG Γ s = true) : s.live g := by
  cases s with
  | st => trivial
  | ch c ver =>
    simp only [liveG] at h
    split at h
    · rename_i v e et y hc
      have := hr.chunks c
      rw [hc] at this
      obtain ⟨_, _, _, _, h3, _⟩ := this
      have hv := Nat.eq_of_beq_eq_true h
      subst hv
      exact h3
    · cases h

theorem ckSrc_ok (hr : Rel x Γ ρ a w g) {s' s : Src} (h : ckSrc M Γ' Γ s' s = true) : s.live g ∧ s'.past (g.seen M Γ') ∧ ∀ b, s.S x g b → s'.S x (g.seen M Γ') b := by
  unfold ckSrc at h
  split at h
  · exact ⟨trivial, trivial, fun b hb => hb.imp id relL_zero⟩
  · rename_i c' v' c v
    simp only [Bool.and_eq_true] at h
    refine ⟨liveG_ok hr h.1.2, ?_, fun b hb => relL_last h.2 hb⟩
    have := h.1.1
    simp only [liveG] at this
    split at this
    · rename_i v2 e et y hc
      have hv := Nat.eq_of_beq_eq_true this
      subst hv
      simp only [Src.past, Gh.seen, hc]
      exact Nat.le_refl _
    · cases this
  · cases h

theorem ckCV_ok (hr : Rel x Γ ρ a w g) (hρ : ∀ i, i < n0 → ρ'[i]? = ρ[i]?) (hb : ∀ k e v, n0 ≤ k → k < M.top → look M.bd k = some e → e.den ρ = some v → ρ'[k]? = some v) {c' c : CV} (h : ckCV n0 M Γ' Γ c' c = true) {val : Value} (hc : c.ok x w g ρ val) :
    c'.ok x w (g.seen M Γ') ρ' val := by
  unfold ckCV at h
  split at h
  · trivial
  · exact hc
  · exact hc
  · simp only [Bool.and_eq_true] at h
    have := Sh.beq_eq h.1
    subst this
    obtain ⟨v, h1, h2⟩ := hc
    exact ⟨v, ckE_ok hρ hb h.2 h1, h2⟩
  · cases hc
    exact ⟨rfl, trivial, fun _ => ⟨.l [], ckE_ok hρ hb h rfl, [], none, 0, 0, rfl, rfl, rfl, Nat.le_refl _, by simp [maxLen], fun _ => rfl, .inl rfl⟩⟩
  · simp only [Bool.and_eq_true] at h
    have h1 := Sh.beq_eq h.1.1.2
    have h2 := Nat.eq_of_beq_eq_true h.1.2
    subst h1; subst h2
    obtain ⟨k1, k2, k3⟩ := ckSrc_ok hr h.1.1.1
    obtain ⟨hc1, hc2, hc3⟩ := hc
    obtain ⟨v, hv, hrd⟩ := hc3 k1
    exact ⟨hc1, k2, fun _ => ⟨v, ckE_ok hρ hb h.2 hv, hrd.frame (fun b hS => ⟨rfl, k3 b hS⟩)⟩⟩
  · simp only [Bool.and_eq_true] at h
    have h1 := Sh.beq_eq h.1.1.2
    have h2 := Nat.eq_of_beq_eq_true h.1.2
    subst h1; subst h2
    obtain ⟨k1, k2, k3⟩ := ckSrc_ok hr h.1.1.1
    obtain ⟨hc1, hc2, hc3⟩ := hc
    obtain ⟨v, ds, b, o, hv, hrd, e1, e2, e3⟩ := hc3 k1
    exact ⟨hc1, k2, fun _ => ⟨v, ds, b, o, ckE_ok hρ hb h.2 hv, hrd.frame (fun b hS => ⟨rfl, k3 b hS⟩), e1, k3 _ e2, e3⟩⟩
  · have := ckTh_look h
    exact ⟨hc.1, by simp only [Gh.seen, this]; exact hc.2⟩
  · rename_i c'
    unfold ckNil at h
    split at h
    · rename_i hl
      cases hc
      exact ⟨rfl, by simp only [Gh.seen, hl]⟩
    · cases h
  · simp only [Bool.and_eq_true] at h
    have h2 := Nat.eq_of_beq_eq_true h.2
    subst h2
    obtain ⟨b, h3, h4⟩ := hc
    exact ⟨b, by simp only [Gh.seen, ckTh_look h.1]; exact h3, h4⟩
  · rw [Nat.eq_of_beq_eq_true h]; exact hc
  · rw [Nat.eq_of_beq_eq_true h]; exact hc
  · cases h

theorem ckCVs_ok (hr : Rel x Γ ρ a w g) (hρ : ∀ i, i < n0 → ρ'[i]? = ρ[i]?) (hb : ∀ k e v, n0 ≤ k → k < M.top → look M.bd k = some e → e.den ρ = some v → ρ'[k]? = some v) :
    ∀ {cs' cs : List CV} {vs : List Value}, ckCVs n0 M Γ' Γ cs' cs = true → cellsOk (CV.ok x w g ρ) cs vs → cellsOk (CV.ok x w (g.seen M Γ') ρ') cs' vs
  | [], [], vs, _, hc => by
    cases vs with
    | nil => trivial
    | cons v vs => exact hc.elim
  | c' :: cs', c :: cs, vs, h, hc => by
    simp only [ckCVs, Bool.and_eq_true] at h
    cases vs with
    | nil => exact hc.elim
    | cons v vs => exact ⟨ckCV_ok hr hρ hb h.1 hc.1, ckCVs_ok hr hρ hb h.2 hc.2⟩
  | [], _ :: _, _, h, _ => by cases h
  | _ :: _, [], _, h, _ => by cases h

/-- A state seen as another. -/
theorem ckG_ok (hr : Rel x Γ ρ a w g) (hρ : ∀ i, i < n0 → ρ'[i]? = ρ[i]?) (hb : ∀ k e v, n0 ≤ k → k < M.top → look M.bd k = some e → e.den ρ = some v → ρ'[k]? = some v) (h : ckG n0 M Γ' Γ = true) : Rel x Γ' ρ' a w (g.seen M Γ') := by
  simp only [ckG, Bool.and_eq_true] at h
  obtain ⟨⟨hsl, hch⟩, hk⟩ := h
  refine ⟨hr.defers, hr.size, fun t => ?_, fun c' => ?_, fun b hb' => ⟨(hr.stable b hb').1, by simp [Gh.seen, (hr.stable b hb').2, relL]⟩, fun b hb' => by simp [Gh.seen, hr.high b hb', relL], hr.low, hr.env, hr.args⟩
  · show (((look Γ'.slots t).getD (.cv .junk))).ok _ _
    cases hl : look Γ'.slots t with
    | none => trivial
    | some s =>
      have hs := ckSlots_spec hsl hl
      have h0 := asRd_ok (hr.slots t)
      show s.ok _ _
      unfold ckSV at hs
      split at hs
      · trivial
      · rename_i heq
        rw [heq] at h0
        exact ckCV_ok hr hρ hb hs h0
      · rename_i heq
        rw [heq] at h0
        obtain ⟨vs, e1, e2⟩ := h0
        exact ⟨vs, e1, ckCVs_ok hr hρ hb hs e2⟩
      · cases hs
  · cases hl : look Γ'.chunks c' with
    | none =>
      have hf : Γ'.chunk c' = .fresh := by simp [G.chunk, hl]
      have hn := ckKeys_spec hf hk
      rw [hf]
      exact ⟨by simp only [Gh.seen, hn], by simp only [Gh.seen, hf]⟩
    | some ch' =>
      have hc' : Γ'.chunk c' = ch' := by simp [G.chunk, hl]
      have hck := ckChunks_spec hch hl
      rw [hc']
      cases ch' with
      | dead => trivial
      | fresh => exact ⟨by simp only [Gh.seen, ckKeys_spec hc' hk], by simp only [Gh.seen, hc']⟩
      | arr ver' e' et' y' =>
        simp only [ckCh] at hck
        split at hck
        · rename_i c hth
          split at hck
          · rename_i ver e et y hΓ
            simp only [Bool.and_eq_true] at hck
            have h1 := Sh.beq_eq hck.1.1.2
            have h2 := Nat.eq_of_beq_eq_true hck.1.2
            subst h1; subst h2
            have h0 := hr.chunks c
            rw [hΓ] at h0
            obtain ⟨v, val, k1, k2, k3, k4⟩ := h0
            refine ⟨v, val, by simp only [Gh.seen, hth]; exact k1, ckE_ok hρ hb hck.2 k2, by simp only [Gh.seen, hc'], k4.frame (fun b q hL => ⟨rfl, by simp only [Gh.seen, hL]; exact relL_c hck.1.1.1 q⟩)⟩
          · cases hck
        · rename_i hth
          exact ⟨.l [], .slice none 0 0, by simp only [Gh.seen, hth], ckE_ok hρ hb hck rfl, by simp only [Gh.seen, hc'], [], none, 0, 0, rfl, rfl, rfl, Nat.le_refl _, by simp [maxLen], .inl ⟨rfl, rfl, rfl⟩⟩
        · cases hck
      | box cells' ty' =>
        simp only [ckCh] at hck
        split at hck
        · rename_i c hth
          split at hck
          · rename_i cells ty hΓ
            simp only [Bool.and_eq_true] at hck
            have h2 := Nat.eq_of_beq_eq_true hck.1.2
            subst h2
            have h0 := hr.chunks c
            rw [hΓ] at h0
            obtain ⟨b, vs, k1, k2, k3, k4⟩ := h0
            exact ⟨b, vs, by simp only [Gh.seen, hth]; exact k1, by simp only [Gh.seen, k2]; exact relL_c hck.1.1 [], k3, ckCVs_ok hr hρ hb hck.2 k4⟩
          · cases hck
        · cases hck

end

/-- Where to look for what stands for a new value. -/
def colCV (n0 : Nat) (M : Mt) : CV → CV → Mt
  | .sc _ e', .sc _ e => colE n0 M e' e
  | .rd .st _ _ y', .nil => colE n0 M y' .kl
  | .rd s' _ _ y', .rd s _ _ y => colE n0 (colSrc M s' s) y' y
  | .rp s' _ y' _, .rp s _ y _ => colE n0 (colSrc M s' s) y' y
  | .own c', .own c => { M with th := putA c' (some c) M.th }
  | .own c', .nil => { M with th := putA c' none M.th }
  | .ptr c' _, .ptr c _ => { M with th := putA c' (some c) M.th }
  | _, _ => M
where
  colE (n0 : Nat) (M : Mt) (e' e : E) : Mt := match e' with
    | .v k => if Nat.blt k n0 then M else { M with bd := putA k e M.bd }
    | _ => M
  colSrc (M : Mt) : Src → Src → Mt
    | .ch c' _, .ch c _ => { M with th := putA c' (some c) M.th }
    | _, _ => M

def colCVs (n0 : Nat) (M : Mt) : List CV → List CV → Mt
  | a :: as, b :: bs => colCVs n0 (colCV n0 M a b) as bs
  | _, _ => M

def colSlots (n0 : Nat) (Γ : G) : List (Nat × SV) → Mt → Mt
  | [], M => M
  | (t, s) :: l, M => colSlots n0 Γ l (match s, asRd (Γ.slot t) with
    | .cv a, .cv b => colCV n0 M a b
    | .agg as, .agg bs => colCVs n0 M as bs
    | _, _ => M)

def colChunks (n0 : Nat) (Γ : G) : List (Nat × Ch) → Mt → Mt
  | [], M => M
  | (c', h) :: l, M => colChunks n0 Γ l (match h, look M.th c' with
    | .arr _ _ _ y', some none => colCV.colE n0 M y' .kl
    | .arr _ _ _ y', some (some c) => (match Γ.chunk c with
      | .arr _ _ _ y => colCV.colE n0 M y' y
      | _ => M)
    | .box cells' _, some (some c) => (match Γ.chunk c with
      | .box cells _ => colCVs n0 M cells' cells
      | _ => M)
    | _, _ => M)

def outs (bd : List (Nat × E)) : Nat → Nat → List E
  | _, 0 => []
  | k, m + 1 => (look bd k).getD (.ki 0) :: outs bd (k + 1) m

/-- The values that a state hands on where it is seen as Γ'; n0 values are shared, m are new. -/
def seeAs (n0 m : Nat) (Γ' Γ : G) : Option (List E) :=
  let M := colChunks n0 Γ Γ'.chunks (colSlots n0 Γ Γ'.slots ⟨n0 + m, [], []⟩)
  if ckG n0 M Γ' Γ then some (outs M.bd n0 m) else none

theorem outs_get {bd : List (Nat × E)} {e : E} {j : Nat} : ∀ {m k : Nat}, look bd (k + j) = some e → j < m → (outs bd k m)[j]? = some e
  | m + 1, k, h, hj => by
    cases j with
    | zero => simp only [outs, Nat.add_zero] at h ⊢; rw [h]; rfl
    | succ j =>
      simp only [outs, List.getElem?_cons_succ]
      exact outs_get (by rw [show k + 1 + j = k + (j + 1) by omega]; exact h) (by omega)

theorem outs_length {bd : List (Nat × E)} : ∀ {m k : Nat}, (outs bd k m).length = m
  | 0, _ => rfl
  | m + 1, k => by simp [outs, outs_length]

end Go.Proofs.YteleedlkdadogaaGreat.Fw
