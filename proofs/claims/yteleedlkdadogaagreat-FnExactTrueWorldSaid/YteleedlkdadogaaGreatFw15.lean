/- A region's operations: what each record says, and the text's order. -/
import Derived.Test.YteleedlkdadogaaGreatFw14
import Derived.Tactics
import Derived.Orders
namespace Go.Proofs.YteleedlkdadogaaGreat.Fw
open Go.RowKit

theorem Rel.congr {x : Fx} {Γ Γ' : G} {ρ : List V} {a : Act} {w : World} {g : Gh} (h : Rel x Γ ρ a w g) (hs : ∀ t, Γ'.slot t = Γ.slot t) (hc : ∀ c, Γ'.chunk c = Γ.chunk c) : Rel x Γ' ρ a w g :=
  ⟨h.defers, h.size, fun t => by rw [hs]; exact h.slots t, fun c => by rw [hc]; exact h.chunks c, h.stable, h.high, h.low, h.env, h.args⟩

/-- The guard's word. -/
def GdOk (all : List Oper) (ρ : List V) (Γ : G) (o : Oper) (yes : Bool) : Prop :=
  (guardOf all o = some none ∧ yes = true) ∨ (∃ t want e, guardOf all o = some (some (t, want)) ∧ Γ.slot t = .cv (.sc .bool e) ∧ e.den ρ = some (.b (if yes then want else !want))) ∨ (yes = false ∧ ∃ t want, guardOf all o = some (some (t, want)) ∧ Γ.slot t = .cv .und)

def RcOk (B : Tabs) (P : Program) (all : List Oper) (ρ : List V) (Γ : G) (rc : Rc) : Prop :=
  match rc.r with
  | some res => GdOk all ρ Γ rc.o true ∧ ∃ kn n id, KnOk ρ kn ∧ stepAt B Γ kn n id rc.o.op = some res ∧ EmsOk (CC P B.S) ρ n res.ems ∧ rc.cs = chunksOf B Γ id rc.o.op
  | none => GdOk all ρ Γ rc.o false

def RcsOk (B : Tabs) (P : Program) (all : List Oper) (ρ : List V) : G → List Rc → Prop
  | _, [] => True
  | Γ, rc :: l => RcOk B P all ρ Γ rc ∧ RcsOk B P all ρ (rc.app Γ) l

theorem KnOk.app {ρ : List V} {kn : List (E × Bool)} (h : KnOk ρ kn) (δ : List V) : KnOk (ρ ++ δ) kn := fun e b hm => E.den_app δ (h e b hm)

theorem GdOk.app {all : List Oper} {ρ : List V} {Γ : G} {o : Oper} {y : Bool} (h : GdOk all ρ Γ o y) (δ : List V) : GdOk all (ρ ++ δ) Γ o y := by
  rcases h with h | ⟨t, want, e, h1, h2, h3⟩ | h
  · exact .inl h
  · exact .inr (.inl ⟨t, want, e, h1, h2, E.den_app δ h3⟩)
  · exact .inr (.inr h)

def appAll (Γ : G) : List Rc → G
  | [] => Γ
  | rc :: l => appAll (rc.app Γ) l

theorem appAll_append (l2 : List Rc) : ∀ (l1 : List Rc) (Γ : G), appAll Γ (l1 ++ l2) = appAll (appAll Γ l1) l2
  | [], _ => rfl
  | rc :: l1, Γ => appAll_append l2 l1 (rc.app Γ)

theorem Rc.app_cs (o : Oper) (r : Option Res) (cs cs' : List Nat) (Γ : G) : (Rc.mk o r cs).app Γ = (Rc.mk o r cs').app Γ := rfl

/-- What a region's program asks. -/
theorem regT_wp {B : Tabs} {P : Program} {all : List Oper} {fin : St → List Rc → Option A} {Q : Nat → List V → Prop} : ∀ {l : List Oper} {s : St} {rs : List Rc} {A0 : A} {ρ : List V},
    regT B all fin l s rs = some A0 → A0.wp (CC P B.S) Q ρ → KnOk ρ s.kn → s.n = ρ.length →
    ∃ δ new s' A1, RcsOk B P all (ρ ++ δ) s.Γ new ∧ new.map Rc.o = l ∧ s'.Γ = appAll s.Γ new ∧ KnOk (ρ ++ δ) s'.kn ∧ s'.n = (ρ ++ δ).length ∧ fin s' (rs ++ new) = some A1 ∧ A1.wp (CC P B.S) Q (ρ ++ δ)
  | [], s, rs, A0, ρ, h, hw, hk, hn => ⟨[], [], s, A0, trivial, rfl, rfl, by simpa using hk, by simpa using hn, by simpa [regT] using h, by simpa using hw⟩
  | o :: l, s, rs, A0, ρ, h, hw, hk, hn => by
    have hgo : ∀ {kn : List (E × Bool)} {A0 : A}, KnOk ρ kn → GdOk all ρ s.Γ o true → A0.wp (CC P B.S) Q ρ →
        (match stepAt B s.Γ kn s.n s.id o.op with
          | none => none
          | some res => (regT B all fin l ⟨(Rc.mk o (some res) []).app s.Γ, kn, s.n + emLen res.ems, s.id + widthOf B o.op⟩ (rs ++ [⟨o, some res, chunksOf B s.Γ s.id o.op⟩])).map (emA res.ems)) = some A0 →
        ∃ δ new s' A1, RcsOk B P all (ρ ++ δ) s.Γ new ∧ new.map Rc.o = o :: l ∧ s'.Γ = appAll s.Γ new ∧ KnOk (ρ ++ δ) s'.kn ∧ s'.n = (ρ ++ δ).length ∧ fin s' (rs ++ new) = some A1 ∧ A1.wp (CC P B.S) Q (ρ ++ δ) := by
      intro kn A0 hk hg hw h
      split at h
      · cases h
      · rename_i res hst
        simp only [Option.map_eq_some_iff] at h
        obtain ⟨A1, h1, rfl⟩ := h
        obtain ⟨δ1, d1, d2, d3⟩ := emA_wp hw
        obtain ⟨δ2, new, s', A2, e1, e2, e3, e4, e5, e6, e7⟩ := regT_wp h1 d3 (hk.app δ1) (by simp [hn, d1])
        refine ⟨δ1 ++ δ2, ⟨o, some res, chunksOf B s.Γ s.id o.op⟩ :: new, s', A2, ⟨⟨hg.app _, kn, s.n, s.id, hk.app _, hst, ?_, rfl⟩, by rw [← List.append_assoc]; exact e1⟩, by simp [e2], e3, by rw [← List.append_assoc]; exact e4, by rw [← List.append_assoc]; exact e5,
          by simpa using e6, by rw [← List.append_assoc]; exact e7⟩
        rw [← List.append_assoc, hn]
        exact d2.app δ2
    have hskip : ∀ {kn : List (E × Bool)} {A0 : A}, KnOk ρ kn → GdOk all ρ s.Γ o false → A0.wp (CC P B.S) Q ρ →
        regT B all fin l ⟨(Rc.mk o none []).app s.Γ, kn, s.n, s.id⟩ (rs ++ [⟨o, none, []⟩]) = some A0 →
        ∃ δ new s' A1, RcsOk B P all (ρ ++ δ) s.Γ new ∧ new.map Rc.o = o :: l ∧ s'.Γ = appAll s.Γ new ∧ KnOk (ρ ++ δ) s'.kn ∧ s'.n = (ρ ++ δ).length ∧ fin s' (rs ++ new) = some A1 ∧ A1.wp (CC P B.S) Q (ρ ++ δ) := by
      intro kn A0 hk hg hw h
      obtain ⟨δ2, new, s', A2, e1, e2, e3, e4, e5, e6, e7⟩ := regT_wp h hw hk hn
      exact ⟨δ2, ⟨o, none, []⟩ :: new, s', A2, ⟨hg.app _, e1⟩, by simp [e2], e3, e4, e5, by simpa using e6, e7⟩
    unfold regT at h
    simp only at h
    split at h
    · cases h
    · rename_i hg
      exact hgo hk (.inl ⟨hg, rfl⟩) hw h
    · rename_i t want hg
      split at h
      · rename_i e hslot
        split at h
        · rename_i b hkn
          have hden := knows_ok hk hkn
          split at h
          · rename_i hb
            have hb' : b = want := by simpa using hb
            subst hb'
            exact hgo hk (.inr (.inl ⟨t, _, e, hg, hslot, by simpa using hden⟩)) hw h
          · rename_i hb
            have hb' : b = !want := by revert hb; cases b <;> cases want <;> simp
            subst hb'
            exact hskip hk (.inr (.inl ⟨t, _, e, hg, hslot, by simpa using hden⟩)) hw h
        · split at h
          · rename_i A1 A2 h1 h2
            cases h
            obtain ⟨y, hy, ht, hf⟩ := hw
            have hkn' : KnOk ρ ((e, y) :: s.kn) := fun e' b' hm => by
              cases hm with
              | head => exact hy
              | tail _ hm => exact hk _ _ hm
            cases y with
            | true =>
              have hw1 := ht rfl
              split at h1
              · rename_i hwant
                exact hgo hkn' (.inr (.inl ⟨t, want, e, hg, hslot, by simp [hwant, hy]⟩)) hw1 h1
              · rename_i hwant
                exact hskip hkn' (.inr (.inl ⟨t, want, e, hg, hslot, by simp [hwant, hy]⟩)) hw1 h1
            | false =>
              have hw2 := hf rfl
              split at h2
              · rename_i hwant
                exact hskip hkn' (.inr (.inl ⟨t, want, e, hg, hslot, by simp [hwant, hy]⟩)) hw2 h2
              · rename_i hwant
                exact hgo hkn' (.inr (.inl ⟨t, want, e, hg, hslot, by simp [hwant, hy]⟩)) hw2 h2
          · cases h
      · rename_i hslot
        exact hskip hk (.inr (.inr ⟨rfl, t, want, hg, hslot⟩)) hw h
      · cases h

theorem Rel.next' {x : Fx} {Γ : G} {ρ : List V} {a : Act} {w : World} {g : Gh} (h : Rel x Γ ρ a w g) {w' : World} {g' : Gh} (upd : List (Nat × Ch))
    (f : Fr (fun c => (look upd c).isSome = true) w g w' g') (hu : ∀ c ch, look upd c = some ch → ch.ok x w' g' ρ c) :
    Rel x (Γ.putChunks upd) ρ a w' g' := by
  have st : ∀ b, x.S0 b → b < w.heap.size ∧ g.L b = [] := fun b hb => ⟨Nat.lt_of_lt_of_le hb.1 h.low, (h.stable b hb).2⟩
  refine ⟨h.defers, h.size, fun t => ?_, fun c => ?_, fun b hb => ?_, f.high, Nat.le_trans h.low f.size, f.env.trans h.env, h.args⟩
  · rw [G.slot_putChunks]; exact SV.ok_mono (fun c v => CV.frame f h.high st) (h.slots t)
  · rw [G.chunk_putChunks]
    cases hl : look upd c with
    | some ch => exact hu c ch hl
    | none => exact Ch.frame f h.high st (by simp [hl]) (h.chunks c)
  · have hb' := f.blk b (st b hb).1 (fun c hc => by rw [(st b hb).2] at hc; cases hc)
    exact ⟨hb'.1.trans (h.stable b hb).1, hb'.2.trans (st b hb).2⟩

def gtmp (all : List Oper) (o : Oper) : List Nat := match guardOf all o with | some (some (t, _)) => [t] | _ => []

/-- The slots that a record looks at. -/
def Rc.rS (all : List Oper) (rc : Rc) : List Nat := tmpsOf rc.o.op ++ gtmp all rc.o

theorem mem_tmpsOf_eval {op : Op} {t : Nat} : memN t (tmpsOf op) = true ↔ t ∈ tmpsOf op := memN_iff

/-- One record's operation, at a state that agrees with the record's where it looks. -/
theorem rc_step {x : Fx} {B : Tabs} (hT : TabOk x.P B.T) {all : Array Oper} {ρ : List V} {Γ Γj : G} {rc : Rc} (hok : RcOk B x.P all.toList ρ Γj rc)
    (hS : ∀ t, t ∈ rc.rS all.toList → Γ.slot t = Γj.slot t) (hC : ∀ c, c ∈ rc.cs → Γ.chunk c = Γj.chunk c) (hd : ∀ d, rc.o.dst = some d → inNt d x.nt)
    {a : Act} {w : World} {g : Gh} (hr : Rel x Γ ρ a w g) {K : Act → World → Prop} {Q : Exit → Act → World → Prop} (hK : ∀ a' w' g', Rel x (rc.app Γ) ρ a' w' g' → K a' w') :
    if Region.wanted rc.o (yielded all a.tmps) then rc.o.wp x.P a w K Q else K (a.put rc.o.dst undef) w := by
  have hgd : ∀ {y : Bool}, GdOk all.toList ρ Γj rc.o y → Region.wanted rc.o (yielded all a.tmps) = y := by
    intro y h
    unfold Region.wanted
    rcases h with ⟨h1, rfl⟩ | ⟨t, want, e, h1, h2, h3⟩ | ⟨rfl, t, want, h1, h2⟩
    · unfold guardOf at h1
      split at h1
      · rename_i hg; simp [hg]
      · split at h1 <;> cases h1
    · have h1' := h1
      unfold guardOf at h1
      split at h1
      · cases h1
      · rename_i j want' hg
        split at h1
        · rename_i t' ht
          cases h1
          have hsl := hr.slots t
          rw [hS t (by simp [Rc.rS, gtmp, h1']), h2] at hsl
          obtain ⟨v, hv, hv2⟩ := hsl
          rw [h3] at hv
          cases hv
          simp only [hg]
          have hy : yielded all a.tmps j = some (if y then want else !want) := by
            unfold yielded
            have ht' : (all[j]?).bind (·.dst) = some t := by simpa using ht
            rw [ht']
            have hlt : t < a.tmps.size := by
              rcases Nat.lt_or_ge t a.tmps.size with h | h
              · exact h
              · rw [Array.getD_eq_getD_getElem?, Array.getElem?_eq_none h] at hv2
                obtain ⟨z, _, hz⟩ := hv2
                simp [undef] at hz
            have : a.tmps[t]? = some (.bool (if y then want else !want)) := by
              rw [Array.getD_eq_getD_getElem?, Array.getElem?_eq_getElem hlt] at hv2
              rw [Array.getElem?_eq_getElem hlt]
              simpa [Scal] using hv2
            simp [this]
          rw [hy]
          cases y <;> cases want <;> rfl
        · cases h1
    · have h1' := h1
      unfold guardOf at h1
      split at h1
      · cases h1
      · rename_i j want' hg
        split at h1
        · rename_i t' ht
          cases h1
          have hsl := hr.slots t
          rw [hS t (by simp [Rc.rS, gtmp, h1']), h2] at hsl
          have hu : a.tmps.getD t undef = undef := hsl
          simp only [hg]
          have hy : yielded all a.tmps j = none := by
            unfold yielded
            have ht' : (all[j]?).bind (·.dst) = some t := by simpa using ht
            rw [ht']
            rw [Array.getD_eq_getD_getElem?] at hu
            simp only [Option.bind_some]
            cases hlk : a.tmps[t]? with
            | none => rfl
            | some v => rw [hlk] at hu; simp only [Option.getD_some] at hu; subst hu; rfl
          rw [hy]
          rfl
        · cases h1
  unfold RcOk at hok
  split at hok
  · rename_i res hres
    obtain ⟨hg, kn, n, id, hk, hst, he, hcs⟩ := hok
    rw [if_pos (hgd hg)]
    have hv : Vw x Γ ρ a w g (seeS Γj (tmpsOf rc.o.op)) (seeC Γj (chunksOf B Γj id rc.o.op)) := by
      refine ⟨hr, fun t => ?_, fun c h hc => ?_⟩
      · unfold seeS
        split
        · rename_i hm
          rw [← hS t (by simp [Rc.rS, memN_iff.1 hm])]
          exact hr.slots t
        · trivial
      · unfold seeC at hc
        split at hc
        · rename_i hm
          cases hc
          exact hC c (by rw [hcs]; exact memN_iff.1 hm)
        · cases hc
    refine good_op hT hk hv rfl hst he K Q (fun val w' g' f hu hs => hK _ _ g' ?_)
    unfold Rc.app
    simp only [hres]
    cases hdd : rc.o.dst with
    | none => exact hr.next' res.upd f hu
    | some d => exact hr.next res.upd f hu d res.sv val (hd d hdd) hs
  · rename_i hres
    rw [if_neg (by rw [hgd hok]; simp)]
    refine hK _ _ g ?_
    unfold Rc.app
    simp only [hres]
    cases hdd : rc.o.dst with
    | none => exact hr
    | some d => exact hr.pure d _ _ (hd d hdd) rfl

def dstsOk (nt : Nat × Nat) : List Rc → Bool
  | [] => true
  | rc :: l => (match rc.o.dst with | some d => Nat.ble nt.1 d && Nat.blt d nt.2 | none => true) && dstsOk nt l

theorem dstsOk_spec {nt : Nat × Nat} {rc : Rc} {d : Nat} (hd : rc.o.dst = some d) : ∀ {l : List Rc}, dstsOk nt l = true → rc ∈ l → inNt d nt := by
  intro l
  induction l with
  | nil => intro _ hm; cases hm
  | cons r l ih =>
    intro h hm
    simp only [dstsOk, Bool.and_eq_true] at h
    rcases List.mem_cons.1 hm with rfl | hm
    · rw [hd] at h
      have h1 := h.1
      simp only [Bool.and_eq_true] at h1
      exact ⟨Nat.le_of_ble_eq_true h1.1, Nat.le_of_ble_eq_true h1.2⟩
    · exact ih h.2 hm

/-- In the text's order. -/
theorem recs_list {x : Fx} {B : Tabs} (hT : TabOk x.P B.T) {all : Array Oper} {ρ : List V} {Q : Exit → Act → World → Prop} : ∀ {rs : List Rc} {Γ : G} {a : Act} {w : World} {g : Gh}, RcsOk B x.P all.toList ρ Γ rs → dstsOk x.nt rs = true →
    Rel x Γ ρ a w g → (∀ a' w' g', Rel x (appAll Γ rs) ρ a' w' g' → Q .normal a' w') → wpList x.P all Q (rs.map Rc.o) a w
  | [], Γ, a, w, g, _, _, hr, hQ => hQ a w g hr
  | rc :: rs, Γ, a, w, g, hok, hd, hr, hQ => by
    have hd' : ∀ d, rc.o.dst = some d → inNt d x.nt := fun d h => dstsOk_spec h hd List.mem_cons_self
    simp only [dstsOk, Bool.and_eq_true] at hd
    refine wpList_step fun K hK => ?_
    exact rc_step hT hok.1 (fun _ _ => rfl) (fun _ _ => rfl) hd' hr (fun a' w' g' hr' => hK _ _ (recs_list hT hok.2 hd.2 hr' hQ))

end Go.Proofs.YteleedlkdadogaaGreat.Fw
