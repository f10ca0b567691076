/- A region: its operations in the text's order, and in any. -/
import Derived.Test.YteleedlkdadogaaGreatFw16
namespace Go.Proofs.YteleedlkdadogaaGreat.Fw
open Go.RowKit

theorem count_set_true : ∀ {l : List Bool} {j : Nat}, l[j]? = some false → (l.set j true).count false + 1 = l.count false
  | b :: l, 0, h => by simp at h; subst h; simp
  | b :: l, j + 1, h => by
    have := count_set_true (l := l) (j := j) (by simpa using h)
    simp only [List.set_cons_succ, List.count_cons]
    omega

theorem mem_preds {o : Oper} {p : Nat} : p ∈ preds o ↔ ∃ e ∈ o.after, Region.binds .any e = true ∧ e.on = p := by
  simp only [preds, List.mem_map, List.mem_filter, Array.mem_toList_iff]
  constructor
  · rintro ⟨e, ⟨h1, h2⟩, h3⟩; exact ⟨e, h1, h2, h3⟩
  · rintro ⟨e, h1, h2, h3⟩; exact ⟨e, ⟨h1, h2⟩, h3⟩

theorem getD_some {l : Array Bool} {i : Nat} {d b : Bool} (h : l[i]? = some b) : l.getD i d = b := by simp [Array.getD_eq_getD_getElem?, h]

section
variable {x : Fx} {B : Tabs} {all : Array Oper} {ρ : List V} {Q : Exit → Act → World → Prop} {rs : List Rc} {Γ : G}

theorem recs_any (hT : TabOk x.P B.T) (hok : RcsOk B x.P all.toList ρ Γ rs) (hd : dstsOk x.nt rs = true) {anc : Nat → Nat} (ho : Ordered all.toList rs anc) (hmap : rs.map Rc.o = all.toList)
    (hQ : ∀ a' w' g', Rel x (appAll Γ rs) ρ a' w' g' → Q .normal a' w') : ∀ (fuel : Nat) (listed : Array Bool) (a : Act) (w : World) (g : Gh), listed.size = all.size → listed.toList.count false ≤ fuel →
    Closed rs (fun i => listed.getD i false) → Rel x (appS (fun i => listed.getD i false) 0 rs Γ) ρ a w g → wpAny x.P .any all Q fuel listed a w := by
  have hlen : rs.length = all.size := by have := congrArg List.length hmap; simpa using this
  have hat : ∀ (j : Nat) (o : Oper), all[j]? = some o → ∃ rc, rs[j]? = some rc ∧ rc.o = o := by
    intro j o h
    have : (rs.map Rc.o)[j]? = some o := by rw [hmap]; simpa using h
    simpa [List.getElem?_map, Option.map_eq_some_iff] using this
  have hdone : ∀ (listed : Array Bool) (a : Act) (w : World) (g : Gh), listed.size = all.size → Region.ready .any all listed = [] → Rel x (appS (fun i => listed.getD i false) 0 rs Γ) ρ a w g → Q .normal a w := by
    intro listed a w g hsz hr hrel
    have hall : ∀ j, j < all.size → listed.getD j false = true := by
      intro j
      induction j using Nat.strongRecOn with
      | ind j ih =>
        intro hj
        rcases Bool.eq_false_or_eq_true (listed.getD j false) with h | h
        · exact h
        · exfalso
          obtain ⟨rc, hrc, hrco⟩ := hat j _ (Array.getElem?_eq_getElem hj)
          have : j ∈ Region.ready .any all listed := mem_ready.2 ⟨by rw [getD_some (Array.getElem?_eq_getElem (by omega))] at h ⊢; exact h, _, Array.getElem?_eq_getElem hj, fun e he hb => by
            have hp : e.on ∈ preds rc.o := by rw [hrco]; exact mem_preds.2 ⟨e, he, hb, rfl⟩
            have := ho.lt j rc e.on hrc hp
            exact ih e.on this (by omega)⟩
          rw [hr] at this; cases this
    rw [appS_all (fun i hi => by rw [Nat.zero_add]; exact hall i (by omega))] at hrel
    exact hQ a w g hrel
  intro fuel
  induction fuel with
  | zero =>
    intro listed a w g hsz hc hcl hrel
    have hr : Region.ready .any all listed = [] := by
      cases hr : Region.ready .any all listed with
      | nil => rfl
      | cons j l =>
        obtain ⟨h1, o, h2, _⟩ := mem_ready.1 (show j ∈ Region.ready .any all listed by rw [hr]; simp)
        have hj : j < listed.size := by rw [hsz]; exact (Array.getElem?_eq_some_iff.1 h2).1
        rw [getD_some (Array.getElem?_eq_getElem hj)] at h1
        have hm : false ∈ listed.toList := by rw [← h1]; simp
        have := List.count_pos_iff.2 hm
        omega
    exact ⟨hr, hdone listed a w g hsz hr hrel⟩
  | succ fuel ih =>
    intro listed a w g hsz hc hcl hrel
    refine ⟨fun hr => hdone listed a w g hsz hr hrel, fun j hj => ?_⟩
    obtain ⟨h1, o, h2, h3⟩ := mem_ready.1 hj
    have hjlt : j < listed.size := by rw [hsz]; exact (Array.getElem?_eq_some_iff.1 h2).1
    have hjf : listed.toList[j]? = some false := by
      rw [getD_some (Array.getElem?_eq_getElem hjlt)] at h1
      simp [h1, hjlt]
    obtain ⟨rc, hrc, rfl⟩ := hat j o h2
    have hp : ∀ p ∈ preds rc.o, listed.getD p false = true := fun p hp => by
      obtain ⟨e, he, hb, rfl⟩ := mem_preds.1 hp
      exact h3 e he hb
    have hn : listed.getD j false = false := getD_some (by simpa using hjf)
    obtain ⟨hagS, hagC⟩ := appS_agree ho hcl hrc hn hp Γ
    have hset : ∀ i, (listed.setIfInBounds j true).getD i false = (listed.getD i false || Nat.beq i j) := by
      intro i
      simp only [Array.getD_eq_getD_getElem?, Array.getElem?_setIfInBounds]
      by_cases e : j = i
      · subst e; simp [hjlt]
      · have : Nat.beq i j = false := by cases e' : Nat.beq i j with | false => rfl | true => exact absurd (Nat.eq_of_beq_eq_true e').symm e
        simp [e, this]
    obtain ⟨hinS, hinC⟩ := appS_insert ho hcl hrc hn (S' := fun i => (listed.setIfInBounds j true).getD i false) hset Γ
    have hstep := rc_step (x := x) (B := B) hT (hok.at j rc hrc) hagS hagC (fun d h => dstsOk_spec h hd (List.mem_of_getElem? hrc)) hrel
      (K := wpAny x.P .any all Q fuel (listed.setIfInBounds j true)) (Q := Q) (fun a' w' g' hr' => by
        refine ih _ a' w' g' (by simpa using hsz) ?_ ?_ (hr'.congr hinS hinC)
        · have := count_set_true hjf
          simp only [Array.toList_setIfInBounds]
          omega
        · intro i r hi hSi p hpp
          simp only [hset, Bool.or_eq_true] at hSi ⊢
          left
          rcases hSi with h | h
          · exact hcl i r hi h p hpp
          · have := Nat.eq_of_beq_eq_true h
            subst this
            rw [hrc] at hi; cases hi
            exact hp p hpp)
    unfold wpOp
    rw [h2]
    simp only
    split
    · rename_i hw; rw [if_pos hw] at hstep; exact .inl hstep
    · rename_i hw; rw [if_neg hw] at hstep; exact hstep

theorem Rel.drew {a : Act} {w : World} {g : Gh} (h : Rel x Γ ρ a w g) : Rel x Γ ρ a { w with drawn := w.drawn + 1 } g :=
  h.next' [] ⟨by simp [look], fun _ _ _ => ⟨rfl, rfl⟩, fun _ _ h => h, fun _ _ => rfl, fun _ _ => rfl, fun c hc => by simp [look] at hc, Nat.le_refl _, h.high, ⟨rfl, rfl, rfl⟩⟩ (fun c ch hc => by simp [look] at hc)

/-- A region's end: with what it has done, each of its records as it should be. -/
def regEnd (nt : Nat × Nat) (all : List Oper) (draw : Bool) (fin : St → Option A) (s : St) (rs : List Rc) : Option A :=
  if dstsOk nt rs && (!draw || orderOk all rs 0 []) then fin s else none

def region (B : Tabs) (nt : Nat × Nat) (ops : List Oper) (draw : Bool) (s : St) (fin : St → Option A) : Option A := regT B ops (regEnd nt ops draw fin) ops s []

/-- A region does what its program tells. -/
theorem region_wp {R : Nat → List V → Prop} (hT : TabOk x.P B.T) (hmix : x.P.follows .mixedOrders = true) {id : Nat} {ops : Array Oper} {draw : Bool} {s : St} {fin : St → Option A} {A0 : A} {a : Act} {w : World} {g : Gh}
    (h : region B x.nt ops.toList draw s fin = some A0) (hw : A0.wp (CC x.P B.S) R ρ) (hr : Rel x s.Γ ρ a w g) (hk : KnOk ρ s.kn) (hn : s.n = ρ.length)
    (hQ : ∀ δ s' A1 a' w' g', fin s' = some A1 → A1.wp (CC x.P B.S) R (ρ ++ δ) → Rel x s'.Γ (ρ ++ δ) a' w' g' → KnOk (ρ ++ δ) s'.kn → s'.n = (ρ ++ δ).length → Q .normal a' w') :
    (Code.region id ops draw).wp x.P Q a w := by
  obtain ⟨δ, rs, s', A1, h1, h2, h3, h4, h5, h6, h7⟩ := regT_wp h hw hk hn
  simp only [List.nil_append, regEnd] at h6
  split at h6
  · rename_i hc
    simp only [Bool.and_eq_true, Bool.or_eq_true, Bool.not_eq_true'] at hc
    have hend : ∀ a' w' g', Rel x (appAll s.Γ rs) (ρ ++ δ) a' w' g' → Q .normal a' w' := fun a' w' g' hr' => hQ δ s' A1 a' w' g' h6 h7 (by rw [h3]; exact hr') h4 h5
    cases draw with
    | false =>
      refine wp_region_list ?_
      rw [← h2]
      exact recs_list hT h1 hc.1 (hr.app δ) hend
    | true =>
      obtain ⟨anc, ho⟩ := orderOk_ordered (hc.2.resolve_left (by simp))
      have hlen : rs.length = ops.size := by have := congrArg List.length h2; simpa using this
      refine wp_region_any hmix (recs_any hT h1 hc.1 ho h2 hend ops.size _ a _ g (by simp) (by simp) ?_ ?_)
      · intro j rc hj hS
        have hlt : j < ops.size := by rw [← hlen]; exact (List.getElem?_eq_some_iff.1 hj).1
        have h0 : (Array.replicate ops.size false).getD j false = false := getD_some (by rw [Array.getElem?_replicate, if_pos hlt])
        have hS' : (Array.replicate ops.size false).getD j false = true := hS
        rw [h0] at hS'
        cases hS'
      · rw [appS_none (fun i hi => by
          have h0 : (Array.replicate ops.size false).getD i false = false := getD_some (by rw [Array.getElem?_replicate, if_pos (by omega)])
          simpa using h0)]
        exact (hr.app δ).drew
  · cases h6

end
end Go.Proofs.YteleedlkdadogaaGreat.Fw
