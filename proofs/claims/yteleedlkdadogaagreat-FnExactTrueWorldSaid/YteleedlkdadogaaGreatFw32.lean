/- Calls of functions that change what they are handed, 2: what comes back. -/
import Derived.Test.YteleedlkdadogaaGreatFw31
namespace Go.Proofs.YteleedlkdadogaaGreat.Fw
open Go.RowKit

def resCellsK (kp : List Nat) (id : Nat) (y : E) (old : Nat → CV) : Nat → Sh → List CV
  | j, .cons h t => (if memK j kp then old j else resCV (id + j) h (.pj y j)) :: resCellsK kp id y old (j + 1) t
  | _, _ => []

def resChsK (kp : List Nat) (id : Nat) (y : E) : Nat → Sh → List (Nat × Ch)
  | j, .cons h t => (if memK j kp then [] else resCh (id + j) h (.pj y j)) ++ resChsK kp id y (j + 1) t
  | _, _ => []

def kdOne (id : Nat) (k : Kd) (y : E) : Bool × List CV :=
  match k with
  | .rd s => if s.isSt then (true, rdCells .st s y) else (false, [leafOf .st s y])
  | .val s => resOne id s y
  | .pt _ _ _ => (false, [.ptr id 0])
  | .fn f => (false, [.fn f])

def kdCh (id : Nat) (k : Kd) (y : E) : List (Nat × Ch) :=
  match k with
  | .val s => resOneCh id s y
  | .pt s ty kp => (id, .box (resCellsK kp (id + 1) y (fun j => .pin (id + 1 + j)) 0 s) ty) :: resChsK kp (id + 1) y 0 s
  | _ => []

def kdAll : Nat → Nat → List Kd → List (Bool × List CV)
  | _, _, [] => []
  | id, n, k :: ks => kdOne id k (.v n) :: kdAll (id + k.wd) (n + 1) ks

def kdAllCh : Nat → Nat → List Kd → List (Nat × Ch)
  | _, _, [] => []
  | id, n, k :: ks => kdCh id k (.v n) ++ kdAllCh (id + k.wd) (n + 1) ks

def cellAt (w : World) (v : Value) (j : Nat) : Option Value :=
  match v with
  | .pointer (some ⟨b, _, _⟩) => (match w.heap[b]? with
    | some (.cells cs _ _) => cs[j]?
    | _ => none)
  | _ => none

def kdVal (w : World) (k : Kd) (v : Value) (i : Nat) : Option Value :=
  match k with
  | .val s => resVal s v i
  | .pt _ _ _ => (match i with
    | 0 => some v
    | i + 1 => cellAt w v i)
  | _ => none

def kdVals (w : World) : Nat → List Kd → List Value → Nat → Option Value
  | id, k :: ks, v :: vs, c => if id ≤ c ∧ c < id + k.wd then kdVal w k v (c - id) else kdVals w (id + k.wd) ks vs c
  | _, _, _, _ => none

theorem resCh_key {i : Nat} {s : Sh} {y : E} {c : Nat} {h : Ch} (hm : (c, h) ∈ resCh i s y) : c = i := by
  cases s <;> simp [resCh] at hm
  exact hm.1

theorem resChsK_ge {kp : List Nat} {id : Nat} {y : E} : ∀ (r : Sh) (j : Nat) {c : Nat} {h : Ch}, (c, h) ∈ resChsK kp id y j r → id + j ≤ c ∧ c < id + j + r.sz := by
  intro r
  induction r with
  | cons s t ih1 ih2 =>
    intro j c h hm
    simp only [resChsK, List.mem_append] at hm
    rcases hm with hm | hm
    · split at hm
      · cases hm
      · have := resCh_key hm; subst this; simp only [Sh.sz]; omega
    · have := ih2 (j + 1) hm; simp only [Sh.sz]; omega
  | _ => intro j c h hm; simp [resChsK] at hm

theorem kdCh_ge {id : Nat} {k : Kd} {y : E} {c : Nat} {h : Ch} (hm : (c, h) ∈ kdCh id k y) : id ≤ c ∧ c < id + k.wd := by
  unfold kdCh at hm
  split at hm
  · exact resOneCh_ge c h hm
  · rename_i s ty kp
    simp only [List.mem_cons, Prod.mk.injEq] at hm
    rcases hm with ⟨rfl, _⟩ | hm
    · simp only [Kd.wd]; omega
    · have := resChsK_ge s 0 hm
      simp only [Kd.wd]; omega
  · cases hm

theorem kdAllCh_ge : ∀ {ks : List Kd} {id n : Nat} {c : Nat} {h : Ch}, (c, h) ∈ kdAllCh id n ks → id ≤ c ∧ c < id + sumKd ks
  | [], _, _, _, _, hm => by cases hm
  | k :: ks, id, n, c, h, hm => by
    simp only [kdAllCh, List.mem_append] at hm
    simp only [sumKd]
    rcases hm with hm | hm
    · have := kdCh_ge hm; omega
    · have := kdAllCh_ge hm; omega

section
variable {x : Fx} {Γ : G} {ρ : List V} {a : Act} {w : World} {g : Gh} {sl : Nat → SV} {ch : Nat → Option Ch} {o : Oper} {res : Res}

theorem res_cellsK {w' : World} {g' : Gh} {L' : Nat → List Nat} {kp : List Nat} {id : Nat} {y : E} {fs : List V} {cs : List Value} {old : Nat → CV} (hy : y.den ρ = some (.t fs)) :
    ∀ (r : Sh) (j : Nat) (ds : List Value), r.chain = true → cs.drop j = ds → ds.length = r.sz → (fs.drop j).length = r.sz →
      (∀ i d, memK (j + i) kp = true → cs[j + i]? = some d → (old (j + i)).ok x w' g' ρ d) →
      (∀ i s u d, memK (j + i) kp = false → r.leaf i = some s → fs[j + i]? = some u → cs[j + i]? = some d → Own w' L' s u [d] [id + (j + i)]) →
      (∀ c sh v cs, Own w' L' sh v cs [c] → Own w' g'.L sh v cs [c]) → (∀ i d, (∃ h, (id + (j + i), h) ∈ resChsK kp id y j r) → cs[j + i]? = some d → g'.io (id + (j + i)) = some d) →
      (∀ c, (∃ h, (c, h) ∈ resChsK kp id y j r) → g'.gv c = 1) →
      cellsOk (CV.ok x w' g' ρ) (resCellsK kp id y old j r) ds ∧ ∀ c' h, (c', h) ∈ resChsK kp id y j r → h.ok x w' g' ρ c' := by
  intro r
  induction r with
  | nil => intro j ds _ _ hl _ _ _ _ _ _; rw [List.eq_nil_of_length_eq_zero hl]; exact ⟨trivial, fun c' h hm => by simp [resChsK] at hm⟩
  | cons s t ih1 ih2 =>
    intro j ds hc hd hl hfl hold how hL hio hgv
    match ds, hl with
    | d :: ds, hl =>
      have hj : cs[j]? = some d := by have := congrArg (·[0]?) hd; simpa using this
      have hd' : cs.drop (j + 1) = ds := by have := congrArg (List.drop 1) hd; simpa using this
      obtain ⟨u, hu⟩ : ∃ u, fs[j]? = some u := ⟨fs[j]'(by simp [Sh.sz] at hfl; omega), List.getElem?_eq_getElem _⟩
      have h2 := ih2 (j + 1) ds hc hd' (by simpa [Sh.sz] using hl) (by simp [Sh.sz] at hfl ⊢; omega)
        (fun i d' e0 e3 => by rw [show j + 1 + i = j + (i + 1) by omega] at e0 e3 ⊢; exact hold (i + 1) d' e0 e3)
        (fun i s' u' d' e0 e1 e2 e3 => by rw [show j + 1 + i = j + (i + 1) by omega] at e0 e2 e3 ⊢; exact how (i + 1) s' u' d' e0 e1 e2 e3) hL
        (fun i d' ⟨h, hm⟩ e3 => by
          rw [show j + 1 + i = j + (i + 1) by omega] at hm e3 ⊢
          exact hio (i + 1) d' ⟨h, by simp only [resChsK, List.mem_append]; right; exact hm⟩ e3)
        (fun c ⟨h, hm⟩ => hgv c ⟨h, by simp only [resChsK, List.mem_append]; right; exact hm⟩)
      by_cases hk : memK j kp = true
      · refine ⟨⟨?_, h2.1⟩, fun c' h hm => ?_⟩
        · rw [if_pos hk]; exact hold 0 d (by simpa using hk) (by simpa using hj)
        · simp only [resChsK, hk, if_true, List.nil_append] at hm
          exact h2.2 c' h hm
      · have hk' : memK j kp = false := by simpa using hk
        have h1 := res_leaf (x := x) (ρ := ρ) (g' := g') (c := id + j) (y := .pj y j) (by simp [E.den, hy, hu]) (how 0 s u d (by simpa using hk') rfl (by simpa using hu) (by simpa using hj)) (hL _)
          (fun ⟨h, hm⟩ => by have := hio 0 d ⟨h, by simp only [resChsK, List.mem_append]; left; rw [if_neg hk]; simpa using hm⟩ (by simpa using hj); simpa using this)
          (fun ⟨h, hm⟩ => hgv _ ⟨h, by simp only [resChsK, List.mem_append]; left; rw [if_neg hk]; exact hm⟩)
        refine ⟨⟨?_, h2.1⟩, fun c' h hm => ?_⟩
        · rw [if_neg hk]; exact h1.1
        · simp only [resChsK, List.mem_append] at hm
          rw [if_neg hk] at hm
          rcases hm with hm | hm
          · exact h1.2 c' h hm
          · exact h2.2 c' h hm
  | _ => intro j ds hc; cases hc

theorem kd_ok {w' : World} {g' : Gh} {L' : Nat → List Nat} {S' : Nat → Prop} {k : Kd} {id : Nat} {n : Nat} {u : V} {v : Value} (h : KdOk w' S' L' (fun j => [id + j]) k u v) (hy : (E.v n).den ρ = some u)
    (hS : ∀ s, k = .rd s → ∀ b, S' b → Src.st.S x g' b) (hL : ∀ c sh v cs, Own w' L' sh v cs [c] → Own w' g'.L sh v cs [c]) (hL1 : ∀ b c, L' b = [c] → g'.L b = [c])
    (hio : ∀ c h, (c, h) ∈ kdCh id k (.v n) → g'.io c = kdVal w' k v (c - id)) (hgv : ∀ c h, (c, h) ∈ kdCh id k (.v n) → g'.gv c = 1)
    (hpin : ∀ s ty kp, k = .pt s ty kp → ∀ j d, memK j kp = true → cellAt w' v j = some d → d = x.pins (id + 1 + j)) :
    oneOk (CV.ok x w' g' ρ) (kdOne id k (.v n)) v ∧ ∀ c h, (c, h) ∈ kdCh id k (.v n) → h.ok x w' g' ρ c := by
  cases k with
  | rd s =>
    refine ⟨?_, fun c h hm => by cases hm⟩
    simp only [KdOk, RdOk] at h
    simp only [kdOne]
    by_cases hs : s.isSt = true
    · rw [if_pos hs] at h ⊢
      obtain ⟨cs, rfl, hrd⟩ := h
      exact ⟨cs, rfl, rdCells_ok (src := .st) trivial trivial hy (hrd.frame (fun b hb => ⟨rfl, hS s rfl b hb⟩))⟩
    · rw [if_neg hs] at h ⊢
      exact ⟨leafOf_ok (src := .st) trivial trivial hy (h.frame (fun b hb => ⟨rfl, hS s rfl b hb⟩)), trivial⟩
  | val r =>
    simp only [KdOk, ResOk] at h
    simp only [kdOne, kdCh, resOne, resOneCh] at hio hgv ⊢
    simp only [kdVal, resVal] at hio
    by_cases hs : r.isSt = true
    · simp only [hs, if_true] at *
      obtain ⟨fs, cs, rfl, rfl, hch, hfl, hcl, hleaf⟩ := h
      have := res_cells (x := x) (ρ := ρ) (g' := g') (w' := w') (L' := L') (id := id) (y := .v n) (fs := fs) (cs := cs) hy r 0 cs hch rfl hcl (by simpa using hfl)
        (fun i s u d e1 e2 e3 => by rw [Nat.zero_add] at *; exact hleaf i s u d e1 e2 e3) hL
        (fun i d ⟨h, hm⟩ e3 => by rw [hio _ h hm]; simpa using e3) (fun c ⟨h, hm⟩ => hgv c h hm)
      exact ⟨⟨cs, rfl, this.1⟩, this.2⟩
    · simp only [hs, if_false, Bool.false_eq_true] at *
      have := res_leaf (x := x) (ρ := ρ) (g' := g') (c := id) (y := .v n) hy h (hL _) (fun ⟨h, hm⟩ => hio id h hm) (fun ⟨h, hm⟩ => hgv id h hm)
      exact ⟨⟨this.1, trivial⟩, this.2⟩
  | pt s ty kp =>
    obtain ⟨b, fs, cs, rfl, rfl, hLb, hh, hch, hfl, hcl, hleaf⟩ := h
    have hcell : ∀ j, cellAt w' (.pointer (some ⟨b, 0, none⟩)) j = cs[j]? := by intro j; simp only [cellAt, hh]; simp
    have hmem : ∀ c h, (c, h) ∈ resChsK kp (id + 1) (.v n) 0 s → (c, h) ∈ kdCh id (.pt s ty kp) (.v n) := fun c h hm => List.mem_cons_of_mem _ hm
    have hid : g'.io id = some (.pointer (some ⟨b, 0, none⟩)) := by
      have := hio id _ List.mem_cons_self
      simpa [kdVal] using this
    have := res_cellsK (x := x) (ρ := ρ) (g' := g') (w' := w') (L' := L') (kp := kp) (id := id + 1) (y := .v n) (fs := fs) (cs := cs) (old := fun j => .pin (id + 1 + j)) hy s 0 cs hch rfl hcl (by simpa using hfl)
      (fun i d e0 e3 => by rw [Nat.zero_add] at *; exact hpin s ty kp rfl i d e0 (by rw [hcell]; exact e3))
      (fun i s' u d e0 e1 e2 e3 => by
        rw [Nat.zero_add] at *
        have := hleaf i s' u d e0 e1 e2 e3
        rw [show id + 1 + i = id + (i + 1) by omega]
        exact this) hL
      (fun i d ⟨h, hm⟩ e3 => by
        rw [Nat.zero_add] at *
        have := hio _ h (hmem _ _ hm)
        rw [this, show id + 1 + i - id = i + 1 by omega]
        simp only [kdVal]
        rw [hcell]; exact e3)
      (fun c ⟨h, hm⟩ => hgv c h (hmem _ _ hm))
    refine ⟨⟨⟨b, hid, rfl⟩, trivial⟩, fun c h hm => ?_⟩
    simp only [kdCh, List.mem_cons, Prod.mk.injEq] at hm
    rcases hm with ⟨rfl, rfl⟩ | hm
    · exact ⟨b, cs, hid, hL1 b _ (by simpa using hLb), hh, this.1⟩
    · exact this.2 c h hm
  | fn f => exact ⟨⟨h, trivial⟩, fun c h hm => by cases hm⟩

theorem kds_all {w' : World} {g' : Gh} {L' : Nat → List Nat} {S' : Nat → Prop} {lab : Nat → Nat → List Nat} : ∀ {ks : List Kd} {id n k : Nat} {us : List V} {vals : List Value}, kdsOk w' S' L' lab k ks us vals → (∀ k' j, k' < ks.length → lab (k + k') j = kdLab id ks k' j) →
    (∀ j, j < ks.length → ρ[n + j]? = us[j]?) → (∀ s, .rd s ∈ ks → ∀ b, S' b → Src.st.S x g' b) → (∀ c sh v cs, Own w' L' sh v cs [c] → Own w' g'.L sh v cs [c]) → (∀ b c, L' b = [c] → g'.L b = [c]) →
    (∀ c h, (c, h) ∈ kdAllCh id n ks → g'.io c = kdVals w' id ks vals c) → (∀ c h, (c, h) ∈ kdAllCh id n ks → g'.gv c = 1) →
    (∀ c d, (∃ s ty kp, .pt s ty kp ∈ ks ∧ kp ≠ []) → kdVals w' id ks vals c = some d → d = x.pins c) →
    tupOk (CV.ok x w' g' ρ) (kdAll id n ks) vals ∧ ∀ c h, (c, h) ∈ kdAllCh id n ks → h.ok x w' g' ρ c
  | [], id, n, k, [], [], _, _, _, _, _, _, _, _, _ => ⟨trivial, fun c h hm => by cases hm⟩
  | r :: rs, id, n, k, u :: us, v :: vals, hr, hlab, hρ, hS, hL, hL1, hio, hgv, hpin => by
    have hy : (E.v n).den ρ = some u := by have := hρ 0 (by simp); simpa [E.den] using this
    have hlab0 : lab k = fun j => [id + j] := by funext j; exact hlab 0 j (by simp)
    have hh := hr.1
    rw [hlab0] at hh
    have h1 := kd_ok (x := x) (ρ := ρ) (g' := g') hh hy (fun s hs => hS s (by subst hs; exact List.mem_cons_self)) hL hL1
      (fun c h hm => by
        have hge := kdCh_ge hm
        rw [hio c h (by simp only [kdAllCh, List.mem_append]; left; exact hm)]
        simp only [kdVals]
        rw [if_pos hge])
      (fun c h hm => hgv c h (by simp only [kdAllCh, List.mem_append]; left; exact hm))
      (fun s ty kp hk j d hj hd => by
        subst hk
        have hlt : j < s.sz := by
          obtain ⟨b, fs, cs, _, rfl, _, hh', _, _, hcl, _⟩ := hh
          simp only [cellAt, hh'] at hd
          have := (Array.getElem?_eq_some_iff.1 hd).1
          simpa [hcl] using this
        refine hpin (id + 1 + j) d ⟨s, ty, kp, List.mem_cons_self, by intro e; subst e; cases hj⟩ ?_
        simp only [kdVals]
        rw [if_pos ⟨by omega, by simp only [Kd.wd]; omega⟩, show id + 1 + j - id = j + 1 by omega]
        exact hd)
    obtain ⟨t1, t2⟩ := kds_all (n := n + 1) (id := id + r.wd) hr.2 (fun k' j hk' => by rw [show k + 1 + k' = k + (k' + 1) by omega]; exact hlab (k' + 1) j (by simp; omega))
      (fun j hj => by rw [show n + 1 + j = n + (j + 1) by omega]; have := hρ (j + 1) (by simp; omega); simpa using this) (fun s hs => hS s (List.mem_cons_of_mem _ hs)) hL hL1
      (fun c h hm => by
        have hge := kdAllCh_ge hm
        rw [hio c h (by simp only [kdAllCh, List.mem_append]; right; exact hm)]
        simp only [kdVals]
        rw [if_neg (by omega)])
      (fun c h hm => hgv c h (by simp only [kdAllCh, List.mem_append]; right; exact hm))
      (fun c d ⟨s, ty, kp, hm, hne⟩ hd => by
        by_cases hc : id ≤ c ∧ c < id + r.wd
        · exfalso
          have hlow : ∀ (ks : List Kd) (id : Nat) (vals : List Value) (d : Value), kdVals w' id ks vals c = some d → id ≤ c := by
            intro ks
            induction ks with
            | nil => intro id vals d h; simp [kdVals] at h
            | cons k ks ih =>
              intro id vals d h
              cases vals with
              | nil => simp [kdVals] at h
              | cons v vals =>
                simp only [kdVals] at h
                split at h
                · omega
                · have := ih _ _ _ h; omega
          have := hlow _ _ _ _ hd
          omega
        · refine hpin c d ⟨s, ty, kp, List.mem_cons_of_mem _ hm, hne⟩ ?_
          simp only [kdVals]
          rw [if_neg hc]
          exact hd)
    refine ⟨⟨h1.1, t1⟩, fun c h hm => ?_⟩
    simp only [kdAllCh, List.mem_append] at hm
    rcases hm with hm | hm
    · exact h1.2 c h hm
    · exact t2 c h hm
  | [], _, _, _, _ :: _, _, hr, _, _, _, _, _, _, _, _ => hr.elim
  | [], _, _, _, [], _ :: _, hr, _, _, _, _, _, _, _, _ => hr.elim
  | _ :: _, _, _, _, [], _, hr, _, _, _, _, _, _, _, _ => hr.elim
  | _ :: _, _, _, _, _ :: _, [], hr, _, _, _, _, _, _, _, _ => hr.elim

end
end Go.Proofs.YteleedlkdadogaaGreat.Fw
