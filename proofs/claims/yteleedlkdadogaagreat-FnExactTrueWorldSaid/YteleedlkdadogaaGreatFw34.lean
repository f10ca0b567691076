/- A function that changes what it is handed, from its parameters to its results. -/
import Derived.Test.YteleedlkdadogaaGreatFw20
namespace Go.Proofs.YteleedlkdadogaaGreat.Fw
open Go.RowKit

def oneSV : Bool × List CV → SV
  | (true, cs) => .agg cs
  | (false, [c]) => .cv c
  | (false, _) => .cv .junk

def slotsOf : Nat → List (Bool × List CV) → List (Nat × SV)
  | _, [] => []
  | i, y :: ys => (i, oneSV y) :: slotsOf (i + 1) ys

def St.startW (ps : List Pk) : St := ⟨⟨slotsOf 0 (kdAll 1 0 (ps.map Pk.kd)), kdAllCh 1 0 (ps.map Pk.kd)⟩, [], ps.length, 1 + sumKd (ps.map Pk.kd)⟩

def roLeaf (ch : Nat → Option Ch) : Sh → CV → Option (E × List Nat)
  | .sl e _, .rd .st e' _ y => if e.beq e' then some (y, []) else none
  | s, c => closeLeaf ch s c

def roCells (ch : Nat → Option Ch) : Sh → List CV → Option (List E × List Nat)
  | .nil, [] => some ([], [])
  | .cons h t, c :: cs => match roLeaf ch h c, roCells ch t cs with
    | some (y, m), some (ys, m') => some (y :: ys, m ++ m')
    | _, _ => none
  | _, _ => none

def roOne (ch : Nat → Option Ch) (p : Sh) (s : SV) : Option (E × List Nat) :=
  if p.isSt then (match s with
    | .agg cs => (match roCells ch p cs with
      | some (ys, m) => some (mkT ys, m)
      | none => none)
    | _ => none)
  else match s with
    | .cv c => roLeaf ch p c
    | _ => none

def endKd (ch : Nat → Option Ch) (k K : Nat) (r : Rk) (s : SV) : Option (E × List (Nat × (Nat × Nat))) :=
  match r with
  | .val sh => endOne ch k sh s
  | .ro sh => (match roOne ch sh s with
    | some (y, m) => some (y, m.map fun d => (d, (K, 0)))
    | none => none)
  | .pt sh ty => (match s with
    | .cv (.ptr d 0) => (match ch d with
      | some (.box cells ty') => if Nat.beq ty ty' && sh.chain && Nat.beq cells.length sh.sz then (match endLeavesK ch [] k sh 0 cells with
          | some (ys, m) => some (mkT ys, (d, (k, 0)) :: m.map fun x => (x.1, (x.2.1, x.2.2 + 1)))
          | none => none) else none
      | _ => none)
    | _ => none)

def endRs (T : Nat → Option TI) (ch : Nat → Option Ch) (sl : Nat → SV) (K : Nat) : Nat → List Rk → List ResultVar → Option (List E × List (Nat × (Nat × Nat)))
  | _, [], [] => some ([], [])
  | k, r :: rs, t :: ts => (match resVar T ch sl t with
    | none => none
    | some s => (match endKd ch k K r s, endRs T ch sl K (k + 1) rs ts with
      | some (y, m), some (ys, m') => some (y :: ys, m ++ m')
      | _, _ => none))
  | _, _, _ => none

def pinsOk (kp : List Nat) (c : Nat) : Nat → List CV → Bool
  | _, [] => true
  | j, d :: ds => (if memK j kp then (match d with | .pin k => Nat.beq k (c + j) | _ => false) else true) && pinsOk kp c (j + 1) ds

/-- What was handed in to be changed, at the end; c: its chunks' number. -/
def endBack (ch : Nat → Option Ch) (k c : Nat) (p : Pk) (s : SV) : Option (E × List (Nat × (Nat × Nat))) :=
  match p with
  | .own sh _ => endOne ch k sh s
  | .ptr sh ty kp => (match s with
    | .cv (.ptr d 0) => (match ch d with
      | some (.box cells ty') => if Nat.beq ty ty' && sh.chain && Nat.beq cells.length sh.sz && pinsOk kp (c + 1) 0 cells then (match endLeavesK ch kp k sh 0 cells with
          | some (ys, m) => some (mkT ys, (d, (k, 0)) :: m.map fun x => (x.1, (x.2.1, x.2.2 + 1)))
          | none => none) else none
      | _ => none)
    | _ => none)
  | _ => none

def endBs (ch : Nat → Option Ch) (sl : Nat → SV) : Nat → Nat → Nat → List Pk → Option (List E × List (Nat × (Nat × Nat)))
  | _, _, _, [] => some ([], [])
  | k, i, c, p :: ps => if p.isBack then (match endBack ch k c p (sl i), endBs ch sl (k + 1) (i + 1) (c + p.kd.wd) ps with
      | some (y, m), some (ys, m') => some (y :: ys, m ++ m')
      | _, _ => none) else endBs ch sl (k + 1) (i + 1) (c + p.kd.wd) ps

def endL0 (lab : Nat → Nat → List Nat) (K : Nat) (mv : List (Nat × (Nat × Nat))) (L : Nat → List Nat) (b : Nat) : List Nat :=
  match (L b).getLast? with
  | some c => if c = 0 then L b else (match look mv c with
    | some (k, j) => (L b).dropLast ++ (if k = K then [0] else lab k j)
    | none => [])
  | none => []

theorem endL0_hit {lab : Nat → Nat → List Nat} {K : Nat} {mv : List (Nat × (Nat × Nat))} {L : Nat → List Nat} {b c k j : Nat} {q : List Nat} (hb : L b = q ++ [c]) (h : look mv c = some (k, j)) (h0 : c ≠ 0) :
    endL0 lab K mv L b = q ++ (if k = K then [0] else lab k j) := by
  simp [endL0, hb, h, h0]

/-- How many slots, from the first on, must stay as they were handed in. -/
def pinN : List Pk → Nat
  | [] => 0
  | p :: ps => if Nat.beq (pinN ps) 0 then (if p.isBack then 1 else 0) else pinN ps + 1

theorem pinN_le : ∀ (ps : List Pk), pinN ps ≤ ps.length
  | [] => Nat.le_refl 0
  | p :: ps => by
    have := pinN_le ps
    simp only [pinN, List.length_cons]
    split
    · split <;> omega
    · omega

theorem pinN_lt : ∀ {ps : List Pk} {j : Nat} {p : Pk}, ps[j]? = some p → p.isBack = true → j < pinN ps
  | [], _, _, h, _ => by simp at h
  | q :: ps, 0, p, h, hb => by
    simp at h; subst h
    simp only [pinN]
    split
    · simp [hb]
    · omega
  | q :: ps, j + 1, p, h, hb => by
    have := pinN_lt (ps := ps) (j := j) (by simpa using h) hb
    simp only [pinN]
    split
    · rename_i h0; have := Nat.eq_of_beq_eq_true h0; omega
    · omega

def compW (B : Tabs) (fn : Func) (H : Nat → Option Tm) (ps : List Pk) (rs : List Rk) : Option A :=
  match fn.body with
  | some c =>
    if Nat.ble ps.length fn.ntmps then
      comp B (pinN ps, fn.ntmps) H c 2 (fun e s =>
        let fin := (match endRs B.T (fun c => some (s.Γ.chunk c)) s.Γ.slot (rs.length + ps.length) 0 rs fn.results.toList, endBs (fun c => some (s.Γ.chunk c)) s.Γ.slot rs.length 0 1 ps with
          | some (es, m), some (es', m') => if nodupB ((m ++ m').map (·.1)) && !(memK 0 ((m ++ m').map (·.1))) then some (A.out 1 (es ++ es')) else none
          | _, _ => none)
        match e with | .normal => fin | .ret => fin | _ => none) (St.startW ps)
    else none
  | _ => none

section
variable {x : Fx} {Γ : G} {ρ : List V} {a : Act} {w : World} {g : Gh} {sl : Nat → SV} {ch : Nat → Option Ch} {lab : Nat → Nat → List Nat} {L' : Nat → List Nat}

theorem roLeaf_ok (hv : Vw x Γ ρ a w g sl ch) {s : Sh} {c : CV} {val : Value} (hc : c.ok x w g ρ val) {y : E} {m : List Nat} (h : roLeaf ch s c = some (y, m)) {R : Nat → Prop} (h0 : ∀ b, Src.st.S x g b → R b)
    (h1 : ∀ d ∈ m, ∀ b q, g.L b = q ++ [d] → R b) : ∃ v, y.den ρ = some v ∧ Rd w R s v [val] := by
  unfold roLeaf at h
  split at h
  · rename_i e et e' et' y'
    split at h
    · rename_i hb
      have := Sh.beq_eq hb
      subst this
      cases h
      obtain ⟨_, _, hbody⟩ := hc
      obtain ⟨v, h3, h4⟩ := hbody trivial
      exact ⟨v, h3, h4.frame (fun b hb => ⟨rfl, h0 b hb⟩)⟩
    · cases h
  · obtain ⟨v, hy, how⟩ := closeLeaf_ok hv hc h
    let L2 : Nat → List Nat := fun b => match (g.L b).getLast? with | some d => if memK d m then (g.L b).dropLast ++ [0] else [] | none => []
    have := how w L2 [0] (fun d hd b q hb => ⟨rfl, by simp only [L2, hb]; simp [memK_iff.2 hd]⟩)
    refine ⟨v, hy, this.rd (fun b q hb => ?_)⟩
    simp only [L2] at hb
    split at hb
    · rename_i d hd
      split at hb
      · rename_i hm
        have hne : g.L b ≠ [] := by intro e; rw [e] at hd; cases hd
        obtain ⟨d', hd'⟩ : ∃ d', g.L b = (g.L b).dropLast ++ [d'] := ⟨(g.L b).getLast hne, (List.dropLast_concat_getLast hne).symm⟩
        have : d' = d := by rw [hd'] at hd; simpa using hd
        subst this
        exact h1 _ (memK_iff.1 hm) b _ hd'
      · simp at hb
    · simp at hb

theorem roCells_ok (hv : Vw x Γ ρ a w g sl ch) {R : Nat → Prop} (h0 : ∀ b, Src.st.S x g b → R b) : ∀ {p : Sh} {cs : List CV} {vals : List Value}, cellsOk (CV.ok x w g ρ) cs vals → ∀ {ys : List E} {m : List Nat}, roCells ch p cs = some (ys, m) →
    (∀ d ∈ m, ∀ b q, g.L b = q ++ [d] → R b) → ∃ vs, denL ρ ys = some vs ∧ Rd w R p (.t vs) vals
  | .nil, [], [], _, ys, m, h, _ => by
    simp only [roCells, Option.some.injEq, Prod.mk.injEq] at h
    obtain ⟨rfl, rfl⟩ := h
    exact ⟨[], rfl, rfl, rfl⟩
  | .cons s t, c :: cs, val :: vals, hc, ys, m, h, h1 => by
    simp only [roCells] at h
    split at h
    · rename_i y m1 ys' m2 e1 e2
      cases h
      obtain ⟨v, hy, hr⟩ := roLeaf_ok hv hc.1 e1 h0 (fun d hd => h1 d (List.mem_append_left _ hd))
      obtain ⟨vs, hvs, hrs⟩ := roCells_ok hv h0 hc.2 e2 (fun d hd => h1 d (List.mem_append_right _ hd))
      exact ⟨v :: vs, by simp [denL, hy, hvs], v, vs, val, vals, rfl, rfl, hr, hrs⟩
    · cases h
  | .nil, _ :: _, _, _, _, _, h, _ => by cases h
  | .nil, [], _ :: _, hc, _, _, _, _ => hc.elim
  | .cons _ _, [], _, _, _, _, h, _ => by cases h
  | .cons _ _, _ :: _, [], hc, _, _, _, _ => hc.elim
  | .int _, _, _, _, _, _, h, _ => by cases h
  | .bool, _, _, _, _, _, h, _ => by cases h
  | .str, _, _, _, _, _, h, _ => by cases h
  | .sl _ _, _, _, _, _, _, h, _ => by cases h

theorem ptr_end (hv : Vw x Γ ρ a w g sl ch) {kp : List Nat} {k d ty ty' : Nat} {sh : Sh} {cells : List CV} {val : Value} (hs : (CV.ptr d 0).ok x w g ρ val) (hd : ch d = some (.box cells ty')) (e1 : ty = ty') (hch : sh.chain = true) (e3 : cells.length = sh.sz)
    {ys : List E} {m : List (Nat × (Nat × Nat))} (hl : endLeavesK ch kp k sh 0 cells = some (ys, m))
    (hL : ∀ d' k' j, (d', (k', j)) ∈ ((d, (k, 0)) :: m.map fun x => (x.1, (x.2.1, x.2.2 + 1))) → ∀ b q, g.L b = q ++ [d'] → L' b = q ++ lab k' j)
    (hL0 : ∀ b q, g.L b = q ++ [d] → L' b = q ++ lab k 0) :
    ∃ v, (mkT ys).den ρ = some v ∧ PtrOk w L' (lab k) sh ty kp v val ∧ ∃ b vs, val = .pointer (some ⟨b, 0, none⟩) ∧ w.heap[b]? = some (.cells vs.toArray ty (0, 0)) ∧ cellsOk (CV.ok x w g ρ) cells vs := by
  subst e1
  obtain ⟨b, hio, hval⟩ := hs
  obtain ⟨b', vs, hio', hLb, hh, hcs⟩ := hv.chok hd
  rw [hio] at hio'
  cases hio'
  obtain ⟨k1, us, k2, k3⟩ := endLeavesK_ok (lab := fun k j => lab k (j + 1)) (L' := L') hv hcs hl (fun d' k' j hm b q hb => by
    exact hL d' k' (j + 1) (List.mem_cons_of_mem _ (List.mem_map.2 ⟨_, hm, rfl⟩)) b q hb)
  refine ⟨.t us, mkT_den k2, ⟨b, us, vs, rfl, hval, by have := hL0 b [] (by simpa using hLb); simpa using this, hh, hch, by rw [denL_length k2, k1, e3], by rw [← hcs.length, e3], fun j s' u d' f0 f1 f2 f3 => ?_⟩, b, vs, hval, hh, hcs⟩
  have := k3 j s' u d' (by simpa using f0) (by simpa using f1) f2 f3
  simpa using this

theorem endKd_ok (hv : Vw x Γ ρ a w g sl ch) {k K : Nat} {r : Rk} {s : SV} {val : Value} (hs : s.ok (CV.ok x w g ρ) val) {y : E} {m : List (Nat × (Nat × Nat))} (h : endKd ch k K r s = some (y, m)) {R : Nat → Prop} (h0 : ∀ b, Src.st.S x g b → R b)
    (hL : ∀ d k j, (d, (k, j)) ∈ m → k ≠ K → ∀ b q, g.L b = q ++ [d] → L' b = q ++ lab k j) (hK : ∀ d j, (d, (K, j)) ∈ m → ∀ b q, g.L b = q ++ [d] → R b) (hk : k ≠ K) : ∃ v, y.den ρ = some v ∧ KdOk w R L' (lab k) r.kd v val := by
  cases r with
  | val sh =>
    refine endOne_ok (lab := lab) (L' := L') hv hs h (fun d k' j hm => hL d k' j hm ?_)
    have : ∀ (r : Sh) (cs : List CV) (j : Nat) (ys : List E) (m : List (Nat × (Nat × Nat))), endLeaves ch k r j cs = some (ys, m) → ∀ z ∈ m, z.2.1 = k := by
      intro r cs
      induction cs with
      | nil => intro j ys m h z hz; simp only [endLeaves, Option.some.injEq, Prod.mk.injEq] at h; obtain ⟨_, rfl⟩ := h; cases hz
      | cons c cs ih =>
        intro j ys m h z hz
        simp only [endLeaves] at h
        split at h
        · cases h
        · split at h
          · rename_i y1 m1 ys2 m2 h1 h2
            cases h
            rcases List.mem_append.1 hz with hz | hz
            · obtain ⟨_, _, rfl⟩ := List.mem_map.1 hz; rfl
            · exact ih _ _ _ h2 z hz
          · cases h
    simp only [endKd, endOne] at h
    split at h
    · split at h
      · split at h
        · split at h
          · rename_i ys m' hl
            cases h
            have := this _ _ _ _ _ hl _ hm
            simp only at this
            rw [this]; exact hk
          · cases h
        · cases h
      · cases h
    · split at h
      · split at h
        · cases h
          obtain ⟨_, _, he⟩ := List.mem_map.1 hm
          cases he
          exact hk
        · cases h
      · cases h
  | ro sh =>
    simp only [endKd] at h
    split at h
    · rename_i y' m' hro
      cases h
      have h1 : ∀ d ∈ m', ∀ b q, g.L b = q ++ [d] → R b := fun d hd => hK d 0 (List.mem_map.2 ⟨d, hd, rfl⟩)
      unfold roOne at hro
      simp only [Rk.kd, KdOk, RdOk]
      split at hro
      · rename_i hst
        simp only [hst, if_true]
        split at hro
        · rename_i cs
          split at hro
          · rename_i ys m2 hc
            cases hro
            obtain ⟨vs, rfl, hcs⟩ := hs
            obtain ⟨us, k1, k2⟩ := roCells_ok hv h0 hcs hc h1
            exact ⟨.t us, mkT_den k1, vs, rfl, k2⟩
          · cases hro
        · cases hro
      · rename_i hst
        simp only [hst, if_false, Bool.false_eq_true]
        split at hro
        · exact roLeaf_ok hv hs hro h0 h1
        · cases hro
    · cases h
  | pt sh ty =>
    simp only [endKd] at h
    split at h
    · rename_i d
      split at h
      · rename_i cells ty' hd
        split at h
        · rename_i hc
          simp only [Bool.and_eq_true] at hc
          split at h
          · rename_i ys m' hl
            cases h
            have hkk : ∀ (cs : List CV) (j : Nat) (ys : List E) (m : List (Nat × (Nat × Nat))), endLeavesK ch [] k sh j cs = some (ys, m) → ∀ z ∈ m, z.2.1 = k := by
              intro cs
              induction cs with
              | nil => intro j ys m h z hz; simp only [endLeavesK, Option.some.injEq, Prod.mk.injEq] at h; obtain ⟨_, rfl⟩ := h; cases hz
              | cons c cs ih =>
                intro j ys m h z hz
                simp only [endLeavesK] at h
                split at h
                · cases h
                · split at h
                  · rename_i y1 m1 ys2 m2 h1 h2
                    cases h
                    rcases List.mem_append.1 hz with hz | hz
                    · obtain ⟨_, _, rfl⟩ := List.mem_map.1 hz; rfl
                    · exact ih _ _ _ h2 z hz
                  · cases h
            obtain ⟨v, k1, k2, _⟩ := ptr_end (lab := lab) (L' := L') hv hs hd (Nat.eq_of_beq_eq_true hc.1.1) hc.1.2 (Nat.eq_of_beq_eq_true hc.2) hl (fun d' k' j hm b q hb => by
              refine hL d' k' j hm ?_ b q hb
              rcases List.mem_cons.1 hm with e | hm
              · cases e; exact hk
              · obtain ⟨z, hz, e⟩ := List.mem_map.1 hm
                cases e
                rw [hkk _ _ _ _ hl z hz]; exact hk) (fun b q hb => hL d k 0 List.mem_cons_self hk b q hb)
            exact ⟨v, k1, k2⟩
          · cases h
        · cases h
      · cases h
    · cases h

theorem endRs_ok {T : Nat → Option TI} (hT : TabOk x.P T) (hv : Vw x Γ ρ a w g sl ch) {K : Nat} {R : Nat → Prop} (h0 : ∀ b, Src.st.S x g b → R b) : ∀ {rs : List Rk} {ts : List ResultVar} {k : Nat} {ys : List E} {m : List (Nat × (Nat × Nat))}, endRs T ch sl K k rs ts = some (ys, m) →
    (∀ d k j, (d, (k, j)) ∈ m → k ≠ K → ∀ b q, g.L b = q ++ [d] → L' b = q ++ lab k j) → (∀ d j, (d, (K, j)) ∈ m → ∀ b q, g.L b = q ++ [d] → R b) → k + rs.length ≤ K →
    ∃ vs vals, denL ρ ys = some vs ∧ valsOk x.P w a.tmps ts vals ∧ kdsOk w R L' lab k (rs.map Rk.kd) vs vals
  | [], [], k, ys, m, h, _, _, _ => by
    simp only [endRs, Option.some.injEq, Prod.mk.injEq] at h
    obtain ⟨rfl, rfl⟩ := h
    exact ⟨[], [], rfl, trivial, trivial⟩
  | r :: rs, t :: ts, k, ys, m, h, hL, hK, hk => by
    simp only [endRs] at h
    split at h
    · cases h
    · rename_i s hs
      obtain ⟨val, hrun, hok⟩ := resVar_ok hT hv hs
      split at h
      · rename_i y m1 ys' m2 h1 h2
        cases h
        simp only [List.length_cons] at hk
        obtain ⟨v, hy, ho⟩ := endKd_ok (lab := lab) (L' := L') hv hok h1 h0 (fun d k j hm => hL d k j (List.mem_append_left _ hm)) (fun d j hm => hK d j (List.mem_append_left _ hm)) (by omega)
        obtain ⟨vs, vals, hvs, hva, hr⟩ := endRs_ok hT hv h0 h2 (fun d k j hm => hL d k j (List.mem_append_right _ hm)) (fun d j hm => hK d j (List.mem_append_right _ hm)) (by omega)
        exact ⟨v :: vs, val :: vals, by simp [denL, hy, hvs], ⟨hrun, hva⟩, ho, hr⟩
      · cases h
  | [], _ :: _, _, _, _, h, _, _, _ => by cases h
  | _ :: _, [], _, _, _, h, _, _, _ => by cases h

theorem pinsOk_spec {kp : List Nat} {c : Nat} : ∀ {cells : List CV} {j : Nat} {vs : List Value}, pinsOk kp c j cells = true → cellsOk (CV.ok x w g ρ) cells vs → ∀ i v, memK (j + i) kp = true → vs[i]? = some v → v = x.pins (c + (j + i))
  | [], j, [], _, _, i, v, _, hi => by simp at hi
  | [], j, _ :: _, _, hc, _, _, _, _ => hc.elim
  | d :: ds, j, [], _, hc, _, _, _, _ => hc.elim
  | d :: ds, j, u :: us, h, hc, i, v, hm, hi => by
    simp only [pinsOk, Bool.and_eq_true] at h
    cases i with
    | zero =>
      simp only [List.getElem?_cons_zero, Option.some.injEq] at hi
      subst hi
      have h1 := h.1
      rw [if_pos (by simpa using hm)] at h1
      split at h1
      · have := Nat.eq_of_beq_eq_true h1
        subst this
        exact hc.1
      · cases h1
    | succ i =>
      rw [show j + (i + 1) = j + 1 + i by omega] at hm ⊢
      exact pinsOk_spec h.2 hc.2 i v hm (by simpa using hi)

theorem endBs_ok (hv : Vw x Γ ρ a w g sl ch) {w0 : World} {args : List Value} : ∀ {ps : List Pk} {k i c : Nat} {as : List Value} {ys : List E} {m : List (Nat × (Nat × Nat))}, endBs ch sl k i c ps = some (ys, m) →
    (∀ d k j, (d, (k, j)) ∈ m → ∀ b q, g.L b = q ++ [d] → L' b = q ++ lab k j) → args.drop i = as → as.length = ps.length → (∀ j p, ps[j]? = some p → p.isBack = true → a.tmps.getD (i + j) undef = args.getD (i + j) undef) →
    (∀ j s ty kp b cs ty' n, ps[j]? = some (.ptr s ty kp) → args[i + j]? = some (.pointer (some ⟨b, 0, none⟩)) → w0.heap[b]? = some (.cells cs ty' (0, 0)) → (∀ l, l < j → True) → n = c + sumKd ((ps.take j).map Pk.kd) → cs.size = s.sz ∧ ∀ l v, l < s.sz → cs[l]? = some v → x.pins (n + 1 + l) = v) →
    ∃ vs, denL ρ ys = some vs ∧ backsOk w0 w L' lab k ps as vs
  | [], k, i, c, as, ys, m, h, _, _, hl, _, _ => by
    simp only [endBs, Option.some.injEq, Prod.mk.injEq] at h
    obtain ⟨rfl, rfl⟩ := h
    cases as with
    | nil => exact ⟨[], rfl, trivial⟩
    | cons _ _ => simp at hl
  | p :: ps, k, i, c, as, ys, m, h, hL, has, hl, htm, hpin => by
    cases as with
    | nil => simp at hl
    | cons v as =>
      have hai : args[i]? = some v := by have := congrArg (·[0]?) has; simpa using this
      have has' : args.drop (i + 1) = as := by have := congrArg (List.drop 1) has; simpa using this
      have hsl : p.isBack = true → (sl i).ok (CV.ok x w g ρ) v := by
        intro hb
        have hti : a.tmps.getD i undef = v := by have := htm 0 p rfl hb; simp only [Nat.add_zero, List.getD_eq_getElem?_getD, hai, Option.getD_some] at this; exact this
        have := hv.sl i; rwa [hti] at this
      have hrest : ∀ {ys m}, endBs ch sl (k + 1) (i + 1) (c + p.kd.wd) ps = some (ys, m) → (∀ d k j, (d, (k, j)) ∈ m → ∀ b q, g.L b = q ++ [d] → L' b = q ++ lab k j) → ∃ vs, denL ρ ys = some vs ∧ backsOk w0 w L' lab (k + 1) ps as vs := fun h hL =>
        endBs_ok hv h hL has' (by simpa using hl) (fun j p hj hb => by rw [show i + 1 + j = i + (j + 1) by omega]; exact htm (j + 1) p (by simpa using hj) hb)
          (fun j s ty kp b cs ty' n e1 e2 e3 e4 e5 => hpin (j + 1) s ty kp b cs ty' n (by simpa using e1) (by rw [show i + (j + 1) = i + 1 + j by omega]; exact e2) e3 (fun _ _ => trivial) (by rw [e5]; simp only [List.take_succ_cons, List.map_cons, sumKd]; omega))
      simp only [endBs] at h
      simp only [backsOk]
      by_cases hb : p.isBack = true
      · rw [if_pos hb] at h
        replace hsl := hsl hb
        simp only [hb, if_true]
        split at h
        · rename_i y m1 ys' m2 h1 h2
          cases h
          obtain ⟨us, k1, k2⟩ := hrest h2 (fun d k j hm => hL d k j (List.mem_append_right _ hm))
          have : ∃ u, y.den ρ = some u ∧ BackOk w0 w L' (lab k) p v u := by
            cases p with
            | rd sh => cases hb
            | fn f => cases hb
            | own sh bk => exact endOne_ok (lab := lab) (L' := L') hv hsl h1 (fun d k j hm => hL d k j (List.mem_append_left _ hm))
            | ptr sh ty kp =>
              simp only [endBack] at h1
              split at h1
              · rename_i d heq
                split at h1
                · rename_i cells ty' hd
                  split at h1
                  · rename_i hc
                    simp only [Bool.and_eq_true] at hc
                    split at h1
                    · rename_i ys2 m' hl2
                      cases h1
                      rw [heq] at hsl
                      obtain ⟨u, k3, k4, b, vs, hval, hh, hcs⟩ := ptr_end (lab := lab) (L' := L') hv hsl hd (Nat.eq_of_beq_eq_true hc.1.1.1) hc.1.1.2 (Nat.eq_of_beq_eq_true hc.1.2) hl2 (fun d' k' j hm => hL d' k' j (List.mem_append_left _ hm)) (fun b q hb => hL d k 0 (List.mem_append_left _ List.mem_cons_self) b q hb)
                      refine ⟨u, k3, k4, ?_⟩
                      intro b0 ty1 ty2 cs cs' e1 e2 e3 j hj
                      rw [hval] at e1
                      cases e1
                      rw [hh] at e3
                      cases e3
                      obtain ⟨p1, p2⟩ := hpin 0 sh ty kp b cs ty1 c rfl (by simpa [hval] using hai) e2 (fun _ _ => trivial) (by simp [sumKd])
                      have hlen : vs.length = sh.sz := by rw [← hcs.length]; exact Nat.eq_of_beq_eq_true hc.1.2
                      by_cases hlt : j < sh.sz
                      · have e4 : cs[j]? = some cs[j] := Array.getElem?_eq_getElem (by omega)
                        have e5 : vs[j]? = some vs[j] := List.getElem?_eq_getElem (by omega)
                        have e6 := pinsOk_spec hc.2 hcs j vs[j] (by simpa using hj) e5
                        have e7 := p2 j _ hlt e4
                        simp only [Nat.zero_add] at e6
                        rw [e4, ← e7, ← e6]
                        simp
                      · rw [Array.getElem?_eq_none (by simp; omega), Array.getElem?_eq_none (by omega)]
                    · cases h1
                  · cases h1
                · cases h1
              · cases h1
          obtain ⟨u, k3, k4⟩ := this
          exact ⟨u :: us, by simp [denL, k3, k1], k4, k2⟩
        · cases h
      · rw [if_neg hb] at h
        simp only [hb, if_false, Bool.false_eq_true]
        exact hrest h hL

end

theorem tup_get {ok : CV → Value → Prop} (hj : ∀ v, ok .junk v) : ∀ {xs : List (Bool × List CV)} {vals : List Value}, tupOk ok xs vals → ∀ (i t : Nat) (s : SV), look (slotsOf i xs) t = some s → ∃ j v, t = i + j ∧ vals[j]? = some v ∧ s.ok ok v
  | [], [], _, i, t, s, h => by simp [slotsOf, look] at h
  | y :: ys, v :: vals, hk, i, t, s, h => by
    simp only [slotsOf, look] at h
    split at h
    · rename_i hb
      have := Nat.eq_of_beq_eq_true hb
      subst this
      cases h
      refine ⟨0, v, rfl, rfl, ?_⟩
      have h1 := hk.1
      unfold oneOk at h1
      unfold oneSV
      split
      · exact h1
      · exact h1.1
      · exact hj v
    · obtain ⟨j, v', h1, h2, h3⟩ := tup_get hj hk.2 (i + 1) t s h
      exact ⟨j + 1, v', by omega, by simpa using h2, h3⟩
  | [], _ :: _, hk, _, _, _, _ => hk.elim
  | _ :: _, [], hk, _, _, _, _ => hk.elim

theorem kdsOk_len {w : World} {S : Nat → Prop} {L : Nat → List Nat} {lab : Nat → Nat → List Nat} : ∀ {ks : List Kd} {k : Nat} {us : List V} {vals : List Value}, kdsOk w S L lab k ks us vals → us.length = ks.length ∧ vals.length = ks.length
  | [], _, [], [], _ => ⟨rfl, rfl⟩
  | _ :: _, _, _ :: _, _ :: _, h => by have := kdsOk_len h.2; simp [this.1, this.2]
  | [], _, _ :: _, _, h => by simp [kdsOk] at h
  | [], _, [], _ :: _, h => by simp [kdsOk] at h
  | _ :: _, _, [], _, h => by simp [kdsOk] at h
  | _ :: _, _, _ :: _, [], h => by simp [kdsOk] at h

theorem kdsOk_get {w : World} {S : Nat → Prop} {L : Nat → List Nat} {lab : Nat → Nat → List Nat} : ∀ {ks : List Kd} {k : Nat} {us : List V} {vals : List Value}, kdsOk w S L lab k ks us vals → ∀ j r v, ks[j]? = some r → vals[j]? = some v → ∃ u, us[j]? = some u ∧ KdOk w S L (lab (k + j)) r u v
  | [], _, [], [], _, j, r, v, h, _ => by simp at h
  | r0 :: ks, k, u :: us, v0 :: vals, h, j, r, v, h1, h2 => by
    cases j with
    | zero => simp at h1 h2; subst h1; subst h2; exact ⟨u, rfl, h.1⟩
    | succ j =>
      obtain ⟨u', e1, e2⟩ := kdsOk_get h.2 j r v (by simpa using h1) (by simpa using h2)
      exact ⟨u', by simpa using e1, by rw [show k + (j + 1) = k + 1 + j by omega]; exact e2⟩
  | [], _, _ :: _, _, h, _, _, _, _, _ => by simp [kdsOk] at h
  | [], _, [], _ :: _, h, _, _, _, _, _ => by simp [kdsOk] at h
  | _ :: _, _, [], _, h, _, _, _, _, _ => by simp [kdsOk] at h
  | _ :: _, _, _ :: _, [], h, _, _, _, _, _ => by simp [kdsOk] at h

theorem kdVals_at {w : World} : ∀ {ks : List Kd} {vals : List Value} {id j : Nat} {r : Kd} {v : Value} {i : Nat}, ks[j]? = some r → vals[j]? = some v → i < r.wd → kdVals w id ks vals (id + sumKd (ks.take j) + i) = kdVal w r v i
  | [], _, _, j, _, _, _, h, _, _ => by simp at h
  | _ :: _, [], _, j, _, _, _, _, h, _ => by simp at h
  | k :: ks, v0 :: vals, id, j, r, v, i, h1, h2, h3 => by
    cases j with
    | zero =>
      simp at h1 h2; subst h1; subst h2
      simp only [List.take_zero, sumKd, kdVals, Nat.add_zero]
      rw [if_pos (by omega), show id + i - id = i by omega]
    | succ j =>
      simp only [List.take_succ_cons, sumKd, kdVals]
      rw [if_neg (by omega)]
      have := kdVals_at (w := w) (ks := ks) (vals := vals) (id := id + k.wd) (j := j) (r := r) (v := v) (i := i) (by simpa using h1) (by simpa using h2) h3
      rw [← this]; congr 1; omega

theorem compW_sound {P : Program} {B : Tabs} (hT : TabOk P B.T) (hmix : P.follows .mixedOrders = true) {f : FuncId} {fn : Func} (hf : P.funcs[f]? = some fn) {H : Nat → Option Tm} {ps : List Pk} {rs : List Rk} {A0 : A} (h : compW B fn H ps rs = some A0)
    {vs us : List V} (hw : A0.wp (CC P B.S) (fun m us' => m = 1 ∧ us' = us) vs) : SoundW P f ps rs vs us := by
  intro w args S L0 lab hS hhi hargs
  unfold compW at h
  split at h
  · rename_i c hb
    split at h
    · rename_i hle
      have hle' : ps.length ≤ fn.ntmps := Nat.le_of_ble_eq_true hle
      obtain ⟨hl1, hl2⟩ := kdsOk_len hargs
      simp only [List.length_map] at hl1 hl2
      refine calls_of_wp hf hb ?_
      let ks := ps.map Pk.kd
      let x : Fx := ⟨P, w, L0, (pinN ps, fn.ntmps), args, fun c => (kdVals w 1 ks args c).getD undef, S, hS⟩
      let g : Gh := ⟨L0, fun c => if (look (kdAllCh 1 0 ks) c).isSome then kdVals w 1 ks args c else none, fun c => if (look (kdAllCh 1 0 ks) c).isSome then 1 else 0⟩
      have hin : ∀ c h, (c, h) ∈ kdAllCh 1 0 ks → (look (kdAllCh 1 0 ks) c).isSome = true := fun c h hm => by
        obtain ⟨v, hv⟩ := look_some (List.mem_map.2 ⟨(c, h), hm, rfl⟩)
        rw [hv]; rfl
      obtain ⟨t1, t2⟩ := kds_all (x := x) (ρ := vs) (g' := g) (w' := w) (L' := L0) (S' := S) (n := 0) (id := 1) (k := 0) (lab := kdLab 1 ks) hargs (fun k' j _ => by rw [Nat.zero_add]) (fun j _ => by rw [Nat.zero_add]) (fun _ _ b hb => .inl hb)
        (fun _ _ _ _ h => h) (fun _ _ h => h) (fun c h hm => by simp only [g]; rw [if_pos (hin c h hm)]) (fun c h hm => by simp only [g]; rw [if_pos (hin c h hm)]) (fun c d _ hd => by show d = (kdVals w 1 ks args c).getD undef; rw [show kdVals w 1 ks args c = some d from hd]; rfl)
      have htm : ∀ i, i < ps.length → (args.toArray ++ Array.replicate (fn.ntmps - args.toArray.size) undef).getD i undef = args.getD i undef := by
        intro i hi
        rw [Array.getD_eq_getD_getElem?, Array.getElem?_append_left (by simpa [hl2] using hi)]
        simp
      have hrel : Rel x (St.startW ps).Γ vs { tmps := args.toArray ++ Array.replicate (fn.ntmps - args.toArray.size) undef, defers := [] } w g := by
        refine ⟨rfl, by simp [x]; omega, fun t => ?_, fun c => ?_, fun b hb => ⟨rfl, hb.2⟩, hhi, Nat.le_refl _, Env.refl _, fun i hi => htm i (Nat.lt_of_lt_of_le hi (pinN_le ps))⟩
        · show ((look (slotsOf 0 (kdAll 1 0 ks)) t).getD (.cv .junk)).ok _ _
          cases hlk : look (slotsOf 0 (kdAll 1 0 ks)) t with
          | none => trivial
          | some s =>
            obtain ⟨j, v, h1, h2, h3⟩ := tup_get (fun _ => trivial) t1 0 t s hlk
            rw [Nat.zero_add] at h1
            subst h1
            have hlt : t < ps.length := by rw [← hl2]; exact (List.getElem?_eq_some_iff.1 h2).1
            show s.ok _ ((args.toArray ++ Array.replicate (fn.ntmps - args.toArray.size) undef).getD t undef)
            rw [htm t hlt, List.getD_eq_getElem?_getD, h2]
            exact h3
        · show ((look (kdAllCh 1 0 ks) c).getD .fresh).ok _ _ _ _ _
          cases hlk : look (kdAllCh 1 0 ks) c with
          | none => exact ⟨by simp [g, hlk], by simp [g, hlk]⟩
          | some hh => exact t2 c hh (look_mem hlk)
      refine comp_wp (x := x) hT hmix c h hw hrel (fun e b hm => by cases hm) (by simp [St.startW, hl1]) ?_
      intro e R' δ s' A1 a' w' g' hR hκ hw1 hr1 hk1 hn1
      have hfin : (match endRs B.T (fun c => some (s'.Γ.chunk c)) s'.Γ.slot (rs.length + ps.length) 0 rs fn.results.toList, endBs (fun c => some (s'.Γ.chunk c)) s'.Γ.slot rs.length 0 1 ps with
          | some (es, m), some (es', m') => if nodupB ((m ++ m').map (·.1)) && !(memK 0 ((m ++ m').map (·.1))) then some (A.out 1 (es ++ es')) else none
          | _, _ => none) = some A1 → a'.defers = [] ∧ ∃ v, (results fn a'.tmps).run P w' = .ok v w' ∧ ∃ (L' : Nat → List Nat) (vals : List Value) (us1 us2 : List V), us = us1 ++ us2 ∧ Ending.returned v = .returned (retVal vals) ∧ LeftW w L0 w' L' ∧
            kdsOk w' (fun b => S b ∨ (L' b).getLast? = some 0) L' lab 0 (rs.map Rk.kd) us1 vals ∧ backsOk w w' L' lab rs.length ps args us2 := by
        intro hκ
        split at hκ
        · rename_i es m es' m' he1 he2
          split at hκ
          · rename_i hnd
            simp only [Bool.and_eq_true, Bool.not_eq_true'] at hnd
            cases hκ
            obtain ⟨us', hus, hR1⟩ := hw1
            rw [hR 1 (by omega)] at hR1
            obtain ⟨_, rfl⟩ := hR1
            let K := rs.length + ps.length
            let L' := endL0 lab K (m ++ m') g'.L
            have hv : Vw x s'.Γ (vs ++ δ) a' w' g' s'.Γ.slot (fun c => some (s'.Γ.chunk c)) := ⟨hr1, hr1.slots, fun c h hc => by cases hc; rfl⟩
            have hne0 : ∀ d kj, (d, kj) ∈ m ++ m' → d ≠ 0 := fun d kj hm e => by
              subst e
              have : memK 0 ((m ++ m').map (·.1)) = true := memK_iff.2 (List.mem_map.2 ⟨_, hm, rfl⟩)
              rw [this] at hnd; cases hnd.2
            have hhit : ∀ d k j, (d, (k, j)) ∈ m ++ m' → ∀ b q, g'.L b = q ++ [d] → L' b = q ++ (if k = K then [0] else lab k j) := fun d k j hm b q hb => endL0_hit hb (look_of_mem hnd.1 hm) (hne0 d _ hm)
            have hlast : ∀ b, (g'.L b).getLast? = some 0 → L' b = g'.L b := fun b hb => by simp only [L', endL0, hb, if_true]
            have hst : ∀ b, Src.st.S x g' b → (S b ∨ (L' b).getLast? = some 0) := fun b hb => by
              rcases hb with hb | hb
              · exact .inl hb
              · right; rw [hlast b hb]; exact hb
            obtain ⟨us1, vals, hus1, hvals, hres⟩ := endRs_ok (lab := lab) (L' := L') (x := x) hT hv (R := fun b => S b ∨ (L' b).getLast? = some 0) hst he1
              (fun d k j hm hk b q hb => by have := hhit d k j (List.mem_append_left _ hm) b q hb; rwa [if_neg hk] at this)
              (fun d j hm b q hb => by right; have := hhit d K j (List.mem_append_left _ hm) b q hb; rw [this, if_pos rfl]; simp) (by simp)
            have hklt : ∀ (ps : List Pk) (k i c : Nat) (ys : List E) (m : List (Nat × (Nat × Nat))), endBs (fun c => some (s'.Γ.chunk c)) s'.Γ.slot k i c ps = some (ys, m) → ∀ z ∈ m, z.2.1 < k + ps.length := by
              have hsub : ∀ (r : Sh) (k : Nat) (cs : List CV) (j : Nat) (ys : List E) (m : List (Nat × (Nat × Nat))), endLeaves (fun c => some (s'.Γ.chunk c)) k r j cs = some (ys, m) → ∀ z ∈ m, z.2.1 = k := by
                intro r k cs
                induction cs with
                | nil => intro j ys m h z hz; simp only [endLeaves, Option.some.injEq, Prod.mk.injEq] at h; obtain ⟨_, rfl⟩ := h; cases hz
                | cons c cs ih =>
                  intro j ys m h z hz
                  simp only [endLeaves] at h
                  split at h
                  · cases h
                  · split at h
                    · rename_i y1 m1 ys2 m2 h1 h2
                      cases h
                      rcases List.mem_append.1 hz with hz | hz
                      · obtain ⟨_, _, rfl⟩ := List.mem_map.1 hz; rfl
                      · exact ih _ _ _ h2 z hz
                    · cases h
              have hsubK : ∀ (kp : List Nat) (r : Sh) (k : Nat) (cs : List CV) (j : Nat) (ys : List E) (m : List (Nat × (Nat × Nat))), endLeavesK (fun c => some (s'.Γ.chunk c)) kp k r j cs = some (ys, m) → ∀ z ∈ m, z.2.1 = k := by
                intro kp r k cs
                induction cs with
                | nil => intro j ys m h z hz; simp only [endLeavesK, Option.some.injEq, Prod.mk.injEq] at h; obtain ⟨_, rfl⟩ := h; cases hz
                | cons c cs ih =>
                  intro j ys m h z hz
                  simp only [endLeavesK] at h
                  split at h
                  · cases h
                  · split at h
                    · rename_i y1 m1 ys2 m2 h1 h2
                      cases h
                      rcases List.mem_append.1 hz with hz | hz
                      · obtain ⟨_, _, rfl⟩ := List.mem_map.1 hz; rfl
                      · exact ih _ _ _ h2 z hz
                    · cases h
              intro ps
              induction ps with
              | nil => intro k i c ys m h z hz; simp only [endBs, Option.some.injEq, Prod.mk.injEq] at h; obtain ⟨_, rfl⟩ := h; cases hz
              | cons p ps ih =>
                intro k i c ys m h z hz
                simp only [endBs] at h
                simp only [List.length_cons]
                split at h
                · split at h
                  · rename_i y1 m1 ys2 m2 h1 h2
                    cases h
                    rcases List.mem_append.1 hz with hz | hz
                    · have : z.2.1 = k := by
                        cases p with
                        | rd sh => cases h1
                        | fn f => cases h1
                        | own sh bk =>
                          simp only [endBack, endOne] at h1
                          split at h1
                          · split at h1
                            · split at h1
                              · split at h1
                                · rename_i hl
                                  cases h1
                                  exact hsub _ _ _ _ _ _ hl z hz
                                · cases h1
                              · cases h1
                            · cases h1
                          · split at h1
                            · split at h1
                              · cases h1
                                obtain ⟨_, _, rfl⟩ := List.mem_map.1 hz; rfl
                              · cases h1
                            · cases h1
                        | ptr sh ty kp =>
                          simp only [endBack] at h1
                          split at h1
                          · split at h1
                            · split at h1
                              · split at h1
                                · rename_i hl
                                  cases h1
                                  rcases List.mem_cons.1 hz with rfl | hz
                                  · rfl
                                  · obtain ⟨z', hz', rfl⟩ := List.mem_map.1 hz
                                    exact hsubK _ _ _ _ _ _ _ hl z' hz'
                                · cases h1
                              · cases h1
                            · cases h1
                          · cases h1
                      omega
                    · have := ih _ _ _ _ _ h2 z hz; omega
                  · cases h
                · have := ih _ _ _ _ _ h z hz; omega
            obtain ⟨us2, hus2, hbk⟩ := endBs_ok (lab := lab) (L' := L') (x := x) hv (w0 := w) (args := args) (as := args) he2
              (fun d k j hm b q hb => by
                have := hhit d k j (List.mem_append_right _ hm) b q hb
                have hlt := hklt _ _ _ _ _ _ he2 _ hm
                rw [if_neg (by simp only [K] at *; omega)] at this
                exact this) rfl hl2 (fun j p hj hb => by rw [Nat.zero_add]; exact hr1.args j (pinN_lt hj hb))
              (fun j s ty kp b cs ty' n e1 e2 e3 _ e5 => by
                rw [Nat.zero_add] at e2
                have hk1 : ks[j]? = some (.pt s ty kp) := by simp only [ks, List.getElem?_map, e1, Option.map_some, Pk.kd]
                obtain ⟨u, _, b1, fs, cs1, _, hp, _, hh, _, _, hcl, _⟩ := kdsOk_get hargs j _ _ hk1 e2
                cases hp
                rw [e3] at hh
                cases hh
                refine ⟨by simpa using hcl, fun l v hl hv' => ?_⟩
                have hat := kdVals_at (w := w) (id := 1) (i := l + 1) hk1 e2 (by simp only [Kd.wd]; omega)
                have hn : n + 1 + l = 1 + sumKd (ks.take j) + (l + 1) := by
                  rw [e5]; simp only [ks, List.map_take]; omega
                simp only [x]
                rw [hn, hat]
                simp only [kdVal, cellAt, e3, hv', Option.getD_some])
            have hcat : ∀ {ρ : List V} {es es' : List E} {us us' : List V}, denL ρ es = some us → denL ρ es' = some us' → denL ρ (es ++ es') = some (us ++ us') := by
              intro ρ es
              induction es with
              | nil => intro es' us us' h1 h2; simp only [denL, Option.some.injEq] at h1; subst h1; simpa using h2
              | cons e es ih =>
                intro es' us us' h1 h2
                simp only [denL] at h1
                simp only [List.cons_append, denL]
                cases he : e.den ρ with
                | none => simp [he] at h1
                | some v =>
                  cases hes : denL ρ es with
                  | none => simp [he, hes] at h1
                  | some ws => rw [he, hes] at h1; cases h1; rw [ih hes h2]; rfl
            rw [hcat hus1 hus2] at hus
            cases hus
            refine ⟨hr1.defers, _, run_results hvals, L', vals, us1, us2, rfl, rfl, ⟨hr1.env, hr1.low, fun b hb hb0 => ?_, fun b hb => ?_⟩, hres, hbk⟩
            · have := hr1.stable b ⟨hb, hb0⟩
              exact ⟨this.1, by simp [L', endL0, this.2]⟩
            · simp [L', endL0, hr1.high b hb]
          · cases hκ
        · cases hκ
      cases e with
      | normal => exact hfin hκ
      | ret => exact hfin hκ
      | _ => cases hκ
    · cases h
  · cases h

end Go.Proofs.YteleedlkdadogaaGreat.Fw
