/- Rows built of what is only read: they are only read, too. -/
import Derived.Test.YteleedlkdadogaaGreatFw13
namespace Go.Proofs.YteleedlkdadogaaGreat.Fw
open Go.RowKit

def stLeaf : Sh → CV → Option E
  | .int k, .sc (.int k') e => if kindEq k k' then some e else none
  | .bool, .sc .bool e => some e
  | .str, .sc .str e => some e
  | .sl _ _, .nil => some .kl
  | .sl e _, .rd .st e' _ y => if e.beq e' then some y else none
  | _, _ => none

def stCells : Sh → List CV → Option (List E)
  | .nil, [] => some []
  | .cons h t, c :: cs => match stLeaf h c, stCells t cs with
    | some y, some ys => some (y :: ys)
    | _, _ => none
  | _, _ => none

def stEl (e : Sh) (cs : List CV) : Option E :=
  if e.isSt then (match stCells e cs with | some ys => some (mkT ys) | none => none)
  else match cs with
    | [c] => stLeaf e c
    | _ => none

def stEls (e : Sh) : Nat → List CV → Option (List E)
  | 0, _ => some []
  | n + 1, cs => match stEl e (cs.take e.sz), stEls e n (cs.drop e.sz) with
    | some y, some ys => some (y :: ys)
    | _, _ => none

section
variable {x : Fx} {Γ : G} {ρ : List V} {a : Act} {w : World} {g : Gh} {sl : Nat → SV} {ch : Nat → Option Ch} {o : Oper} {res : Res}

theorem stLeaf_ok {s : Sh} {c : CV} {val : Value} (hc : c.ok x w g ρ val) {y : E} (h : stLeaf s c = some y) : ∃ v, y.den ρ = some v ∧ Rd w (Src.st.S x g) s v [val] := by
  unfold stLeaf at h
  split at h
  · split at h
    · rename_i hk
      have := kindEq_eq hk
      subst this
      cases h
      obtain ⟨v, h1, h2⟩ := hc
      exact ⟨v, h1, val, rfl, h2⟩
    · cases h
  · cases h
    obtain ⟨v, h1, h2⟩ := hc
    exact ⟨v, h1, val, rfl, h2⟩
  · cases h
    obtain ⟨v, h1, h2⟩ := hc
    exact ⟨v, h1, val, rfl, h2⟩
  · cases h
    cases hc
    exact ⟨.l [], rfl, [], none, 0, 0, rfl, rfl, rfl, Nat.le_refl _, by simp [maxLen], fun _ => rfl, .inl rfl⟩
  · split at h
    · rename_i hb
      have := Sh.beq_eq hb
      subst this
      cases h
      obtain ⟨_, _, hbody⟩ := hc
      exact hbody trivial
    · cases h
  · cases h

theorem stCells_ok : ∀ {p : Sh} {cs : List CV} {vals : List Value}, cellsOk (CV.ok x w g ρ) cs vals → ∀ {ys : List E}, stCells p cs = some ys → ∃ vs, denL ρ ys = some vs ∧ Rd w (Src.st.S x g) p (.t vs) vals
  | .nil, [], [], _, ys, h => by
    simp only [stCells, Option.some.injEq] at h
    subst h
    exact ⟨[], rfl, rfl, rfl⟩
  | .cons s t, c :: cs, val :: vals, hc, ys, h => by
    simp only [stCells] at h
    split at h
    · rename_i y ys' h1 h2
      cases h
      obtain ⟨v, hy, hr⟩ := stLeaf_ok hc.1 h1
      obtain ⟨vs, hvs, hrs⟩ := stCells_ok hc.2 h2
      exact ⟨v :: vs, by simp [denL, hy, hvs], v, vs, val, vals, rfl, rfl, hr, hrs⟩
    · cases h
  | .nil, _ :: _, _, _, _, h => by cases h
  | .nil, [], _ :: _, hc, _, _ => hc.elim
  | .cons _ _, [], _, _, _, h => by cases h
  | .cons _ _, _ :: _, [], hc, _, _ => hc.elim
  | .int _, _, _, _, _, h => by cases h
  | .bool, _, _, _, _, h => by cases h
  | .str, _, _, _, _, h => by cases h
  | .sl _ _, _, _, _, _, h => by cases h

theorem stEl_ok {e : Sh} {cs : List CV} {vals : List Value} (hc : cellsOk (CV.ok x w g ρ) cs vals) {y : E} (h : stEl e cs = some y) : ∃ v, y.den ρ = some v ∧ Rd w (Src.st.S x g) e v vals := by
  unfold stEl at h
  split at h
  · split at h
    · rename_i ys hs
      cases h
      obtain ⟨vs, h1, h2⟩ := stCells_ok hc hs
      exact ⟨_, mkT_den h1, h2⟩
    · cases h
  · split at h
    · rename_i c
      match vals, hc with
      | [v], hc => exact stLeaf_ok hc.1 h
    · cases h

theorem stEls_ok {e : Sh} : ∀ {n : Nat} {cs : List CV} {vals : List Value}, cellsOk (CV.ok x w g ρ) cs vals → ∀ {ys : List E}, stEls e n cs = some ys →
    ys.length = n ∧ ∃ vs, denL ρ ys = some vs ∧ ∀ (i : Nat) v, vs[i]? = some v → Rd w (Src.st.S x g) e v ((vals.drop (i * e.sz)).take e.sz)
  | 0, cs, vals, _, ys, h => by
    simp only [stEls, Option.some.injEq] at h
    subst h
    exact ⟨rfl, [], rfl, fun i v hi => by simp at hi⟩
  | n + 1, cs, vals, hc, ys, h => by
    simp only [stEls] at h
    split at h
    · rename_i y ys' h1 h2
      cases h
      obtain ⟨v, hy, hr⟩ := stEl_ok (by simpa using (hc.drop 0).take e.sz) h1
      obtain ⟨hl, vs, hvs, hrs⟩ := stEls_ok (hc.drop e.sz) h2
      refine ⟨by simp [hl], v :: vs, by simp [denL, hy, hvs], fun i u hi => ?_⟩
      cases i with
      | zero => simp at hi; subst hi; simpa using hr
      | succ i =>
        have := hrs i u (by simpa using hi)
        rw [List.drop_drop] at this
        rw [show (i + 1) * e.sz = e.sz + i * e.sz by rw [Nat.add_mul]; omega]
        exact this
    · cases h

def stepRows (n : Nat) (T : Nat → Option TI) (Z : Nat → Option Sh) (sl : Nat → SV) (t : TypeId) (len : Nat) (parts : List (Nat × Operand)) : Option Res :=
  match T t with
  | none => none
  | some ti => match ti.kind with
    | .sl e' => (match T e', Z e' with
      | some te, some e =>
        if Nat.beq te.size e.sz && !(Nat.beq e.sz 0) && !(Nat.beq len 0) && Nat.ble (len * te.size) 16777216 then
          (match fillCV (fun i => some (i * te.size, te.size)) (zerosCV te.zero (len * te.size)) (parts.map fun (i, y) => (i, opnd sl y)) with
          | some cs => (match stEls e len cs with
            | some ys => some ⟨[.pm .lits ys], [], .cv (.rd .st e e' (.v n))⟩
            | none => none)
          | none => none)
        else none
      | _, _ => none)
    | _ => none

theorem good_rows {T : Nat → Option TI} (hT : TabOk x.P T) {Z : Nat → Option Sh} (hv : Vw x Γ ρ a w g sl ch) {C : Nat → List V → List V → Prop} {n : Nat} {t : TypeId} {len : Nat} {parts : Array (Nat × Operand)} (ho : o.op = .buildSlice t len parts)
    (hr : stepRows n T Z sl t len parts.toList = some res) (he : EmsOk C ρ n res.ems) : Good x ρ a w g o res := by
  unfold stepRows at hr
  split at hr
  · cases hr
  · rename_i ti hti
    have hti := hT _ _ hti
    split at hr
    · rename_i e' hk
      have hd := hti.slice hk
      split at hr
      · rename_i te e hte hz
        have hte := hT _ _ hte
        split at hr
        · rename_i hcond
          simp only [Bool.and_eq_true, Bool.not_eq_true'] at hcond
          obtain ⟨⟨⟨hsz, hs0⟩, hl0⟩, hsm⟩ := hcond
          have hsz := Nat.eq_of_beq_eq_true hsz
          have hs0 : e.sz ≠ 0 := by intro e0; rw [e0] at hs0; simp at hs0
          have hlen0 : len ≠ 0 := by intro e0; subst e0; simp at hl0
          have hsm := Nat.le_of_ble_eq_true hsm
          obtain ⟨i, z, hi, his, _, hzz, hz1, hz2, _⟩ := hte.info
          split at hr
          · rename_i cs hf
            split at hr
            · rename_i ys hcl
              cases hr
              obtain ⟨⟨us, v, hdn, hev, hn⟩, _⟩ := he
              have hzz' := zeros_ok (x := x) (w := w) (g := g) (ρ := ρ) z (len * te.size) (by omega)
              rw [hz2] at hzz'
              obtain ⟨vs', hfill, hok⟩ := fill_ok hv hzz' hf
              have hvl : vs'.size = len * te.size := by
                have h1 := hok.length
                have h2 := fillCV_length hf
                simp only [Array.length_toList] at h1
                rw [← h1, h2]; simp [zerosCV]
              obtain ⟨hyl, vs, hvs, hrd⟩ := stEls_ok hok hcl
              rw [hvs] at hdn
              have hdn := Option.some.inj hdn
              subst hdn
              simp only [Pm.ev, Option.some.injEq] at hev
              subst hev
              have hlv : vs.length = len := by rw [denL_length hvs, hyl]
              let w' := w.alloc (.cells vs' e')
              let g' : Gh := { g with L := fun b => if b = w.heap.size then [0] else g.L b }
              have hsize : w'.heap.size = w.heap.size + 1 := by simp [w']
              have f : Fr (keys []) w g w' g' := by
                refine ⟨by simp [keys, look], fun b hb _ => ⟨Below.heap_alloc w _ b hb, by simp only [g']; rw [if_neg (by omega)]⟩, fun _ _ h => h, fun _ _ => rfl, fun _ _ => rfl, fun c hc => by simp [keys, look] at hc, by omega, fun b hb => ?_, ⟨rfl, rfl, rfl⟩⟩
                simp only [g']
                rw [if_neg (by omega)]
                exact hv.rel.high b (by omega)
              have hrun : (execOp a.eval o).run x.P w = .ok (.value (.slice (some ⟨w.heap.size, 0, none⟩) len len)) w' := by
                simp only [execOp, ho]
                have h24 : (2 : Nat) ^ 24 = 16777216 := by decide
                have hpos : ¬ len * i.size = 0 := by rw [his]; intro h; rcases Nat.mul_eq_zero.1 h with h | h <;> omega
                have hrun := run_buildSlice (P := x.P) w t e' len (parts.map fun (i, y) => (i, a.eval y)) vs' i z hd hi hzz (by rw [his, h24]; omega) hpos (by rw [his, ← hfill]; simp)
                simp [hrun, w']
              have hS : ∀ b, Src.st.S x g b → w'.heap[b]? = w.heap[b]? ∧ Src.st.S x g' b := by
                intro b hb
                have hlt := Src.lt hv .st b hb
                refine ⟨Below.heap_alloc w _ b hlt, hb.imp id (fun h => ?_)⟩
                simp only [g']
                rw [if_neg (by omega)]
                exact h
              refine good_value hrun f (fun c k hl => by simp [look] at hl) ⟨rfl, trivial, fun _ => ⟨.l vs, hn, vs, some ⟨w.heap.size, 0, none⟩, len, len, rfl, rfl, hlv.symm, Nat.le_refl _, ?_, (fun e => by cases e), .inr ⟨w.heap.size, 0, rfl, .inr (by simp [g']), fun j u hj => ?_⟩⟩⟩
              · have : len ≤ len * te.size := Nat.le_mul_of_pos_right _ (by omega)
                simp only [maxLen]; omega
              · have hu := (hrd j u hj).frame hS
                refine ⟨_, hu.length, fun k d hk => ?_, hu⟩
                obtain ⟨hk, _⟩ := take_drop_get hk
                rw [cell_of_row w' w.heap.size _ vs' e' (0, 0) (heap_alloc_new w _)]
                simpa using hk
            · cases hr
          · cases hr
        · cases hr
      · cases hr
    · cases hr

end
end Go.Proofs.YteleedlkdadogaaGreat.Fw
