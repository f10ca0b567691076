/- What a row's arguments read as, as pure values. -/
import Derived.Test.YteleedlkdadogaaGreatFw20
import Derived.WalkKit
import Derived.ProofKit
import Derived.OpenShut
import Derived.ChangeOld
import Derived.Below
import Derived.SizedLaws
namespace Go.Proofs.YteleedlkdadogaaGreat.Fw
open Go.RowKit Go.ChangeShapes Go.WideShapes Go.ChangeAt

def Sh.takeC : Nat → Sh → Sh
  | 0, _ => .nil
  | n + 1, .cons h t => .cons h (Sh.takeC n t)
  | _, _ => .nil

def Sh.dropC : Nat → Sh → Sh
  | 0, s => s
  | n + 1, .cons _ t => Sh.dropC n t
  | _, _ => .nil

def fieldsCk (P : Program) (ck : TypeId → Sh → Bool) : List Field → Nat → Sh → Bool
  | [], _, .nil => true
  | f :: fs, off, sh => Nat.beq f.offset off &&
    (match P.underlying f.type with
    | some (.struct _) => ck f.type (sh.takeC (P.cellsOf f.type)) && Nat.beq (sh.takeC (P.cellsOf f.type)).sz (P.cellsOf f.type) && (sh.takeC (P.cellsOf f.type)).chain && fieldsCk P ck fs (off + P.cellsOf f.type) (sh.dropC (P.cellsOf f.type))
    | _ => (match sh with
      | .cons h t => Nat.beq (P.cellsOf f.type) 1 && !h.isSt && ck f.type h && fieldsCk P ck fs (off + 1) t
      | _ => false))
  | _, _, _ => false

/-- Is it the shape of the type? -/
def shCk (P : Program) : Nat → TypeId → Sh → Bool
  | 0, _, _ => false
  | n + 1, t, sh => (match P.underlying t with
    | some (.int k) => (match sh with | .int k' => kindEq k k' | _ => false)
    | some .bool => (match sh with | .bool => true | _ => false)
    | some .string => (match sh with | .str => true | _ => false)
    | some (.slice e) => (match sh with | .sl s e' => Nat.beq e e' && Nat.beq (P.cellsOf e) s.sz && !(Nat.beq s.sz 0) && shCk P n e s | _ => false)
    | some (.struct F) => sh.isSt && Nat.beq (P.cellsOf t) sh.sz && fieldsCk P (shCk P n) F.toList 0 sh
    | _ => false)

/-- What is known of a value that an argument reads as. -/
def Wt : Sh → V → Prop
  | .int k, v => ∃ n, v = .i n ∧ (Lit.int k n).wf = true
  | .bool, v => ∃ b, v = .b b
  | .str, v => ∃ s, v = .s s ∧ s.length ≤ maxLen
  | .sl e _, v => ∃ xs, v = .l xs ∧ xs.length ≤ maxLen ∧ ∀ x ∈ xs, Wt e x
  | .nil, v => v = .t []
  | .cons h t, v => ∃ x xs, v = .t (x :: xs) ∧ Wt h x ∧ Wt t (.t xs)

section
variable {H : Type} {enc : TypeId × Value → H} {P : Program} {w : World}

abbrev inW (w : World) (b : Nat) : Prop := b < w.heap.size

/-- Readable, and well made. -/
def RdW (w : World) (sh : Sh) (v : V) (cs : List Value) : Prop := Rd w (inW w) sh v cs ∧ Wt sh v

theorem RdW.append : ∀ {n : Nat} {sh : Sh} {c1 c2 : List Value} {v1 : V}, (sh.takeC n).chain = true → (sh.takeC n).sz = n → RdW w (sh.takeC n) v1 c1 → (∃ v2, RdW w (sh.dropC n) v2 c2 ∧ (sh.dropC n).isSt = true) → sh.isSt = true → ∃ v, RdW w sh v (c1 ++ c2)
  | 0, sh, c1, c2, v1, _, _, h1, ⟨v2, h2, _⟩, _ => by
    obtain ⟨⟨_, hc⟩, _⟩ := h1
    subst hc
    exact ⟨v2, by simpa [Sh.dropC] using h2⟩
  | n + 1, .cons h t, c1, c2, v1, hc, hs, h1, h2, hst => by
    obtain ⟨⟨x, xs, c, cs', rfl, rfl, h3, h4⟩, ⟨y, ys, e, h5, h6⟩⟩ := h1
    cases e
    have hst' : t.isSt = true ∨ n = 0 := by
      cases n with
      | zero => exact .inr rfl
      | succ n => cases t <;> first | exact .inl rfl | (simp [Sh.takeC, Sh.sz] at hs)
    rcases hst' with hst' | hn
    · obtain ⟨v, h7, h8⟩ := RdW.append (n := n) (sh := t) (v1 := .t xs) hc (by simpa [Sh.takeC, Sh.sz] using hs) ⟨h4, h6⟩ h2 hst'
      obtain ⟨fs, rfl⟩ := h7.isSt_t hst'
      exact ⟨.t (x :: fs), ⟨x, fs, c, cs' ++ c2, rfl, rfl, h3, h7⟩, ⟨x, fs, rfl, h5, h8⟩⟩
    · subst hn
      obtain ⟨v2, h7, h8⟩ := h2
      obtain ⟨fs, rfl⟩ := h7.1.isSt_t h8
      obtain ⟨_, hcs⟩ := h4
      subst hcs
      exact ⟨.t (x :: fs), ⟨x, fs, c, c2, rfl, rfl, h3, by simpa [Sh.dropC] using h7.1⟩, ⟨x, fs, rfl, h5, by simpa [Sh.dropC] using h7.2⟩⟩
  | n + 1, .nil, _, _, _, _, hs, _, _, _ => by simp [Sh.takeC, Sh.sz] at hs
  | n + 1, .int _, _, _, _, _, _, _, _, h => by cases h
  | n + 1, .bool, _, _, _, _, _, _, _, h => by cases h
  | n + 1, .str, _, _, _, _, _, _, _, h => by cases h
  | n + 1, .sl _ _, _, _, _, _, _, _, _, h => by cases h

theorem takeC_sz : ∀ {n : Nat} {sh : Sh}, (sh.takeC n).sz = n → sh.isSt = true → sh.sz = n + (sh.dropC n).sz
  | 0, sh, _, _ => by simp [Sh.dropC]
  | n + 1, .cons h t, hs, _ => by
    simp only [Sh.takeC, Sh.sz] at hs
    have ht : t.isSt = true ∨ n = 0 := by
      cases n with
      | zero => exact .inr rfl
      | succ n => cases t <;> first | exact .inl rfl | (simp [Sh.takeC, Sh.sz] at hs)
    simp only [Sh.sz, Sh.dropC]
    rcases ht with ht | hn
    · have := takeC_sz (n := n) (sh := t) (by omega) ht; omega
    · subst hn; simp [Sh.dropC]; omega
  | n + 1, .nil, hs, _ => by simp [Sh.takeC, Sh.sz] at hs
  | n + 1, .int _, _, h => by cases h
  | n + 1, .bool, _, h => by cases h
  | n + 1, .str, _, h => by cases h
  | n + 1, .sl _ _, _, h => by cases h

theorem fieldsCk_isSt {ck : TypeId → Sh → Bool} : ∀ {fs : List Field} {off : Nat} {sh : Sh}, fieldsCk P ck fs off sh = true → sh.isSt = true
  | [], _, sh, h => by cases sh <;> simp [fieldsCk] at h <;> rfl
  | f :: fs, off, sh, h => by
    simp only [fieldsCk, Bool.and_eq_true] at h
    obtain ⟨_, h⟩ := h
    split at h
    · simp only [Bool.and_eq_true] at h
      cases hn : P.cellsOf f.type with
      | zero => rw [hn] at h; simpa [Sh.dropC] using fieldsCk_isSt h.2
      | succ n =>
        have := Nat.eq_of_beq_eq_true h.1.1.2
        rw [hn] at this
        cases sh <;> first | rfl | (simp [Sh.takeC, Sh.sz] at this)
    · split at h
      · rfl
      · cases h

theorem fields_rd {fuel : Nat} {base : Nat} {spare : Nat → Bool} {held : Bool} {cs : List Value} {ck : TypeId → Sh → Bool} (hck : ∀ t sh cs d, ck t sh = true → DataW.trod enc P w base spare held fuel t cs = some d → ∃ v, RdW w sh v cs) :
    ∀ {fs : List Field} {off : Nat} {sh : Sh} {xs : List (DataW H × List MemPlace)}, fieldsCk P ck fs off sh = true → fs.mapM (fun f => DataW.trod enc P w base spare held fuel f.type ((cs.drop f.offset).take (P.cellsOf f.type))) = some xs → cs.length = off + sh.sz → ∃ v, RdW w sh v (cs.drop off)
  | [], off, sh, xs, h, _, hl => by
    cases sh <;> simp [fieldsCk] at h
    simp only [Sh.sz, Nat.add_zero] at hl
    rw [List.drop_of_length_le (by omega)]
    exact ⟨.t [], ⟨rfl, rfl⟩, rfl⟩
  | f :: fs, off, sh, xs, h, hm, hl => by
    have hst := fieldsCk_isSt h
    simp only [fieldsCk, Bool.and_eq_true] at h
    obtain ⟨ho, h⟩ := h
    have ho := Nat.eq_of_beq_eq_true ho
    rw [List.mapM_cons] at hm
    cases hf : DataW.trod enc P w base spare held fuel f.type ((cs.drop f.offset).take (P.cellsOf f.type)) with
    | none => rw [hf] at hm; cases hm
    | some d =>
      rw [hf] at hm
      cases hfs : fs.mapM (fun f => DataW.trod enc P w base spare held fuel f.type ((cs.drop f.offset).take (P.cellsOf f.type))) with
      | none => rw [hfs] at hm; cases hm
      | some ds =>
        subst ho
        split at h
        · simp only [Bool.and_eq_true] at h
          have hsz := Nat.eq_of_beq_eq_true h.1.1.2
          obtain ⟨v1, h1⟩ := hck _ _ _ _ h.1.1.1 hf
          have hsum := takeC_sz hsz hst
          obtain ⟨v2, h2⟩ := fields_rd hck h.2 hfs (by omega)
          have := RdW.append h.1.2 hsz h1 ⟨v2, h2, fieldsCk_isSt h.2⟩ hst
          rw [show cs.drop (f.offset + P.cellsOf f.type) = (cs.drop f.offset).drop (P.cellsOf f.type) by rw [List.drop_drop], List.take_append_drop] at this
          exact this
        · split at h
          · rename_i a t
            simp only [Bool.and_eq_true] at h
            have hsz := Nat.eq_of_beq_eq_true h.1.1.1
            rw [hsz] at hf
            simp only [Sh.sz] at hl
            obtain ⟨v1, h1⟩ := hck _ _ _ _ h.1.2 hf
            obtain ⟨v2, h2⟩ := fields_rd hck h.2 hfs (by omega)
            obtain ⟨us, rfl⟩ := h2.1.isSt_t (fieldsCk_isSt h.2)
            have hlt : f.offset < cs.length := by omega
            have hd : cs.drop f.offset = cs[f.offset] :: cs.drop (f.offset + 1) := List.drop_eq_getElem_cons hlt
            rw [hd] at h1 ⊢
            simp only [List.take_succ_cons, List.take_zero] at h1
            exact ⟨.t (v1 :: us), ⟨v1, us, _, _, rfl, rfl, h1.1, h2.1⟩, ⟨v1, us, rfl, h1.2, h2.2⟩⟩
          · cases h

theorem exists_list {α : Type} {Q : Nat → α → Prop} : ∀ {n : Nat}, (∀ i, i < n → ∃ v, Q i v) → ∃ xs : List α, xs.length = n ∧ ∀ (i : Nat) v, xs[i]? = some v → Q i v
  | 0, _ => ⟨[], rfl, fun i v h => by simp at h⟩
  | n + 1, h => by
    obtain ⟨xs, h1, h2⟩ := exists_list (n := n) (fun i hi => h i (by omega))
    obtain ⟨v, hv⟩ := h n (by omega)
    refine ⟨xs ++ [v], by simp [h1], fun i u hu => ?_⟩
    rcases Nat.lt_or_ge i n with hlt | hge
    · rw [List.getElem?_append_left (by omega)] at hu; exact h2 i u hu
    · rw [List.getElem?_append_right (by omega)] at hu
      have : i - xs.length = 0 := by
        rcases Nat.eq_zero_or_pos (i - xs.length) with h | h
        · exact h
        · rw [List.getElem?_eq_none (by simp; omega)] at hu; cases hu
      rw [this] at hu
      simp at hu
      subst hu
      have : i = n := by omega
      subst this
      exact hv

theorem cells_get {base : Nat} {a : Addr} {n : Nat} {cs : List Value} (h : w.cells? base a n = some cs) : cs.length = n ∧ ∀ (j : Nat) d, cs[j]? = some d → w.cell? (a.add j) = some d := by
  unfold World.cells? at h
  split at h
  · refine ⟨by simpa using mapM_some_length h, fun j d hj => ?_⟩
    have hlt : j < n := by
      have := (List.getElem?_eq_some_iff.1 hj).1
      have hl := mapM_some_length h
      simp at hl; omega
    have := mapM_some_get h j j (by simp [hlt])
    rw [this]; exact hj
  · cases h

/-- A row's reading as a pure value. -/
theorem trod_rd : ∀ {n fuel : Nat} {base : Nat} {spare : Nat → Bool} {held : Bool} {t : TypeId} {sh : Sh} {cs : List Value} {d : DataW H × List MemPlace}, shCk P n t sh = true → DataW.trod enc P w base spare held fuel t cs = some d → ∃ v, RdW w sh v cs
  | 0, _, _, _, _, _, _, _, _, h, _ => by cases h
  | n + 1, 0, _, _, _, _, _, _, _, _, h => by cases h
  | n + 1, fuel + 1, base, spare, held, t, sh, cs, d, h, ht => by
    simp only [shCk] at h
    unfold DataW.trod at ht
    split at h
    · rename_i k hu
      rw [hu] at ht
      cases sh <;> simp only [Bool.false_eq_true] at h
      have := kindEq_eq h
      subst this
      split at ht <;> simp_all
      rename_i k' m hk
      obtain ⟨hk, _⟩ := ht
      obtain ⟨rfl, hwf⟩ := hk
      exact ⟨.i m, ⟨_, rfl, m, rfl, rfl⟩, ⟨m, rfl, hwf⟩⟩
    · rename_i hu
      rw [hu] at ht
      cases sh <;> simp only [Bool.false_eq_true] at h
      split at ht <;> simp_all
      rename_i b
      exact ⟨.b b, ⟨_, rfl, b, rfl, rfl⟩, ⟨b, rfl⟩⟩
    · rename_i hu
      rw [hu] at ht
      cases sh <;> simp only [Bool.false_eq_true] at h
      split at ht <;> simp_all
      rename_i s
      exact ⟨.s s.data.toList, ⟨_, rfl, s.data.toList, rfl, by cases s; rfl⟩, ⟨_, rfl, by have := ht.1; simpa using this⟩⟩
    · rename_i e hu
      rw [hu] at ht
      cases sh <;> simp only [Bool.false_eq_true, Bool.and_eq_true, Bool.not_eq_true'] at h
      rename_i s e'
      obtain ⟨⟨⟨h1, h2⟩, h3⟩, h4⟩ := h
      have h1 := Nat.eq_of_beq_eq_true h1
      have h2 := Nat.eq_of_beq_eq_true h2
      subst h1
      have h3 : 0 < s.sz := by
        rcases Nat.eq_zero_or_pos s.sz with h | h
        · rw [h] at h3; simp at h3
        · exact h
      split at ht <;> simp only [reduceCtorEq, Option.some.injEq, TypeDesc.slice.injEq] at *
      · exact ⟨.l [], ⟨[], none, 0, 0, rfl, rfl, rfl, Nat.le_refl _, by simp [maxLen], fun _ => rfl, .inl rfl⟩, ⟨[], rfl, by simp, by simp⟩⟩
      · rename_i e2 a len cap heq
        subst heq
        split at ht
        · rename_i hb
          simp only [Option.bind_eq_some_iff] at ht
          obtain ⟨elems, hel, _⟩ := ht
          have hlen := mapM_some_length hel
          simp only [List.length_range] at hlen
          have hi : ∀ i, i < len → ∃ v, ∃ ds : List Value, ds.length = s.sz ∧ (∀ (j : Nat) d, ds[j]? = some d → w.cell? ((a.add (i * s.sz)).add j) = some d) ∧ RdW w s v ds := by
            intro i hi
            have := mapM_some_get hel i i (by simp [hi])
            have hsome : elems[i]? = some elems[i] := List.getElem?_eq_getElem (by omega)
            rw [hsome] at this
            simp only [Option.bind_eq_some_iff] at this
            obtain ⟨ds, hds, htr⟩ := this
            obtain ⟨k1, k2⟩ := cells_get hds
            obtain ⟨v, hv⟩ := trod_rd h4 htr
            rw [h2] at k1 k2
            exact ⟨v, ds, k1, k2, hv⟩
          obtain ⟨xs, hx1, hx2⟩ := exists_list hi
          have hwt : Wt (.sl s e) (.l xs) := ⟨xs, rfl, by omega, fun x hx => by
            obtain ⟨i, hxi⟩ := List.getElem?_of_mem hx
            obtain ⟨ds, _, _, hr⟩ := hx2 i x hxi
            exact hr.2⟩
          refine ⟨.l xs, ⟨xs, some a, len, cap, rfl, rfl, hx1.symm, hb.2.1, hb.2.2, (fun e => by cases e), ?_⟩, hwt⟩
          cases len with
          | zero => exact .inl (List.eq_nil_of_length_eq_zero hx1)
          | succ m =>
            have h0 : xs[0]? = some xs[0] := List.getElem?_eq_getElem (by omega)
            obtain ⟨ds0, q1, q2, _⟩ := hx2 0 _ h0
            have hd0 : ds0[0]? = some ds0[0] := List.getElem?_eq_getElem (by omega)
            have hc := q2 0 _ hd0
            rw [Nat.zero_mul] at hc
            have ha0 : (a.add 0).add 0 = a := by simp [Addr.add]
            rw [ha0] at hc
            obtain ⟨g, o, sp⟩ := a
            have hsp : sp = none := by
              unfold World.cell? at hc
              split at hc
              · split at hc
                · cases hc
                · rename_i hs; simpa using hs
              · cases hc
            subst hsp
            have hg : g < w.heap.size := by
              rcases Nat.lt_or_ge g w.heap.size with h | h
              · exact h
              · unfold World.cell? at hc
                rw [Array.getElem?_eq_none h] at hc; cases hc
            refine .inr ⟨g, o, rfl, hg, fun i x hi => ?_⟩
            obtain ⟨ds, r1, r2, r3⟩ := hx2 i x hi
            refine ⟨ds, r1, fun j d hj => ?_, r3.1⟩
            have := r2 j d hj
            rw [Addr.add_lit, Addr.add_lit] at this
            exact this
        · cases ht
    · rename_i F hu
      rw [hu] at ht
      simp only [Bool.and_eq_true] at h
      obtain ⟨⟨hst, hsz⟩, hf⟩ := h
      have hsz := Nat.eq_of_beq_eq_true hsz
      split at ht <;> simp only [reduceCtorEq, Option.some.injEq, TypeDesc.struct.injEq] at *
      · rename_i F2 heq
        subst heq
        split at ht
        · rename_i hl
          simp only [Option.map_eq_some_iff] at ht
          obtain ⟨xs, hxs, _⟩ := ht
          have := fields_rd (fun t sh cs d h1 h2 => trod_rd h1 h2) hf hxs (by omega)
          simpa using this
        · cases ht
      · exact (‹∀ (fs : Array Field), F = fs → False› F rfl).elim
    · cases h

end
end Go.Proofs.YteleedlkdadogaaGreat.Fw
