/- Memory that can be read (Rd), and memory that is owned (Own): what stands in cells, as pure values. -/
import Derived.Test.YteleedlkdadogaaGreatFw1
namespace Go.Proofs.YteleedlkdadogaaGreat.Fw
open Go.RowKit

/-- One cell without memory behind it. -/
def Scal : Sh → V → Value → Prop
  | .int k, v, c => ∃ n, v = .i n ∧ c = .int k n
  | .bool, v, c => ∃ x, v = .b x ∧ c = .bool x
  | .str, v, c => ∃ s, v = .s s ∧ c = .string ⟨s.toArray⟩
  | _, _, _ => False

/-- The cells cs show the value v; each block that is read is in S. -/
def Rd (w : World) (S : Nat → Prop) : Sh → V → List Value → Prop
  | .int k, v, cs => ∃ c, cs = [c] ∧ Scal (.int k) v c
  | .bool, v, cs => ∃ c, cs = [c] ∧ Scal .bool v c
  | .str, v, cs => ∃ c, cs = [c] ∧ Scal .str v c
  | .sl e _, v, cs => ∃ xs a len cap, v = .l xs ∧ cs = [.slice a len cap] ∧ len = xs.length ∧ len ≤ cap ∧ cap ≤ maxLen ∧ (a = none → cap = 0) ∧
      (xs = [] ∨ ∃ g o, a = some ⟨g, o, none⟩ ∧ S g ∧ ∀ i x, xs[i]? = some x →
        ∃ ds, ds.length = e.sz ∧ (∀ j d, ds[j]? = some d → w.cell? ⟨g, o + i * e.sz + j, none⟩ = some d) ∧ Rd w S e x ds)
  | .nil, v, cs => v = .t [] ∧ cs = []
  | .cons h t, v, cs => ∃ x xs c cs', v = .t (x :: xs) ∧ cs = c :: cs' ∧ Rd w S h x [c] ∧ Rd w S t (.t xs) cs'

/-- The cells cs show the value v, and what lies behind is owned: the block of a slice bears the label p, what lies behind its i-th element i :: p, and so on. -/
def Own (w : World) (L : Nat → List Nat) : Sh → V → List Value → List Nat → Prop
  | .int k, v, cs, _ => ∃ c, cs = [c] ∧ Scal (.int k) v c
  | .bool, v, cs, _ => ∃ c, cs = [c] ∧ Scal .bool v c
  | .str, v, cs, _ => ∃ c, cs = [c] ∧ Scal .str v c
  | .sl e et, v, cs, p => ∃ xs a len cap, v = .l xs ∧ cs = [.slice a len cap] ∧ len = xs.length ∧ len ≤ cap ∧ cap ≤ maxLen ∧
      ((a = none ∧ cap = 0 ∧ xs = []) ∨ ∃ g o cur, a = some ⟨g, o, none⟩ ∧ L g = p ∧ w.heap[g]? = some (.cells cur et (0, 0)) ∧ o + cap * e.sz ≤ cur.size ∧
        ∀ i x, xs[i]? = some x → Own w L e x ((cur.toList.drop (o + i * e.sz)).take e.sz) (i :: p))
  | .nil, v, cs, _ => v = .t [] ∧ cs = []
  | .cons h t, v, cs, p => ∃ x xs c cs', v = .t (x :: xs) ∧ cs = c :: cs' ∧ Own w L h x [c] (t.sz :: p) ∧ Own w L t (.t xs) cs' p

theorem Rd.length {w : World} {S : Nat → Prop} : ∀ {sh : Sh} {v : V} {cs : List Value}, Rd w S sh v cs → cs.length = sh.sz := by
  intro sh
  induction sh with
  | int k => intro v cs ⟨c, h, _⟩; subst h; rfl
  | bool => intro v cs ⟨c, h, _⟩; subst h; rfl
  | str => intro v cs ⟨c, h, _⟩; subst h; rfl
  | sl e et ih => intro v cs ⟨xs, a, len, cap, _, h, _⟩; subst h; rfl
  | nil => intro v cs ⟨_, h⟩; subst h; rfl
  | cons h t ih1 ih2 => intro v cs ⟨x, xs, c, cs', _, h, _, h2⟩; subst h; simp [Sh.sz, ih2 h2]

theorem Own.length {w : World} {L : Nat → List Nat} : ∀ {sh : Sh} {v : V} {cs : List Value} {p : List Nat}, Own w L sh v cs p → cs.length = sh.sz := by
  intro sh
  induction sh with
  | int k => intro v cs p ⟨c, h, _⟩; subst h; rfl
  | bool => intro v cs p ⟨c, h, _⟩; subst h; rfl
  | str => intro v cs p ⟨c, h, _⟩; subst h; rfl
  | sl e et ih => intro v cs p ⟨xs, a, len, cap, _, h, _⟩; subst h; rfl
  | nil => intro v cs p ⟨_, h⟩; subst h; rfl
  | cons h t ih1 ih2 => intro v cs p ⟨x, xs, c, cs', _, h, _, h2⟩; subst h; simp [Sh.sz, ih2 h2]

/-- Where the blocks that are read stay, what is read stays. -/
theorem Rd.frame {w w' : World} {S S' : Nat → Prop} (hS : ∀ b, S b → w'.heap[b]? = w.heap[b]? ∧ S' b) :
    ∀ {sh : Sh} {v : V} {cs : List Value}, Rd w S sh v cs → Rd w' S' sh v cs := by
  intro sh
  induction sh with
  | int k => intro v cs h; exact h
  | bool => intro v cs h; exact h
  | str => intro v cs h; exact h
  | sl e et ih =>
    intro v cs ⟨xs, a, len, cap, h1, h2, h3, h4, h4', h5, h6⟩
    refine ⟨xs, a, len, cap, h1, h2, h3, h4, h4', h5, ?_⟩
    rcases h6 with h6 | ⟨g, o, ha, hg, hx⟩
    · exact .inl h6
    · refine .inr ⟨g, o, ha, (hS g hg).2, fun i x hi => ?_⟩
      obtain ⟨ds, hl, hc, hr⟩ := hx i x hi
      exact ⟨ds, hl, fun j d hj => (World.cell?_of_block (w := w) (hS g hg).1).trans (hc j d hj), ih hr⟩
  | nil => intro v cs h; exact h
  | cons a t ih1 ih2 => intro v cs ⟨x, xs, c, cs', h1, h2, h3, h4⟩; exact ⟨x, xs, c, cs', h1, h2, ih1 h3, ih2 h4⟩

/-- Where the blocks that are owned at p stay, and are labelled anew as p', what is owned at p is owned at p'. -/
theorem Own.frame {w w' : World} {L L' : Nat → List Nat} : ∀ {sh : Sh} {v : V} {cs : List Value} {p p' : List Nat},
    (∀ b q, L b = q ++ p → w'.heap[b]? = w.heap[b]? ∧ L' b = q ++ p') → Own w L sh v cs p → Own w' L' sh v cs p' := by
  intro sh
  induction sh with
  | int k => intro v cs p p' _ h; exact h
  | bool => intro v cs p p' _ h; exact h
  | str => intro v cs p p' _ h; exact h
  | sl e et ih =>
    intro v cs p p' hL ⟨xs, a, len, cap, h1, h2, h3, h4, h5, h6⟩
    refine ⟨xs, a, len, cap, h1, h2, h3, h4, h5, ?_⟩
    rcases h6 with h6 | ⟨g, o, cur, ha, hg, hh, hs, hx⟩
    · exact .inl h6
    · have hg0 := hL g [] (by simpa using hg)
      refine .inr ⟨g, o, cur, ha, by simpa using hg0.2, hg0.1.trans hh, hs, fun i x hi => ?_⟩
      refine ih (fun b q hb => ?_) (hx i x hi)
      have := hL b (q ++ [i]) (by rw [hb]; simp)
      exact ⟨this.1, by rw [this.2]; simp⟩
  | nil => intro v cs p p' _ h; exact h
  | cons a t ih1 ih2 =>
    intro v cs p p' hL ⟨x, xs, c, cs', h1, h2, h3, h4⟩
    refine ⟨x, xs, c, cs', h1, h2, ih1 (fun b q hb => ?_) h3, ih2 hL h4⟩
    have := hL b (q ++ [t.sz]) (by rw [hb]; simp)
    exact ⟨this.1, by rw [this.2]; simp⟩

theorem take_drop_get {α : Type} {l : List α} {k n j : Nat} {d : α} (h : ((l.drop k).take n)[j]? = some d) : l[k + j]? = some d ∧ j < n := by
  rw [List.getElem?_take] at h
  split at h
  · rw [List.getElem?_drop] at h; exact ⟨h, by assumption⟩
  · cases h

/-- What is owned can be read. -/
theorem Own.rd {w : World} {L : Nat → List Nat} {S : Nat → Prop} : ∀ {sh : Sh} {v : V} {cs : List Value} {p : List Nat},
    (∀ b q, L b = q ++ p → S b) → Own w L sh v cs p → Rd w S sh v cs := by
  intro sh
  induction sh with
  | int k => intro v cs p _ h; exact h
  | bool => intro v cs p _ h; exact h
  | str => intro v cs p _ h; exact h
  | sl e et ih =>
    intro v cs p hL ⟨xs, a, len, cap, h1, h2, h3, h4, h5, h6⟩
    rcases h6 with ⟨h7, h8, h9⟩ | ⟨g, o, cur, ha, hg, hh, hs, hx⟩
    · exact ⟨xs, a, len, cap, h1, h2, h3, h4, h5, fun _ => h8, .inl h9⟩
    · refine ⟨xs, a, len, cap, h1, h2, h3, h4, h5, (fun e => by rw [ha] at e; cases e), .inr ⟨g, o, ha, hL g [] (by simpa using hg), fun i x hi => ?_⟩⟩
      have ho := hx i x hi
      refine ⟨_, ho.length, fun j d hj => ?_, ih (fun b q hb => hL b (q ++ [i]) (by rw [hb]; simp)) ho⟩
      obtain ⟨hj, _⟩ := take_drop_get hj
      rw [cell_of_row w g _ cur et (0, 0) hh]
      simpa using hj
  | nil => intro v cs p _ h; exact h
  | cons a t ih1 ih2 =>
    intro v cs p hL ⟨x, xs, c, cs', h1, h2, h3, h4⟩
    exact ⟨x, xs, c, cs', h1, h2, ih1 (fun b q hb => hL b (q ++ [t.sz]) (by rw [hb]; simp)) h3, ih2 hL h4⟩

end Go.Proofs.YteleedlkdadogaaGreat.Fw
