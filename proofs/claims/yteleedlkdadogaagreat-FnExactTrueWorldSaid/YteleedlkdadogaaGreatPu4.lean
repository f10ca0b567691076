/- Worlds, as the laws hand them in: looks and sights. -/
import Derived.Test.YteleedlkdadogaaGreatPu3
namespace Go.Proofs.YteleedlkdadogaaGreat.Fw
open Go.RowKit

theorem map_of {α : Type} {f : α → V} {P : α → Prop} : ∀ {xs : List V}, (∀ x ∈ xs, ∃ a, x = f a ∧ P a) → ∃ l : List α, xs = l.map f ∧ ∀ a ∈ l, P a
  | [], _ => ⟨[], rfl, fun _ h => nomatch h⟩
  | x :: xs, h => by
    obtain ⟨a, rfl, ha⟩ := h x List.mem_cons_self
    obtain ⟨l, rfl, hl⟩ := map_of (fun y hy => h y (List.mem_cons_of_mem _ hy))
    exact ⟨a :: l, rfl, fun b hb => by cases hb with
      | head => exact ha
      | tail _ hb => exact hl b hb⟩

theorem wf_isI {n : Int} (h : (Lit.int .i64 n).wf = true) : isI n := by
  simp only [Lit.wf, IntKind.min, IntKind.max, IntKind.signed, IntKind.bits, Bool.and_eq_true, decide_eq_true_eq] at h
  unfold isI
  simp at h
  omega

theorem isI_wf {n : Int} (h : isI n) : (Lit.int .i64 n).wf = true := by
  simp only [Lit.wf, IntKind.min, IntKind.max, IntKind.signed, IntKind.bits, Bool.and_eq_true, decide_eq_true_eq]
  unfold isI at h
  simp
  omega

theorem bd_ints {v : V} {t : TypeId} (h : Bd (.sl (.int .i64) t) v) : ∃ l : List Int, v = .l (ints l) ∧ l.length ≤ big ∧ ∀ x ∈ l, isI x := by
  obtain ⟨xs, rfl, h1, h2⟩ := h
  obtain ⟨l, rfl, h3⟩ := map_of (f := V.i) (P := isI) (fun x hx => by
    obtain ⟨n, e, hn⟩ := h2 x hx
    exact ⟨n, e, wf_isI hn⟩)
  exact ⟨l, rfl, by simpa using h1, h3⟩

theorem bd_strs {v : V} {t : TypeId} (h : Bd (.sl .str t) v) : ∃ l : List (List UInt8), v = .l (l.map V.s) ∧ l.length ≤ big ∧ ∀ x ∈ l, x.length ≤ maxLen := by
  obtain ⟨xs, rfl, h1, h2⟩ := h
  obtain ⟨l, rfl, h3⟩ := map_of (f := V.s) (P := fun x => x.length ≤ maxLen) (fun x hx => by
    obtain ⟨n, e, hn⟩ := h2 x hx
    exact ⟨n, e, hn⟩)
  exact ⟨l, rfl, by simpa using h1, h3⟩

theorem bd_list {α : Type} {f : α → V} {P : α → Prop} {e : Sh} {t : TypeId} (he : ∀ x, Bd e x → ∃ a, x = f a ∧ P a) {v : V} (h : Bd (.sl e t) v) : ∃ l : List α, v = .l (l.map f) ∧ l.length ≤ big ∧ ∀ x ∈ l, P x := by
  obtain ⟨xs, rfl, h1, h2⟩ := h
  obtain ⟨l, rfl, h3⟩ := map_of (f := f) (P := P) (fun x hx => he x (h2 x hx))
  exact ⟨l, rfl, by simpa using h1, h3⟩

structure Tl where
  what : Int
  who : Int
  count : Int
def Tl.v (t : Tl) : V := .t [.i t.what, .i t.who, .i t.count]
def Tl.fit (t : Tl) : Prop := isI t.what ∧ isI t.who ∧ isI t.count

structure Pt where
  key : Bool
  qp : Int
  row : List UInt8
def Pt.v (p : Pt) : V := .t [.b p.key, .i p.qp, .s p.row]

structure St8 where
  who : Int
  count : Int
  part : Pt
  pic : Pc
def St8.v (s : St8) : V := .t [.i s.who, .i s.count, .b s.part.key, .i s.part.qp, .s s.part.row, .i s.pic.w, .i s.pic.h, .s s.pic.d]
def Pc.fit (p : Pc) : Prop := isI p.w ∧ isI p.h ∧ p.d.length ≤ maxLen
def Pt.fit (p : Pt) : Prop := isI p.qp ∧ p.row.length ≤ maxLen
def St8.fit (s : St8) : Prop := isI s.who ∧ isI s.count ∧ s.part.fit ∧ s.pic.fit

structure Lk where
  sq : Sq
  tells : List Tl
  units : List (List UInt8)
  codes : List Int
  pics : List Pc
def Lk.v (l : Lk) : V := .t [.i l.sq.lv, .i l.sq.bits, .l (ints l.sq.cols), .l (ints l.sq.rows), .l (l.tells.map Tl.v), .l (l.units.map V.s), .l (ints l.codes), .l (l.pics.map Pc.v)]
structure Sq.Fit (s : Sq) : Prop where
  lv : isI s.lv
  bits : isI s.bits
  cols : s.cols.length ≤ big ∧ ∀ x ∈ s.cols, isI x
  rows : s.rows.length ≤ big ∧ ∀ x ∈ s.rows, isI x
structure Lk.Fit (l : Lk) : Prop where
  sq : l.sq.Fit
  tells : l.tells.length ≤ big ∧ ∀ x ∈ l.tells, x.fit
  units : l.units.length ≤ big ∧ ∀ x ∈ l.units, x.length ≤ maxLen
  codes : l.codes.length ≤ big ∧ ∀ x ∈ l.codes, isI x
  pics : l.pics.length ≤ big ∧ ∀ x ∈ l.pics, x.fit

theorem bd_tell {v : V} (h : Bd z209 v) : ∃ t : Tl, v = t.v ∧ t.fit := by
  unfold z209 at h
  obtain ⟨_, _, rfl, ⟨a, rfl, ha⟩, _, _, e1, ⟨b, rfl, hb⟩, _, _, e2, ⟨c, rfl, hc⟩, e3⟩ := h
  cases e1; cases e2; cases e3
  exact ⟨⟨a, b, c⟩, rfl, wf_isI ha, wf_isI hb, wf_isI hc⟩

theorem bd_pic {v : V} (h : Bd z37 v) : ∃ p : Pc, v = p.v ∧ p.fit := by
  unfold z37 at h
  obtain ⟨_, _, rfl, ⟨a, rfl, ha⟩, _, _, e1, ⟨b, rfl, hb⟩, _, _, e2, ⟨c, rfl, hc⟩, e3⟩ := h
  cases e1; cases e2; cases e3
  exact ⟨⟨a, b, c⟩, rfl, wf_isI ha, wf_isI hb, hc⟩

theorem pic_bd {p : Pc} (h : p.fit) : Bd z37 p.v :=
  ⟨_, _, rfl, ⟨_, rfl, isI_wf h.1⟩, _, _, rfl, ⟨_, rfl, isI_wf h.2.1⟩, _, _, rfl, ⟨_, rfl, h.2.2⟩, rfl⟩

theorem bd_sight {v : V} (h : Bd z211 v) : ∃ s : St8, v = s.v ∧ s.fit := by
  unfold z211 at h
  obtain ⟨_, _, rfl, ⟨a, rfl, ha⟩, _, _, e1, ⟨b, rfl, hb⟩, _, _, e2, ⟨k, rfl⟩, _, _, e3, ⟨q, rfl, hq⟩, _, _, e4, ⟨r, rfl, hr⟩, _, _, e5, ⟨w, rfl, hw⟩, _, _, e6, ⟨y, rfl, hy⟩, _, _, e7, ⟨d, rfl, hd⟩, e8⟩ := h
  cases e1; cases e2; cases e3; cases e4; cases e5; cases e6; cases e7; cases e8
  exact ⟨⟨a, b, ⟨k, q, r⟩, ⟨w, y, d⟩⟩, rfl, wf_isI ha, wf_isI hb, ⟨wf_isI hq, hr⟩, wf_isI hw, wf_isI hy, hd⟩

theorem bd_look {v : V} (h : Bd z172 v) : ∃ l : Lk, v = l.v ∧ l.Fit := by
  unfold z172 at h
  obtain ⟨_, _, rfl, ⟨a, rfl, ha⟩, _, _, e1, ⟨b, rfl, hb⟩, _, _, e2, hcols, _, _, e3, hrows, _, _, e4, htells, _, _, e5, hunits, _, _, e6, hcodes, _, _, e7, hpics, e8⟩ := h
  cases e1; cases e2; cases e3; cases e4; cases e5; cases e6; cases e7; cases e8
  obtain ⟨cols, rfl, hc⟩ := bd_ints hcols
  obtain ⟨rows, rfl, hr⟩ := bd_ints hrows
  obtain ⟨tells, rfl, ht⟩ := bd_list (f := Tl.v) (P := Tl.fit) (fun x hx => bd_tell hx) htells
  obtain ⟨units, rfl, hu⟩ := bd_strs hunits
  obtain ⟨codes, rfl, hk⟩ := bd_ints hcodes
  obtain ⟨pics, rfl, hp⟩ := bd_list (f := Pc.v) (P := Pc.fit) (fun x hx => bd_pic hx) hpics
  exact ⟨⟨⟨a, b, cols, rows⟩, tells, units, codes, pics⟩, rfl, ⟨wf_isI ha, wf_isI hb, hc, hr⟩, ht, hu, hk, hp⟩

/-- A world: its looks and sights, among its cells. -/
structure Wd (fs : List V) (ls : List Lk) (ss : List St8) : Prop where
  len : fs.length = 43
  looks : fs[41]? = some (.l (ls.map Lk.v))
  sights : fs[40]? = some (.l (ss.map St8.v))
  ll : ls.length ≤ big
  sl : ss.length ≤ big
  lf : ∀ l ∈ ls, l.Fit
  sf : ∀ s ∈ ss, s.fit

theorem z82_41 : z82.leaf 41 = some z80 := by kernel_rfl
theorem z82_40 : z82.leaf 40 = some z79 := by kernel_rfl
theorem z80_eq : z80 = .sl z172 172 := by kernel_rfl
theorem z79_eq : z79 = .sl z211 211 := by kernel_rfl

set_option maxRecDepth 100000 in
theorem bd_world {v : V} (h : Bd z82 v) : ∃ fs ls ss, v = .t fs ∧ Wd fs ls ss := by
  obtain ⟨fs, rfl, hl⟩ := h.wt.len (by kernel_rfl) (by kernel_rfl)
  obtain ⟨x, h1, h2⟩ := h.at z82_41
  obtain ⟨y, h3, h4⟩ := h.at z82_40
  rw [z80_eq] at h2
  rw [z79_eq] at h4
  obtain ⟨ls, rfl, k1, k2⟩ := bd_list (f := Lk.v) (P := Lk.Fit) (fun x hx => bd_look hx) h2
  obtain ⟨ss, rfl, k3, k4⟩ := bd_list (f := St8.v) (P := St8.fit) (fun x hx => bd_sight hx) h4
  exact ⟨fs, ls, ss, rfl, by rw [hl]; kernel_rfl, h1, h3, k1, k3, k2, k4⟩

theorem world_like : z69.like z82 = true := by kernel_rfl

/-- all cells of a world -/
theorem wd_all {fs : List V} (h : fs.length = 43) {ρ : List V} {n : Nat} (hn : ρ[n]? = some (.t fs)) : (fieldsE n 0 43).den ρ = some (.t fs) := by
  have := fieldsE_den hn (k := 43) (j := 0) (by omega)
  simpa using this

theorem succ_ne (n : Nat) : ((n : Int) + 1 == 0) = false := by
  have : ¬ ((n : Int) + 1 = 0) := by omega
  simpa using this

theorem get_el {α : Type} {l : List α} {i : Nat} {x : α} (h : l[i]? = some x) : ∀ hi : i < l.length, l[i]'hi = x := fun hi => by
  rw [List.getElem?_eq_getElem hi] at h
  exact Option.some.inj h

theorem looks_get {ls : List Lk} {k : Nat} {l : Lk} (h : ls[k]? = some l) : (ls.map Lk.v)[k]? = some l.v := by simp [h]

def noLook : Lk := ⟨⟨0, 0, [], []⟩, [], [], [], []⟩

/-- What a tile of a look shows. -/
def tileShows (ls : List Lk) (k tile : Int) : Option Pc :=
  if 0 ≤ k ∧ k < ls.length then (match ls[k.toNat]? with
    | some l => (match l.pics with
      | [] => none
      | p :: _ => (match l.sq.tileRect tile with
        | some r => p.cut r
        | none => none))
    | none => none) else none

theorem cl23 {fs : List V} {ls : List Lk} {ss : List St8} (W : Wd fs ls ss) (k tile : Int) : Cl 23 [.t fs, .i k, .i tile] (picV (tileShows ls k tile)) := by
  refine s23 ?_
  have h41 := W.looks
  by_cases h0 : k < 0
  · exact run_ex [] ors_nil (by simp [A.evC, a23, denL, E.den, Pm.ev, ans, h0, tileShows, show ¬ (0 ≤ k) by omega, optV, noPic])
  by_cases h1 : k < ls.length
  · obtain ⟨n, rfl⟩ := Int.eq_ofNat_of_zero_le (show 0 ≤ k by omega)
    have hn : n < ls.length := by omega
    obtain ⟨l, hl⟩ : ∃ l, ls[n]? = some l := ⟨ls[n], List.getElem?_eq_getElem hn⟩
    have hlv := looks_get hl
    generalize hL : ls.map Lk.v = L at h41 hlv
    have hLl : L.length = ls.length := by rw [← hL]; simp
    clear hL
    have hlv := get_el hlv
    have hl' := get_el hl
    have hge : ¬ (ls.length ≤ n) := by omega
    cases hp : l.pics with
    | nil => exact run_ex [] ors_nil (by simp [A.evC, a23, denL, E.den, Pm.ev, ans, h0, h41, hLl, hge, hlv, Lk.v, hp, tileShows, hl', hn, optV, noPic])
    | cons p ps =>
      have c1 := cl98 l.sq tile
      cases hr : l.sq.tileRect tile with
      | none =>
        rw [hr] at c1
        exact run_ex [.cl 98 _ _] (ors_cl c1 ors_nil) (by simp [A.evC, a23, denL, E.den, Pm.ev, ans, h0, h41, hLl, hge, hlv, Lk.v, Sq.v, hp, tileShows, hl', hn, optV, noPic, noRect, hr, succ_ne ps.length])
      | some r =>
        rw [hr] at c1
        have c2 := cl99 p r
        cases hc : p.cut r with
        | none =>
          rw [hc] at c2
          exact run_ex [.cl 98 _ _, .cl 99 _ _] (ors_cl c1 (ors_cl c2 ors_nil)) (by simp [A.evC, a23, denL, E.den, Pm.ev, ans, h0, h41, hLl, hge, hlv, Lk.v, Sq.v, Pc.v, Rc4.v, hp, tileShows, hl', hn, optV, noPic, noRect, hr, hc, succ_ne ps.length])
        | some q =>
          rw [hc] at c2
          exact run_ex [.cl 98 _ _, .cl 99 _ _] (ors_cl c1 (ors_cl c2 ors_nil)) (by simp [A.evC, a23, denL, E.den, Pm.ev, ans, h0, h41, hLl, hge, hlv, Lk.v, Sq.v, Pc.v, Rc4.v, hp, tileShows, hl', hn, optV, noPic, noRect, hr, hc, succ_ne ps.length])
  · exact run_ex [] ors_nil (by simp [A.evC, a23, denL, E.den, Pm.ev, ans, h0, h41, show (ls.length : Int) ≤ k by omega, tileShows, h1, optV, noPic])

theorem cl25 {fs : List V} {ls : List Lk} {ss : List St8} (W : Wd fs ls ss) (k tile : Int) : Cl 25 [.t fs, .i k, .i tile] (picV (tileShows ls k tile)) := by
  refine s25 ?_
  have h41 := W.looks
  have hll := W.ll
  have e0 : IntKind.i64.wrap ((ls.length : Int) - 1) = (ls.length : Int) - 1 := wrap_id (by omega) (by simp [big] at hll; omega)
  have c0 := cl84 k 0 ((ls.length : Int) - 1)
  cases h0 : within k 0 ((ls.length : Int) - 1)
  · have hno : ¬ (0 ≤ k ∧ k < ls.length) := fun h => by rw [w_in.2 ⟨h.1, by omega⟩] at h0; cases h0
    exact run_ex [.cl 84 _ _] (ors_cl c0 ors_nil) (by simp [A.evC, a25, denL, E.den, Pm.ev, ans, h0, h41, e0, tileShows, hno, optV, noPic])
  · have hw := w_in.1 h0
    obtain ⟨n, rfl⟩ := Int.eq_ofNat_of_zero_le hw.1
    have hn : n < ls.length := by omega
    obtain ⟨l, hl⟩ : ∃ l, ls[n]? = some l := ⟨ls[n], List.getElem?_eq_getElem hn⟩
    have hlv := looks_get hl
    generalize hL : ls.map Lk.v = L at h41 hlv
    have hLl : L.length = ls.length := by rw [← hL]; simp
    clear hL
    have hlv := get_el hlv
    have hl' := get_el hl
    cases hp : l.pics with
    | nil => exact run_ex [.cl 84 _ _] (ors_cl c0 ors_nil) (by simp [A.evC, a25, denL, E.den, Pm.ev, ans, h41, hLl, e0, h0, hlv, Lk.v, hp, tileShows, hl', hn, optV, noPic])
    | cons p ps =>
      have c1 := cl19 l.sq tile
      cases hr : l.sq.tileRect tile with
      | none =>
        rw [hr] at c1
        exact run_ex [.cl 84 _ _, .cl 19 _ _] (ors_cl c0 (ors_cl c1 ors_nil)) (by simp [A.evC, a25, denL, E.den, Pm.ev, ans, h41, hLl, e0, h0, hlv, Lk.v, Sq.v, hp, tileShows, hl', hn, optV, noPic, noRect, hr, succ_ne ps.length])
      | some r =>
        rw [hr] at c1
        have c2 := cl21 p r
        cases hc : p.cut r with
        | none =>
          rw [hc] at c2
          exact run_ex [.cl 84 _ _, .cl 19 _ _, .cl 21 _ _] (ors_cl c0 (ors_cl c1 (ors_cl c2 ors_nil))) (by simp [A.evC, a25, denL, E.den, Pm.ev, ans, h41, hLl, e0, h0, hlv, Lk.v, Sq.v, Pc.v, Rc4.v, hp, tileShows, hl', hn, optV, noPic, noRect, hr, hc, succ_ne ps.length])
        | some q =>
          rw [hc] at c2
          exact run_ex [.cl 84 _ _, .cl 19 _ _, .cl 21 _ _] (ors_cl c0 (ors_cl c1 (ors_cl c2 ors_nil))) (by simp [A.evC, a25, denL, E.den, Pm.ev, ans, h41, hLl, e0, h0, hlv, Lk.v, Sq.v, Pc.v, Rc4.v, hp, tileShows, hl', hn, optV, noPic, noRect, hr, hc, succ_ne ps.length])

end Go.Proofs.YteleedlkdadogaaGreat.Fw
