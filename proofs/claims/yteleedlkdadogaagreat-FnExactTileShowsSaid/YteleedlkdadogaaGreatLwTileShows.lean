/- The law FnExactTileShows: its pure word. -/
import Derived.Test.YteleedlkdadogaaGreatPu4
namespace Go.Proofs.YteleedlkdadogaaGreat.Fw
open Go.RowKit

theorem cut_fit {p q : Pc} {r : Rc4} (h : p.cut r = some q) : q.fit := by
  unfold Pc.cut at h
  split at h
  · rename_i hc
    have hh := Pc.has hc
    cases h
    generalize p.w.toNat = W at hh ⊢
    generalize p.h.toNat = H at hh ⊢
    generalize r.l.toNat = l at hh ⊢
    generalize r.t.toNat = t at hh ⊢
    generalize r.w.toNat = w at hh ⊢
    generalize r.h.toNat = k at hh ⊢
    have h1 := hh.lw
    have h2 := hh.th
    have h3 := hh.W6
    have h4 := hh.H6
    have h5 := cutD_len p.d W l t w k
    have h6 : k * w ≤ 256 * 256 := Nat.mul_le_mul (by omega) (by omega)
    refine ⟨?_, ?_, ?_⟩
    · show isI r.w; rw [hh.rw]; unfold isI; omega
    · show isI r.h; rw [hh.rh]; unfold isI; omega
    · show (cutD p.d W l t w k).length ≤ maxLen
      simp only [maxLen]
      omega
  · cases h

theorem shows_fit {ls : List Lk} {k tile : Int} {q : Pc} (h : tileShows ls k tile = some q) : q.fit := by
  unfold tileShows at h
  split at h
  · split at h
    · split at h
      · cases h
      · split at h
        · exact cut_fit h
        · cases h
    · cases h
  · cases h

theorem wt_int {v : V} (h : Wt z3 v) : ∃ n, v = .i n := by
  obtain ⟨n, h, _⟩ := h
  exact ⟨n, h⟩

theorem wt3 {a b c : Sh} {us : List V} (h : WtAll [a, b, c] us) : ∃ w n m, us = [w, n, m] ∧ Wt a w ∧ Wt b n ∧ Wt c m := by
  match us, h with
  | [w, n, m], ⟨h1, h2, h3, _⟩ => exact ⟨w, n, m, rfl, h1, h2, h3⟩

theorem like82 {v : V} (h : Bd z69 v) : Bd z82 v := h.like world_like

set_option maxRecDepth 100000 in
theorem lawTileShows : ∀ us, WtAll [z69, z3, z3] us → SoundAt Tryz.prog 4 [z69, z3, z3] [.bool] us [.b true] := by
  intro us hus
  obtain ⟨w, n, m, rfl, hw, hn, hm⟩ := wt3 hus
  obtain ⟨k, rfl⟩ := wt_int hn
  obtain ⟨tile, rfl⟩ := wt_int hm
  refine compF_sound tabOk mixed Tryz.func4 c4 ?_
  show a4.wp Cl (ans [.b true]) [w, .i k, .i tile]
  obtain ⟨fs, rfl, hfl⟩ := hw.len (by kernel_rfl) (by kernel_rfl)
  have hfl : fs.length = 43 := by rw [hfl]; kernel_rfl
  obtain ⟨r, hr, _, _, h3⟩ := sz22 (.t fs) 1048576 hw (by decide) (by decide)
  have hall : ∀ (ρ : List V) (n : Nat), ρ[n]? = some (.t fs) → (fieldsE n 0 43).den ρ = some (.t fs) := fun ρ n h => wd_all hfl h
  by_cases hneg : r < 0
  · exact run_ex [.cl 22 _ _] (ors_cl hr ors_nil) (by simp [A.evC, a4, denL, hall, E.den, Pm.ev, ans, hneg])
  · have hb : Bd z69 (.t fs) := h3 (by omega)
    have hto := to24 _ hb
    have heq := eq27 _ (like82 hb)
    obtain ⟨fs', ls, ss, e, W⟩ := bd_world (like82 hb)
    cases e
    have c1 := cl23 W k tile
    have c2 := cl25 W k tile
    cases hs : tileShows ls k tile with
    | none =>
      rw [hs] at c1 c2
      have c3 : Cl 26 [noPic, noPic] [.b true] := eq26 _ (pic_bd (p := ⟨0, 0, []⟩) ⟨by simp [isI], by simp [isI], Nat.zero_le _⟩)
      exact run_ex [.cl 22 _ _, .cl 24 _ _, .cl 23 _ _, .cl 24 _ _, .cl 25 _ _, .cl 26 _ _, .cl 24 _ _, .cl 27 _ _] (ors_cl hr (ors_cl hto (ors_cl c1 (ors_cl hto (ors_cl c2 (ors_cl c3 (ors_cl hto (ors_cl heq ors_nil))))))))
        (by simp [A.evC, a4, denL, hall, E.den, Pm.ev, ans, hneg, optV, noPic])
    | some q =>
      rw [hs] at c1 c2
      have c3 : Cl 26 [q.v, q.v] [.b true] := eq26 _ (pic_bd (shows_fit hs))
      exact run_ex [.cl 22 _ _, .cl 24 _ _, .cl 23 _ _, .cl 24 _ _, .cl 25 _ _, .cl 26 _ _, .cl 24 _ _, .cl 27 _ _] (ors_cl hr (ors_cl hto (ors_cl c1 (ors_cl hto (ors_cl c2 (ors_cl c3 (ors_cl hto (ors_cl heq ors_nil))))))))
        (by simp [A.evC, a4, denL, hall, E.den, Pm.ev, ans, hneg, optV, Pc.v])

end Go.Proofs.YteleedlkdadogaaGreat.Fw
