/- The law FnExactTrueWorld: its pure word. -/
import Derived.Test.YteleedlkdadogaaGreatPu7
namespace Go.Proofs.YteleedlkdadogaaGreat.Fw
open Go.RowKit

theorem wt_int {v : V} (h : Wt z3 v) : ∃ n, v = .i n := by
  obtain ⟨n, h, _⟩ := h
  exact ⟨n, h⟩

theorem wt3 {a b c : Sh} {us : List V} (h : WtAll [a, b, c] us) : ∃ w n m, us = [w, n, m] ∧ Wt a w ∧ Wt b n ∧ Wt c m := by
  match us, h with
  | [w, n, m], ⟨h1, h2, h3, _⟩ => exact ⟨w, n, m, rfl, h1, h2, h3⟩

theorem wt2 {a b : Sh} {us : List V} (h : WtAll [a, b] us) : ∃ w n, us = [w, n] ∧ Wt a w ∧ Wt b n := by
  match us, h with
  | [w, n], ⟨h1, h2, _⟩ => exact ⟨w, n, rfl, h1, h2⟩

theorem wt1 {a : Sh} {us : List V} (h : WtAll [a] us) : ∃ w, us = [w] ∧ Wt a w := by
  match us, h with
  | [w], ⟨h1, _⟩ => exact ⟨w, rfl, h1⟩

theorem like82 {v : V} (h : Bd z69 v) : Bd z82 v := h.like world_like

set_option maxRecDepth 100000 in
theorem lawTrueWorld : ∀ us, WtAll [z69] us → SoundAt Tryz.prog 9 [z69] [.bool] us [.b true] := by
  intro us hus
  obtain ⟨w, rfl, hw⟩ := wt1 hus
  refine compF_sound tabOk mixed Tryz.func9 c9 ?_
  show a9.wp Cl (ans [.b true]) [w]
  obtain ⟨fs, rfl, hfl⟩ := hw.len (by kernel_rfl) (by kernel_rfl)
  have hfl : fs.length = 43 := by rw [hfl]; kernel_rfl
  obtain ⟨r, hr, _, _, h3⟩ := sz22 (.t fs) 1048576 hw (by decide) (by decide)
  have hall : ∀ (ρ : List V) (n : Nat), ρ[n]? = some (.t fs) → (fieldsE n 0 43).den ρ = some (.t fs) := fun ρ n h => wd_all hfl h
  by_cases hneg : r < 0
  · exact run_ex [.cl 22 _ _] (ors_cl hr ors_nil) (by simp [A.evC, a9, denL, hall, E.den, Pm.ev, ans, hneg])
  · have hb : Bd z69 (.t fs) := h3 (by omega)
    have hto := to24 _ hb
    have heq := eq27 _ (like82 hb)
    obtain ⟨fs', ls, ss, e, W⟩ := bd_world (like82 hb)
    cases e
    exact run_ex [.cl 22 _ _, .cl 24 _ _, .cl 47 _ _, .cl 24 _ _, .cl 48 _ _, .cl 24 _ _, .cl 27 _ _] (ors_cl hr (ors_cl hto (ors_cl (cl47 W) (ors_cl hto (ors_cl (cl48 W) (ors_cl hto (ors_cl heq ors_nil)))))))
      (by simp [A.evC, a9, denL, hall, E.den, Pm.ev, ans, hneg])

end Go.Proofs.YteleedlkdadogaaGreat.Fw
