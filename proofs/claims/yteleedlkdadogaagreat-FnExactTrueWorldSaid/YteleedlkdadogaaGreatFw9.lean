/- Steps of operations, 6: stores are what their steps tell; new slices. -/
import Derived.Test.YteleedlkdadogaaGreatFw8
import Derived.Great.BuildSlice
namespace Go.Proofs.YteleedlkdadogaaGreat.Fw
open Go.RowKit

section
variable {x : Fx} {Γ : G} {ρ : List V} {a : Act} {w : World} {g : Gh} {sl : Nat → SV} {ch : Nat → Option Ch} {o : Oper} {res : Res}

theorem Own.dropTakeT {w : World} {L : Nat → List Nat} {w' : World} {L' : Nat → List Nat} {e : Sh} {fs : List V} {ds news : List Value} {gs : List V} {p : List Nat} {off : Nat} (hs : e.isSt = true)
    (how : Own w L e (.t fs) ds p) (hl : gs.length = news.length) (hoff : off + news.length ≤ e.sz)
    (hfr : ∀ b q, L b = q ++ p → w'.heap[b]? = w.heap[b]? ∧ L' b = q ++ p)
    (hnew : ∀ i s v d, e.leaf (off + i) = some s → gs[i]? = some v → news[i]? = some d → Own w' L' s v [d] ((e.sz - 1 - (off + i)) :: p)) :
    Own w' L' e (.t (fs.take off ++ gs ++ fs.drop (off + gs.length))) (ds.take off ++ news ++ ds.drop (off + news.length)) p := by
  have hds := how.length
  obtain ⟨h1, h2, h3⟩ := how.leaves hs
  refine Own.ofLeaves h1 (by rw [splice_length (by omega), h2]) (by rw [splice_length (by omega), hds]) (fun j s v d e1 e2 e3 => ?_)
  rw [splice_get (by omega)] at e2
  rw [splice_get (by omega)] at e3
  by_cases c1 : j < off
  · rw [if_pos c1] at e2 e3
    obtain ⟨v', d', k1, k2, k3⟩ := h3 j s e1
    rw [k1] at e2; cases e2
    rw [k2] at e3; cases e3
    refine k3.frame (fun b q hb => ?_)
    have := hfr b (q ++ [e.sz - 1 - j]) (by rw [hb]; simp)
    exact ⟨this.1, by rw [this.2]; simp⟩
  · rw [if_neg c1] at e2 e3
    by_cases c2 : j < off + news.length
    · rw [if_pos (by omega)] at e2
      rw [if_pos c2] at e3
      have := hnew (j - off) s v d (by rw [show off + (j - off) = j by omega]; exact e1) e2 e3
      rw [show off + (j - off) = j by omega] at this
      exact this
    · rw [if_neg (by omega)] at e2
      rw [if_neg c2] at e3
      obtain ⟨v', d', k1, k2, k3⟩ := h3 j s e1
      rw [k1] at e2; cases e2
      rw [k2] at e3; cases e3
      refine k3.frame (fun b q hb => ?_)
      have := hfr b (q ++ [e.sz - 1 - j]) (by rw [hb]; simp)
      exact ⟨this.1, by rw [this.2]; simp⟩

theorem look_cons_self {α : Type} (c : Nat) (h : α) (l : List (Nat × α)) : look ((c, h) :: l) c = some h := by simp [look]

theorem look_deads {c d : Nat} {h k : Ch} {m : List (Nat × List Nat)} (hl : look ((c, h) :: deads m) d = some k) : (d = c ∧ k = h) ∨ k = .dead := by
  simp only [look] at hl
  split at hl
  · rename_i e; cases hl; exact .inl ⟨(Nat.eq_of_beq_eq_true e).symm, rfl⟩
  · have := look_mem hl
    simp only [deads, List.mem_map] at this
    obtain ⟨y, _, he⟩ := this
    cases he
    exact .inr rfl

theorem moved_gv {c : Nat} {h : Ch} {m : List (Nat × List Nat)} {mv : List (Nat × List Nat)} : (g.moved mv (fun d => (look ((c, h) :: deads m) d).isSome)).gv c = g.gv c + 1 := by
  simp [Gh.moved, look_cons_self]

theorem moved_stay {c : Nat} {m : List (Nat × List Nat)} {p : List Nat} (h2 : ∀ x ∈ m, x.1 ≠ c) {T : Nat → Bool} {b : Nat} {q : List Nat} (hb : g.L b = q ++ [c]) :
    (g.moved (m.map fun x => (x.1, x.2 ++ p)) T).L b = q ++ [c] := by
  show moveL _ g.L b = _
  rw [moveL_miss (fun d hd => ?_), hb]
  rw [hb] at hd
  simp at hd
  subst hd
  refine look_none_of (fun y hy e => ?_)
  obtain ⟨z, hz, rfl⟩ := List.mem_map.1 hy
  exact h2 z hz e

theorem moved_go {m : List (Nat × List Nat)} {p : List Nat} (h1 : nodupB (m.map (·.1)) = true) {T : Nat → Bool} {d : Nat} {rp : List Nat} (hd : (d, rp) ∈ m) {b : Nat} {q : List Nat} (hb : g.L b = q ++ [d]) :
    (g.moved (m.map fun x => (x.1, x.2 ++ p)) T).L b = q ++ (rp ++ p) := moveL_hit hb (moved_hit h1 p hd)

theorem block_ne {c d : Nat} {b b' : Nat} {q : List Nat} (hb : (g.L b).getLast? = some c) (hb' : g.L b' = q ++ [d]) (hne : d ≠ c) : b' ≠ b := by
  intro e; subst e
  rw [hb'] at hb
  simp at hb
  exact hne hb

theorem good_store {T : Nat → Option TI} (hT : TabOk x.P T) (hv : Vw x Γ ρ a w g sl ch) {C : Nat → List V → List V → Prop} {n : Nat} {t : TypeId} {y z : Operand} (ho : o.op = .store t y z)
    (hr : stepStore n T sl ch t y z = some res) (he : EmsOk C ρ n res.ems) : Good x ρ a w g o res := by
  unfold stepStore at hr
  split at hr
  · rename_i ti cs hti hcs
    have hti := hT _ _ hti
    split at hr
    · rename_i hnl
      simp only [Bool.and_eq_true] at hnl
      have hcok := cellsOf_ok (hv.opnd z) hcs
      have hone := hcok.one hnl.1
      have hlen : cs.length = ti.size := Nat.eq_of_beq_eq_true hnl.2
      have hlen' : (a.eval z).cells.size = ti.size := by have := hcok.length; simp only [Array.length_toList] at this; omega
      split at hr
      · rename_i c off hy
        split at hr
        · rename_i cells ty hc
          split at hr
          · rename_i hcond
            simp only [Bool.and_eq_true, Bool.not_eq_true'] at hcond
            have hle := Nat.le_of_ble_eq_true hcond.1
            have h0 : c ≠ 0 := by intro e; subst e; simp at hcond
            cases hr
            obtain ⟨b, hio, hval⟩ := hv.cv hy
            obtain ⟨b', vs, hio', hL, hh, hbox⟩ := hv.chok hc
            rw [hio] at hio'; cases hio'
            have hll := hbox.length
            have hrun := run_storeVar_at (w := w) hti hh (val := a.eval z) (k := off) hlen' (by simp; omega) hone
            have f : Fr (keys ((c, Ch.box (cells.take off ++ cs ++ cells.drop (off + cs.length)) ty) :: deads [])) w g _ _ :=
              Fr.store (m := []) (p := []) rfl h0 hv.rel.high (b := b) (by rw [hL]; rfl) ((vs.toArray.toList.take off ++ (a.eval z).cells.toList ++ vs.toArray.toList.drop (off + (a.eval z).cells.size)).toArray)
            refine good_skip (exec_store ho hval hrun) f (fun d k hk => ?_) rfl
            rcases look_deads (m := []) hk with ⟨rfl, rfl⟩ | rfl
            · refine ⟨b, _, hio, ?_, setRow_heap w b _ _ ty (0, 0) hh, ?_⟩
              · have := moved_stay (g := g) (m := []) (p := []) (c := d) (by simp) (T := fun d' => (look ((d, Ch.box (cells.take off ++ cs ++ cells.drop (off + cs.length)) ty) :: deads []) d').isSome) (b := b) (q := []) (by simpa using hL)
                simpa using this
              · refine cellsOk.mono (fun _ _ => CV.frame f hv.rel.high hv.rel.st) ?_
                have := ((hbox.take off).append hcok).append (hbox.drop (off + cs.length))
                rw [hlen, ← hlen'] at this ⊢
                simpa using this
            · trivial
          · cases hr
        · cases hr
      · rename_i c esz i off hy
        split at hr
        · rename_i ver e et q hc
          split at hr
          · rename_i hcond
            simp only [Bool.and_eq_true, Bool.not_eq_true'] at hcond
            have hesz := Nat.eq_of_beq_eq_true hcond.1
            subst hesz
            have h0 : c ≠ 0 := by intro e; subst e; simp at hcond
            obtain ⟨b, k, len, cap, j, hio, hi, hval⟩ := hv.cv hy
            obtain ⟨vq, val', hio', hq, hgv, how⟩ := hv.chok hc
            rw [hio] at hio'; cases hio'
            have how0 := how
            obtain ⟨xs, ad, len', cap', rfl, hcs', hlx, hcap, hmax, hor⟩ := how
            simp only [List.cons.injEq, Value.slice.injEq, and_true] at hcs'
            obtain ⟨rfl, rfl, rfl⟩ := hcs'
            rcases hor with ⟨h5, _⟩ | ⟨gb, ko, cur, ha, hLg, hh, hsz, hall⟩
            · cases h5
            · cases ha
              have hrow : ∀ jj, jj < xs.length → k + jj * e.sz + e.sz ≤ k + cap * e.sz := by
                intro jj hjj
                have : (jj + 1) * e.sz ≤ cap * e.sz := Nat.mul_le_mul_right _ (by omega)
                rw [Nat.add_mul] at this
                omega
              split at hr
              · rename_i hfull
                simp only [Bool.and_eq_true] at hfull
                have hoff := Nat.eq_of_beq_eq_true hfull.1
                subst hoff
                have hfl := Nat.eq_of_beq_eq_true hfull.2
                split at hr
                · rename_i ev m hcl
                  split at hr
                  · rename_i hmv
                    cases hr
                    obtain ⟨hm1, hm2, hm3⟩ := movesOk_spec hmv
                    obtain ⟨⟨us, v, hd, hev, hn⟩, _⟩ := he
                    obtain ⟨u1, u2, u3, e1, e2, e3, rfl⟩ := denL_three hd
                    rw [hq] at e1; cases e1
                    rw [hi] at e2; cases e2
                    obtain ⟨ve, hve, hown⟩ := closeEl_ok hv hcok hcl
                    rw [hve] at e3; cases e3
                    simp only [Pm.ev] at hev
                    split at hev
                    · rename_i hb
                      cases hev
                      have hj : j < xs.length := by omega
                      have hrun := run_storeVar_at (w := w) hti hh (val := a.eval z) (k := k + j * e.sz + 0) hlen' (by have := hrow j hj; omega) hone
                      have f := Fr.store (w := w) (g := g) (h := Ch.arr (ver + 1) e et (.v n)) hmv h0 hv.rel.high (b := b) (by rw [hLg]; rfl) ((cur.toList.take (k + j * e.sz + 0) ++ (a.eval z).cells.toList ++ cur.toList.drop (k + j * e.sz + 0 + (a.eval z).cells.size)).toArray) (j :: [c])
                      refine good_skip (exec_store ho hval hrun) f (fun d kk hk => ?_) rfl
                      rcases look_deads hk with ⟨rfl, rfl⟩ | rfl
                      · refine ⟨_, _, f.io _ _ hio, hn, by rw [moved_gv, hgv], ?_⟩
                        simp only [Int.toNat_natCast]
                        refine how0.setElem rfl rfl rfl (off := 0) hj (news := (a.eval z).cells.toList) (by simp; omega) (fun cur' ty' hcur _ => ?_) (fun b' q' hb' => moved_stay hm2 hb') (fun ds xx hxx how1 => ?_)
                        · rw [hh] at hcur; cases hcur; simp
                        · have hdl := how1.length
                          have := hown (w.setRow b ((cur.toList.take (k + j * e.sz + 0) ++ (a.eval z).cells.toList ++ cur.toList.drop (k + j * e.sz + 0 + (a.eval z).cells.size)).toArray)) _ (j :: [d]) (fun d' rp hdm b' q' hb' => ⟨setRow_other w b b' _ (block_ne (by rw [hLg]; rfl) hb' (hm2 _ hdm)), moved_go (T := fun d' => (look ((d, Ch.arr (ver + 1) e et (.v n)) :: deads m) d').isSome) hm1 hdm hb'⟩)
                          simpa [show ds.drop (a.eval z).cells.size = [] from List.drop_eq_nil_of_le (by omega)] using this
                      · trivial
                    · cases hev
                  · cases hr
                · cases hr
              · split at hr
                · rename_i hpart
                  simp only [Bool.and_eq_true] at hpart
                  have hst := hpart.1.1
                  have hle := Nat.le_of_ble_eq_true hpart.2
                  split at hr
                  · rename_i ys m hcl
                    split at hr
                    · rename_i hmv
                      cases hr
                      obtain ⟨hm1, hm2, hm3⟩ := movesOk_spec hmv
                      obtain ⟨⟨us, v, hd, hev, hn⟩, _⟩ := he
                      obtain ⟨u1, u2, u3, e1, e2, e3, rfl⟩ := denL_three hd
                      rw [hq] at e1; cases e1
                      rw [hi] at e2; cases e2
                      obtain ⟨hyl, gs, hgs, hown⟩ := closeAt_ok hv hcok hcl
                      rw [mkT_den hgs] at e3; cases e3
                      have hgl : gs.length = (a.eval z).cells.toList.length := by rw [denL_length hgs, hyl, hcok.length]
                      simp only [Pm.ev] at hev
                      split at hev
                      · simp only [Int.toNat_natCast] at hev
                        split at hev
                        · rename_i fs hfs
                          split at hev
                          · cases hev
                            have hj : j < xs.length := (List.getElem?_eq_some_iff.1 hfs).1
                            have hrun := run_storeVar_at (w := w) hti hh (val := a.eval z) (k := k + j * e.sz + off) hlen' (by have := hrow j hj; omega) hone
                            have f := Fr.store (w := w) (g := g) (h := Ch.arr (ver + 1) e et (.v n)) hmv h0 hv.rel.high (b := b) (by rw [hLg]; rfl) ((cur.toList.take (k + j * e.sz + off) ++ (a.eval z).cells.toList ++ cur.toList.drop (k + j * e.sz + off + (a.eval z).cells.size)).toArray) (j :: [c])
                            refine good_skip (exec_store ho hval hrun) f (fun d kk hk => ?_) rfl
                            rcases look_deads hk with ⟨rfl, rfl⟩ | rfl
                            · refine ⟨_, _, f.io _ _ hio, hn, by rw [moved_gv, hgv], ?_⟩
                              refine how0.setElem rfl rfl rfl (off := off) hj (news := (a.eval z).cells.toList) (by simp; omega) (fun cur' ty' hcur _ => ?_) (fun b' q' hb' => moved_stay hm2 hb') (fun ds xx hxx how1 => ?_)
                              · rw [hh] at hcur; cases hcur; simp
                              · rw [hfs] at hxx; cases hxx
                                refine how1.dropTakeT hst hgl (by simp; omega) (fun b' q' hb' => ⟨setRow_other w b b' _ (fun e => ?_), ?_⟩) (hown _ _ (j :: [d]) (fun d' rp hdm b' q' hb' => ⟨setRow_other w b b' _ (block_ne (by rw [hLg]; rfl) hb' (hm2 _ hdm)), moved_go (T := fun d' => (look ((d, Ch.arr (ver + 1) e et (.v n)) :: deads m) d').isSome) hm1 hdm hb'⟩))
                                · subst e
                                  rw [hLg] at hb'
                                  have := congrArg List.length hb'
                                  simp at this
                                · have := moved_stay (g := g) (p := j :: [d]) hm2 (T := fun d' => (look ((d, Ch.arr (ver + 1) e et (.v n)) :: deads m) d').isSome) (b := b') (q := q' ++ [j]) (by rw [hb']; simp)
                                  rw [this]; simp
                            · trivial
                          · cases hev
                        · cases hev
                      · cases hev
                    · cases hr
                  · cases hr
                · cases hr
          · cases hr
        · cases hr
      · cases hr
    · cases hr
  · cases hr

end
end Go.Proofs.YteleedlkdadogaaGreat.Fw
