/- What the law's own functions that count, copy and compare do. -/
import Derived.Test.YtbgmehmigckhdaaFn
namespace Go.Proofs.Ytbgmehmigckhdaa.Fw
open Go.RowKit
set_option maxRecDepth 100000
theorem e22 : a22 = szS0 := by kernel_rfl
theorem sz22 : SzF Cl 22 z24 := szF_of s22 (fun v n hv h0 hn => by rw [e22]; exact szS0_ok (by decide) hv h0 hn)
theorem sz6 : SzF Cl 6 z26 := szF_of s6 (fun v n hv h0 hn => sz_struct (K := look [(22, z24)]) (look_all (List.forall_mem_cons.2 ⟨sz22, (fun _ h => nomatch h)⟩)) (by decide) (by decide) (cov := _) (by rfl) (by decide +kernel) hv h0 hn)
theorem sz123 : SzF Cl 123 z153 := szF_of s123 (fun v n hv h0 hn => sz_struct (K := look []) (look_all (fun _ h => nomatch h)) (by decide) (by decide) (cov := _) (by rfl) (by decide +kernel) hv h0 hn)
theorem e140 : a140 = szS1 123 z153 := by kernel_rfl
theorem sz140 : SzF Cl 140 z114 := szF_of s140 (fun v n hv h0 hn => by rw [e140]; exact szS1_ok (fun _ => by decide) sz123 hv h0 hn)
theorem sz100 : SzF Cl 100 z116 := szF_of s100 (fun v n hv h0 hn => sz_struct (K := look [(140, z114)]) (look_all (List.forall_mem_cons.2 ⟨sz140, (fun _ h => nomatch h)⟩)) (by decide) (by decide) (cov := _) (by rfl) (by decide +kernel) hv h0 hn)
theorem sz84 : SzF Cl 84 z49 := szF_of s84 (fun v n hv h0 hn => sz_struct (K := look [(22, z24)]) (look_all (List.forall_mem_cons.2 ⟨sz22, (fun _ h => nomatch h)⟩)) (by decide) (by decide) (cov := _) (by rfl) (by decide +kernel) hv h0 hn)
theorem sz101 : SzF Cl 101 z118 := szF_of s101 (fun v n hv h0 hn => sz_struct (K := look [(84, z49)]) (look_all (List.forall_mem_cons.2 ⟨sz84, (fun _ h => nomatch h)⟩)) (by decide) (by decide) (cov := _) (by rfl) (by decide +kernel) hv h0 hn)
theorem sz59 : SzF Cl 59 z120 := szF_of s59 (fun v n hv h0 hn => sz_struct (K := look [(100, z116), (101, z118)]) (look_all (List.forall_mem_cons.2 ⟨sz100, (List.forall_mem_cons.2 ⟨sz101, (fun _ h => nomatch h)⟩)⟩)) (by decide) (by decide) (cov := _) (by rfl) (by decide +kernel) hv h0 hn)
theorem e21 : a21 = szS1 59 z120 := by kernel_rfl
theorem sz21 : SzF Cl 21 z27 := szF_of s21 (fun v n hv h0 hn => by rw [e21]; exact szS1_ok (fun _ => by decide) sz59 hv h0 hn)
theorem sz5 : SzF Cl 5 z29 := szF_of s5 (fun v n hv h0 hn => sz_struct (K := look [(6, z26), (21, z27)]) (look_all (List.forall_mem_cons.2 ⟨sz6, (List.forall_mem_cons.2 ⟨sz21, (fun _ h => nomatch h)⟩)⟩)) (by decide) (by decide) (cov := _) (by rfl) (by decide +kernel) hv h0 hn)
theorem sz85 : SzF Cl 85 z51 := szF_of s85 (fun v n hv h0 hn => sz_struct (K := look []) (look_all (fun _ h => nomatch h)) (by decide) (by decide) (cov := _) (by rfl) (by decide +kernel) hv h0 hn)
theorem sz122 : SzF Cl 122 z148 := szF_of s122 (fun v n hv h0 hn => sz_struct (K := look [(84, z49), (85, z51)]) (look_all (List.forall_mem_cons.2 ⟨sz84, (List.forall_mem_cons.2 ⟨sz85, (fun _ h => nomatch h)⟩)⟩)) (by decide) (by decide) (cov := _) (by rfl) (by decide +kernel) hv h0 hn)
theorem sz82 : SzF Cl 82 z150 := szF_of s82 (fun v n hv h0 hn => sz_struct (K := look [(122, z148)]) (look_all (List.forall_mem_cons.2 ⟨sz122, (fun _ h => nomatch h)⟩)) (by decide) (by decide) (cov := _) (by rfl) (by decide +kernel) hv h0 hn)
theorem e41 : a41 = szS1 82 z150 := by kernel_rfl
theorem sz41 : SzF Cl 41 z46 := szF_of s41 (fun v n hv h0 hn => by rw [e41]; exact szS1_ok (fun _ => by decide) sz82 hv h0 hn)
theorem sz83 : SzF Cl 83 z155 := szF_of s83 (fun v n hv h0 hn => sz_struct (K := look [(123, z153)]) (look_all (List.forall_mem_cons.2 ⟨sz123, (fun _ h => nomatch h)⟩)) (by decide) (by decide) (cov := _) (by rfl) (by decide +kernel) hv h0 hn)
theorem e42 : a42 = szS1 83 z155 := by kernel_rfl
theorem sz42 : SzF Cl 42 z47 := szF_of s42 (fun v n hv h0 hn => by rw [e42]; exact szS1_ok (fun _ => by decide) sz83 hv h0 hn)
theorem sz43 : SzF Cl 43 z53 := szF_of s43 (fun v n hv h0 hn => sz_struct (K := look [(84, z49), (85, z51)]) (look_all (List.forall_mem_cons.2 ⟨sz84, (List.forall_mem_cons.2 ⟨sz85, (fun _ h => nomatch h)⟩)⟩)) (by decide) (by decide) (cov := _) (by rfl) (by decide +kernel) hv h0 hn)
theorem e44 : a44 = szS1 43 z53 := by kernel_rfl
theorem sz44 : SzF Cl 44 z54 := szF_of s44 (fun v n hv h0 hn => by rw [e44]; exact szS1_ok (fun _ => by decide) sz43 hv h0 hn)
theorem sz124 : SzF Cl 124 z160 := szF_of s124 (fun v n hv h0 hn => sz_struct (K := look []) (look_all (fun _ h => nomatch h)) (by decide) (by decide) (cov := _) (by rfl) (by decide +kernel) hv h0 hn)
theorem sz86 : SzF Cl 86 z162 := szF_of s86 (fun v n hv h0 hn => sz_struct (K := look [(124, z160), (85, z51)]) (look_all (List.forall_mem_cons.2 ⟨sz124, (List.forall_mem_cons.2 ⟨sz85, (fun _ h => nomatch h)⟩)⟩)) (by decide) (by decide) (cov := _) (by rfl) (by decide +kernel) hv h0 hn)
theorem e45 : a45 = szS1 86 z162 := by kernel_rfl
theorem sz45 : SzF Cl 45 z55 := szF_of s45 (fun v n hv h0 hn => by rw [e45]; exact szS1_ok (fun _ => by decide) sz86 hv h0 hn)
theorem e125 : a125 = szS0 := by kernel_rfl
theorem sz125 : SzF Cl 125 z164 := szF_of s125 (fun v n hv h0 hn => by rw [e125]; exact szS0_ok (by decide) hv h0 hn)
theorem e126 : a126 = szS2 := by kernel_rfl
theorem sz126 : SzF Cl 126 z95 := szF_of s126 (fun v n hv h0 hn => by rw [e126]; exact szS2_ok hv h0 hn)
theorem e127 : a127 = szS1 85 z51 := by kernel_rfl
theorem sz127 : SzF Cl 127 z165 := szF_of s127 (fun v n hv h0 hn => by rw [e127]; exact szS1_ok (fun _ => by decide) sz85 hv h0 hn)
theorem sz87 : SzF Cl 87 z167 := szF_of s87 (fun v n hv h0 hn => sz_struct (K := look [(84, z49), (125, z164), (126, z95), (22, z24), (127, z165)]) (look_all (List.forall_mem_cons.2 ⟨sz84, (List.forall_mem_cons.2 ⟨sz125, (List.forall_mem_cons.2 ⟨sz126, (List.forall_mem_cons.2 ⟨sz22, (List.forall_mem_cons.2 ⟨sz127, (fun _ h => nomatch h)⟩)⟩)⟩)⟩)⟩)) (by decide) (by decide) (cov := _) (by rfl) (by decide +kernel) hv h0 hn)
theorem e46 : a46 = szS1 87 z167 := by kernel_rfl
theorem sz46 : SzF Cl 46 z56 := szF_of s46 (fun v n hv h0 hn => by rw [e46]; exact szS1_ok (fun _ => by decide) sz87 hv h0 hn)
theorem sz16 : SzF Cl 16 z58 := szF_of s16 (fun v n hv h0 hn => sz_struct (K := look [(5, z29), (41, z46), (42, z47), (43, z53), (44, z54), (45, z55), (46, z56), (22, z24)]) (look_all (List.forall_mem_cons.2 ⟨sz5, (List.forall_mem_cons.2 ⟨sz41, (List.forall_mem_cons.2 ⟨sz42, (List.forall_mem_cons.2 ⟨sz43, (List.forall_mem_cons.2 ⟨sz44, (List.forall_mem_cons.2 ⟨sz45, (List.forall_mem_cons.2 ⟨sz46, (List.forall_mem_cons.2 ⟨sz22, (fun _ h => nomatch h)⟩)⟩)⟩)⟩)⟩)⟩)⟩)⟩)) (by decide) (by decide) (cov := _) (by rfl) (by decide +kernel) hv h0 hn)
theorem to27 : ToF Cl 27 z23 := fun v hv => s27 (to_struct (K := look []) (look_all (fun _ h => nomatch h)) (by decide) (by decide) (by kernel_rfl) hv)
theorem e29 : a29 = toS0 8 (.ki 0) := by kernel_rfl
theorem to29 : ToF Cl 29 z24 := fun v hv => s29 (by obtain ⟨xs, rfl, h1, h2⟩ := hv; rw [e29]; exact toS0_ok rfl (by decide) h1)
theorem to9 : ToF Cl 9 z26 := fun v hv => s9 (to_struct (K := look [(29, z24)]) (look_all (List.forall_mem_cons.2 ⟨to29, (fun _ h => nomatch h)⟩)) (by decide) (by decide) (by kernel_rfl) hv)
theorem to129 : ToF Cl 129 z153 := fun v hv => s129 (to_struct (K := look []) (look_all (fun _ h => nomatch h)) (by decide) (by decide) (by kernel_rfl) hv)
theorem e150 : a150 = toS1 32 (.tc (.ki 0) (.tc (.kb false) (.tc (.kb false) (.tc (.ks []) .tn)))) 129 z153 := by kernel_rfl
theorem to150 : ToF Cl 150 z114 := fun v hv => s150 (by obtain ⟨xs, rfl, h1, h2⟩ := hv; rw [e150]; exact toS1_ok rfl (by decide) (fun _ => by decide) to129 h1 h2)
theorem to108 : ToF Cl 108 z116 := fun v hv => s108 (to_struct (K := look [(150, z114)]) (look_all (List.forall_mem_cons.2 ⟨to150, (fun _ h => nomatch h)⟩)) (by decide) (by decide) (by kernel_rfl) hv)
theorem to90 : ToF Cl 90 z49 := fun v hv => s90 (to_struct (K := look [(29, z24)]) (look_all (List.forall_mem_cons.2 ⟨to29, (fun _ h => nomatch h)⟩)) (by decide) (by decide) (by kernel_rfl) hv)
theorem to109 : ToF Cl 109 z118 := fun v hv => s109 (to_struct (K := look [(90, z49), (27, z23)]) (look_all (List.forall_mem_cons.2 ⟨to90, (List.forall_mem_cons.2 ⟨to27, (fun _ h => nomatch h)⟩)⟩)) (by decide) (by decide) (by kernel_rfl) hv)
theorem to66 : ToF Cl 66 z120 := fun v hv => s66 (to_struct (K := look [(108, z116), (109, z118)]) (look_all (List.forall_mem_cons.2 ⟨to108, (List.forall_mem_cons.2 ⟨to109, (fun _ h => nomatch h)⟩)⟩)) (by decide) (by decide) (by kernel_rfl) hv)
theorem e28 : a28 = toS1 216 (.tc (.kb false) (.tc (.ki 0) (.tc (.ki 0) (.tc .kl (.tc (.ki 0) (.tc (.ki 0) (.tc (.ki 0) (.tc (.ki 0) (.tc (.ki 0) (.tc (.kb false) (.tc (.kb false) (.tc (.ki 0) (.tc (.ki 0) (.tc .kl (.tc .kl (.tc (.ki 0) (.tc (.kb false) (.tc (.kb false) (.tc (.kb false) (.tc (.ki 0) (.tc (.ki 0) (.tc (.ki 0) (.tc (.kb false) (.tc (.ki 0) .tn)))))))))))))))))))))))) 66 z120 := by kernel_rfl
theorem to28 : ToF Cl 28 z27 := fun v hv => s28 (by obtain ⟨xs, rfl, h1, h2⟩ := hv; rw [e28]; exact toS1_ok rfl (by decide) (fun _ => by decide) to66 h1 h2)
theorem to8 : ToF Cl 8 z29 := fun v hv => s8 (to_struct (K := look [(27, z23), (9, z26), (28, z27)]) (look_all (List.forall_mem_cons.2 ⟨to27, (List.forall_mem_cons.2 ⟨to9, (List.forall_mem_cons.2 ⟨to28, (fun _ h => nomatch h)⟩)⟩)⟩)) (by decide) (by decide) (by kernel_rfl) hv)
theorem to155 : ToF Cl 155 z146 := fun v hv => s155 (to_struct (K := look []) (look_all (fun _ h => nomatch h)) (by decide) (by decide) (by kernel_rfl) hv)
theorem to91 : ToF Cl 91 z51 := fun v hv => s91 (to_struct (K := look []) (look_all (fun _ h => nomatch h)) (by decide) (by decide) (by kernel_rfl) hv)
theorem to128 : ToF Cl 128 z148 := fun v hv => s128 (to_struct (K := look [(90, z49), (27, z23), (155, z146), (91, z51)]) (look_all (List.forall_mem_cons.2 ⟨to90, (List.forall_mem_cons.2 ⟨to27, (List.forall_mem_cons.2 ⟨to155, (List.forall_mem_cons.2 ⟨to91, (fun _ h => nomatch h)⟩)⟩)⟩)⟩)) (by decide) (by decide) (by kernel_rfl) hv)
theorem to88 : ToF Cl 88 z150 := fun v hv => s88 (to_struct (K := look [(128, z148)]) (look_all (List.forall_mem_cons.2 ⟨to128, (fun _ h => nomatch h)⟩)) (by decide) (by decide) (by kernel_rfl) hv)
theorem e47 : a47 = toS1 192 (.tc (.ki 0) (.tc (.ki 0) (.tc .kl (.tc .kl (.tc (.ki 0) (.tc (.kb false) (.tc (.kb false) (.tc (.kb false) (.tc (.ki 0) (.tc (.ki 0) (.tc (.ki 0) (.tc (.ki 0) (.tc (.ki 0) (.tc (.ki 0) (.tc (.ki 0) (.tc (.kb false) (.tc (.ki 0) (.tc (.ki 0) (.tc (.ks []) (.tc (.ki 0) (.tc (.ki 0) .tn))))))))))))))))))))) 88 z150 := by kernel_rfl
theorem to47 : ToF Cl 47 z46 := fun v hv => s47 (by obtain ⟨xs, rfl, h1, h2⟩ := hv; rw [e47]; exact toS1_ok rfl (by decide) (fun _ => by decide) to88 h1 h2)
theorem to89 : ToF Cl 89 z155 := fun v hv => s89 (to_struct (K := look [(129, z153)]) (look_all (List.forall_mem_cons.2 ⟨to129, (fun _ h => nomatch h)⟩)) (by decide) (by decide) (by kernel_rfl) hv)
theorem e48 : a48 = toS1 40 (.tc (.ki 0) (.tc (.ki 0) (.tc (.kb false) (.tc (.kb false) (.tc (.ks []) .tn))))) 89 z155 := by kernel_rfl
theorem to48 : ToF Cl 48 z47 := fun v hv => s48 (by obtain ⟨xs, rfl, h1, h2⟩ := hv; rw [e48]; exact toS1_ok rfl (by decide) (fun _ => by decide) to89 h1 h2)
theorem to49 : ToF Cl 49 z53 := fun v hv => s49 (to_struct (K := look [(90, z49), (27, z23), (91, z51)]) (look_all (List.forall_mem_cons.2 ⟨to90, (List.forall_mem_cons.2 ⟨to27, (List.forall_mem_cons.2 ⟨to91, (fun _ h => nomatch h)⟩)⟩)⟩)) (by decide) (by decide) (by kernel_rfl) hv)
theorem e50 : a50 = toS1 168 (.tc (.kb false) (.tc (.kb false) (.tc (.kb false) (.tc (.ki 0) (.tc (.ki 0) (.tc .kl (.tc .kl (.tc (.ki 0) (.tc (.kb false) (.tc (.kb false) (.tc (.kb false) (.tc (.ki 0) (.tc (.ki 0) (.tc (.ki 0) (.tc (.ki 0) (.tc (.ks []) (.tc (.ki 0) (.tc (.ki 0) (.tc (.ks []) .tn))))))))))))))))))) 49 z53 := by kernel_rfl
theorem to50 : ToF Cl 50 z54 := fun v hv => s50 (by obtain ⟨xs, rfl, h1, h2⟩ := hv; rw [e50]; exact toS1_ok rfl (by decide) (fun _ => by decide) to49 h1 h2)
theorem to130 : ToF Cl 130 z160 := fun v hv => s130 (to_struct (K := look []) (look_all (fun _ h => nomatch h)) (by decide) (by decide) (by kernel_rfl) hv)
theorem to92 : ToF Cl 92 z162 := fun v hv => s92 (to_struct (K := look [(130, z160), (91, z51)]) (look_all (List.forall_mem_cons.2 ⟨to130, (List.forall_mem_cons.2 ⟨to91, (fun _ h => nomatch h)⟩)⟩)) (by decide) (by decide) (by kernel_rfl) hv)
theorem e51 : a51 = toS1 80 (.tc (.ki 0) (.tc (.ki 0) (.tc (.kb false) (.tc (.ki 0) (.tc (.ks []) (.tc (.ki 0) (.tc (.ki 0) (.tc (.ks []) .tn)))))))) 92 z162 := by kernel_rfl
theorem to51 : ToF Cl 51 z55 := fun v hv => s51 (by obtain ⟨xs, rfl, h1, h2⟩ := hv; rw [e51]; exact toS1_ok rfl (by decide) (fun _ => by decide) to92 h1 h2)
theorem to156 : ToF Cl 156 z236 := fun v hv => s156 (to_struct (K := look []) (look_all (fun _ h => nomatch h)) (by decide) (by decide) (by kernel_rfl) hv)
theorem e131 : a131 = toS1 24 (.tc (.ki 0) (.tc (.ki 0) (.tc (.ki 0) .tn))) 156 z236 := by kernel_rfl
theorem to131 : ToF Cl 131 z164 := fun v hv => s131 (by obtain ⟨xs, rfl, h1, h2⟩ := hv; rw [e131]; exact toS1_ok rfl (by decide) (fun _ => by decide) to156 h1 h2)
theorem e132 : a132 = toS0 16 (.ks []) := by kernel_rfl
theorem to132 : ToF Cl 132 z95 := fun v hv => s132 (by obtain ⟨xs, rfl, h1, h2⟩ := hv; rw [e132]; exact toS0_ok rfl (by decide) h1)
theorem e133 : a133 = toS1 32 (.tc (.ki 0) (.tc (.ki 0) (.tc (.ks []) .tn))) 91 z51 := by kernel_rfl
theorem to133 : ToF Cl 133 z165 := fun v hv => s133 (by obtain ⟨xs, rfl, h1, h2⟩ := hv; rw [e133]; exact toS1_ok rfl (by decide) (fun _ => by decide) to91 h1 h2)
theorem to93 : ToF Cl 93 z167 := fun v hv => s93 (to_struct (K := look [(90, z49), (131, z164), (132, z95), (29, z24), (133, z165)]) (look_all (List.forall_mem_cons.2 ⟨to90, (List.forall_mem_cons.2 ⟨to131, (List.forall_mem_cons.2 ⟨to132, (List.forall_mem_cons.2 ⟨to29, (List.forall_mem_cons.2 ⟨to133, (fun _ h => nomatch h)⟩)⟩)⟩)⟩)⟩)) (by decide) (by decide) (by kernel_rfl) hv)
theorem e52 : a52 = toS1 160 (.tc (.ki 0) (.tc (.ki 0) (.tc .kl (.tc .kl (.tc .kl (.tc .kl (.tc .kl (.tc .kl .tn)))))))) 93 z167 := by kernel_rfl
theorem to52 : ToF Cl 52 z56 := fun v hv => s52 (by obtain ⟨xs, rfl, h1, h2⟩ := hv; rw [e52]; exact toS1_ok rfl (by decide) (fun _ => by decide) to93 h1 h2)
theorem to18 : ToF Cl 18 z58 := fun v hv => s18 (to_struct (K := look [(8, z29), (47, z46), (48, z47), (49, z53), (50, z54), (51, z55), (52, z56), (29, z24)]) (look_all (List.forall_mem_cons.2 ⟨to8, (List.forall_mem_cons.2 ⟨to47, (List.forall_mem_cons.2 ⟨to48, (List.forall_mem_cons.2 ⟨to49, (List.forall_mem_cons.2 ⟨to50, (List.forall_mem_cons.2 ⟨to51, (List.forall_mem_cons.2 ⟨to52, (List.forall_mem_cons.2 ⟨to29, (fun _ h => nomatch h)⟩)⟩)⟩)⟩)⟩)⟩)⟩)⟩)) (by decide) (by decide) (by kernel_rfl) hv)
theorem eq34 : EqF Cl 34 z32 := fun v hv => s34 (eq_struct (K := look []) (look_all (fun _ h => nomatch h)) (by decide) (by decide) (by kernel_rfl) hv)
theorem e36 : a36 = eqS0 .ne := by kernel_rfl
theorem eq36 : EqF Cl 36 z24 := fun v hv => s36 (by obtain ⟨xs, rfl, h1, h2⟩ := hv; rw [e36]; exact eqS0_ok h1 (fun x hx => by obtain ⟨n, rfl, _⟩ := h2 x hx; simp [Pm.ev]))
theorem eq12 : EqF Cl 12 z33 := fun v hv => s12 (eq_struct (K := look [(36, z24)]) (look_all (List.forall_mem_cons.2 ⟨eq36, (fun _ h => nomatch h)⟩)) (by decide) (by decide) (by kernel_rfl) hv)
theorem eq135 : EqF Cl 135 z174 := fun v hv => s135 (eq_struct (K := look []) (look_all (fun _ h => nomatch h)) (by decide) (by decide) (by kernel_rfl) hv)
theorem e154 : a154 = eqS1 135 z174 := by kernel_rfl
theorem eq154 : EqF Cl 154 z121 := fun v hv => s154 (by obtain ⟨xs, rfl, h1, h2⟩ := hv; rw [e154]; exact eqS1_ok (fun _ => by decide) eq135 h1 h2)
theorem eq119 : EqF Cl 119 z123 := fun v hv => s119 (eq_struct (K := look [(154, z121)]) (look_all (List.forall_mem_cons.2 ⟨eq154, (fun _ h => nomatch h)⟩)) (by decide) (by decide) (by kernel_rfl) hv)
theorem eq96 : EqF Cl 96 z63 := fun v hv => s96 (eq_struct (K := look [(36, z24)]) (look_all (List.forall_mem_cons.2 ⟨eq36, (fun _ h => nomatch h)⟩)) (by decide) (by decide) (by kernel_rfl) hv)
theorem eq120 : EqF Cl 120 z125 := fun v hv => s120 (eq_struct (K := look [(96, z63), (34, z32)]) (look_all (List.forall_mem_cons.2 ⟨eq96, (List.forall_mem_cons.2 ⟨eq34, (fun _ h => nomatch h)⟩)⟩)) (by decide) (by decide) (by kernel_rfl) hv)
theorem eq78 : EqF Cl 78 z127 := fun v hv => s78 (eq_struct (K := look [(119, z123), (120, z125)]) (look_all (List.forall_mem_cons.2 ⟨eq119, (List.forall_mem_cons.2 ⟨eq120, (fun _ h => nomatch h)⟩)⟩)) (by decide) (by decide) (by kernel_rfl) hv)
theorem e35 : a35 = eqS1 78 z127 := by kernel_rfl
theorem eq35 : EqF Cl 35 z34 := fun v hv => s35 (by obtain ⟨xs, rfl, h1, h2⟩ := hv; rw [e35]; exact eqS1_ok (fun _ => by decide) eq78 h1 h2)
theorem eq11 : EqF Cl 11 z36 := fun v hv => s11 (eq_struct (K := look [(34, z32), (12, z33), (35, z34)]) (look_all (List.forall_mem_cons.2 ⟨eq34, (List.forall_mem_cons.2 ⟨eq12, (List.forall_mem_cons.2 ⟨eq35, (fun _ h => nomatch h)⟩)⟩)⟩)) (by decide) (by decide) (by kernel_rfl) hv)
theorem eq157 : EqF Cl 157 z168 := fun v hv => s157 (eq_struct (K := look []) (look_all (fun _ h => nomatch h)) (by decide) (by decide) (by kernel_rfl) hv)
theorem eq97 : EqF Cl 97 z64 := fun v hv => s97 (eq_struct (K := look []) (look_all (fun _ h => nomatch h)) (by decide) (by decide) (by kernel_rfl) hv)
theorem eq134 : EqF Cl 134 z170 := fun v hv => s134 (eq_struct (K := look [(96, z63), (34, z32), (157, z168), (97, z64)]) (look_all (List.forall_mem_cons.2 ⟨eq96, (List.forall_mem_cons.2 ⟨eq34, (List.forall_mem_cons.2 ⟨eq157, (List.forall_mem_cons.2 ⟨eq97, (fun _ h => nomatch h)⟩)⟩)⟩)⟩)) (by decide) (by decide) (by kernel_rfl) hv)
theorem eq94 : EqF Cl 94 z172 := fun v hv => s94 (eq_struct (K := look [(134, z170)]) (look_all (List.forall_mem_cons.2 ⟨eq134, (fun _ h => nomatch h)⟩)) (by decide) (by decide) (by kernel_rfl) hv)
theorem e53 : a53 = eqS1 94 z172 := by kernel_rfl
theorem eq53 : EqF Cl 53 z61 := fun v hv => s53 (by obtain ⟨xs, rfl, h1, h2⟩ := hv; rw [e53]; exact eqS1_ok (fun _ => by decide) eq94 h1 h2)
theorem eq95 : EqF Cl 95 z176 := fun v hv => s95 (eq_struct (K := look [(135, z174)]) (look_all (List.forall_mem_cons.2 ⟨eq135, (fun _ h => nomatch h)⟩)) (by decide) (by decide) (by kernel_rfl) hv)
theorem e54 : a54 = eqS1 95 z176 := by kernel_rfl
theorem eq54 : EqF Cl 54 z62 := fun v hv => s54 (by obtain ⟨xs, rfl, h1, h2⟩ := hv; rw [e54]; exact eqS1_ok (fun _ => by decide) eq95 h1 h2)
theorem eq55 : EqF Cl 55 z66 := fun v hv => s55 (eq_struct (K := look [(96, z63), (34, z32), (97, z64)]) (look_all (List.forall_mem_cons.2 ⟨eq96, (List.forall_mem_cons.2 ⟨eq34, (List.forall_mem_cons.2 ⟨eq97, (fun _ h => nomatch h)⟩)⟩)⟩)) (by decide) (by decide) (by kernel_rfl) hv)
theorem e56 : a56 = eqS1 55 z66 := by kernel_rfl
theorem eq56 : EqF Cl 56 z67 := fun v hv => s56 (by obtain ⟨xs, rfl, h1, h2⟩ := hv; rw [e56]; exact eqS1_ok (fun _ => by decide) eq55 h1 h2)
theorem eq136 : EqF Cl 136 z180 := fun v hv => s136 (eq_struct (K := look []) (look_all (fun _ h => nomatch h)) (by decide) (by decide) (by kernel_rfl) hv)
theorem eq98 : EqF Cl 98 z182 := fun v hv => s98 (eq_struct (K := look [(136, z180), (97, z64)]) (look_all (List.forall_mem_cons.2 ⟨eq136, (List.forall_mem_cons.2 ⟨eq97, (fun _ h => nomatch h)⟩)⟩)) (by decide) (by decide) (by kernel_rfl) hv)
theorem e57 : a57 = eqS1 98 z182 := by kernel_rfl
theorem eq57 : EqF Cl 57 z68 := fun v hv => s57 (by obtain ⟨xs, rfl, h1, h2⟩ := hv; rw [e57]; exact eqS1_ok (fun _ => by decide) eq98 h1 h2)
theorem eq158 : EqF Cl 158 z100 := fun v hv => s158 (eq_struct (K := look []) (look_all (fun _ h => nomatch h)) (by decide) (by decide) (by kernel_rfl) hv)
theorem e137 : a137 = eqS1 158 z100 := by kernel_rfl
theorem eq137 : EqF Cl 137 z94 := fun v hv => s137 (by obtain ⟨xs, rfl, h1, h2⟩ := hv; rw [e137]; exact eqS1_ok (fun _ => by decide) eq158 h1 h2)
theorem e138 : a138 = eqS0 .sne := by kernel_rfl
theorem eq138 : EqF Cl 138 z95 := fun v hv => s138 (by obtain ⟨xs, rfl, h1, h2⟩ := hv; rw [e138]; exact eqS0_ok h1 (fun x hx => by obtain ⟨n, rfl, _⟩ := h2 x hx; simp [Pm.ev]))
theorem e139 : a139 = eqS1 97 z64 := by kernel_rfl
theorem eq139 : EqF Cl 139 z96 := fun v hv => s139 (by obtain ⟨xs, rfl, h1, h2⟩ := hv; rw [e139]; exact eqS1_ok (fun _ => by decide) eq97 h1 h2)
theorem eq99 : EqF Cl 99 z98 := fun v hv => s99 (eq_struct (K := look [(96, z63), (137, z94), (138, z95), (36, z24), (139, z96)]) (look_all (List.forall_mem_cons.2 ⟨eq96, (List.forall_mem_cons.2 ⟨eq137, (List.forall_mem_cons.2 ⟨eq138, (List.forall_mem_cons.2 ⟨eq36, (List.forall_mem_cons.2 ⟨eq139, (fun _ h => nomatch h)⟩)⟩)⟩)⟩)⟩)) (by decide) (by decide) (by kernel_rfl) hv)
theorem e58 : a58 = eqS1 99 z98 := by kernel_rfl
theorem eq58 : EqF Cl 58 z69 := fun v hv => s58 (by obtain ⟨xs, rfl, h1, h2⟩ := hv; rw [e58]; exact eqS1_ok (fun _ => by decide) eq99 h1 h2)
theorem eq20 : EqF Cl 20 z71 := fun v hv => s20 (eq_struct (K := look [(11, z36), (53, z61), (54, z62), (55, z66), (56, z67), (57, z68), (58, z69), (36, z24)]) (look_all (List.forall_mem_cons.2 ⟨eq11, (List.forall_mem_cons.2 ⟨eq53, (List.forall_mem_cons.2 ⟨eq54, (List.forall_mem_cons.2 ⟨eq55, (List.forall_mem_cons.2 ⟨eq56, (List.forall_mem_cons.2 ⟨eq57, (List.forall_mem_cons.2 ⟨eq58, (List.forall_mem_cons.2 ⟨eq36, (fun _ h => nomatch h)⟩)⟩)⟩)⟩)⟩)⟩)⟩)⟩)) (by decide) (by decide) (by kernel_rfl) hv)
end Go.Proofs.Ytbgmehmigckhdaa.Fw
