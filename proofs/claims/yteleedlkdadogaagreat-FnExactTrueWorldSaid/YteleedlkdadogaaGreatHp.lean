/- What the law's own functions that count, copy and compare do. -/
import Derived.Test.YteleedlkdadogaaGreatFn
namespace Go.Proofs.YteleedlkdadogaaGreat.Fw
open Go.RowKit
set_option maxRecDepth 100000
theorem e97 : a97 = szS0 := by kernel_rfl
theorem sz97 : SzF Cl 97 z24 := szF_of s97 (fun v n hv h0 hn => by rw [e97]; exact szS0_ok (by decide) hv h0 hn)
theorem sz114 : SzF Cl 114 z55 := szF_of s114 (fun v n hv h0 hn => sz_struct (K := look [(97, z24)]) (look_all (List.forall_mem_cons.2 ⟨sz97, (fun _ h => nomatch h)⟩)) (by decide) (by decide) (cov := _) (by rfl) (by decide +kernel) hv h0 hn)
theorem sz29 : SzF Cl 29 z88 := szF_of s29 (fun v n hv h0 hn => sz_struct (K := look []) (look_all (fun _ h => nomatch h)) (by decide) (by decide) (cov := _) (by rfl) (by decide +kernel) hv h0 hn)
theorem e411 : a411 = szS1 29 z88 := by kernel_rfl
theorem sz411 : SzF Cl 411 z347 := szF_of s411 (fun v n hv h0 hn => by rw [e411]; exact szS1_ok (fun _ => by decide) sz29 hv h0 hn)
theorem sz362 : SzF Cl 362 z349 := szF_of s362 (fun v n hv h0 hn => sz_struct (K := look [(411, z347)]) (look_all (List.forall_mem_cons.2 ⟨sz411, (fun _ h => nomatch h)⟩)) (by decide) (by decide) (cov := _) (by rfl) (by decide +kernel) hv h0 hn)
theorem sz240 : SzF Cl 240 z61 := szF_of s240 (fun v n hv h0 hn => sz_struct (K := look [(97, z24)]) (look_all (List.forall_mem_cons.2 ⟨sz97, (fun _ h => nomatch h)⟩)) (by decide) (by decide) (cov := _) (by rfl) (by decide +kernel) hv h0 hn)
theorem sz363 : SzF Cl 363 z351 := szF_of s363 (fun v n hv h0 hn => sz_struct (K := look [(240, z61)]) (look_all (List.forall_mem_cons.2 ⟨sz240, (fun _ h => nomatch h)⟩)) (by decide) (by decide) (cov := _) (by rfl) (by decide +kernel) hv h0 hn)
theorem sz256 : SzF Cl 256 z353 := szF_of s256 (fun v n hv h0 hn => sz_struct (K := look [(362, z349), (363, z351)]) (look_all (List.forall_mem_cons.2 ⟨sz362, (List.forall_mem_cons.2 ⟨sz363, (fun _ h => nomatch h)⟩)⟩)) (by decide) (by decide) (cov := _) (by rfl) (by decide +kernel) hv h0 hn)
theorem e115 : a115 = szS1 256 z353 := by kernel_rfl
theorem sz115 : SzF Cl 115 z56 := szF_of s115 (fun v n hv h0 hn => by rw [e115]; exact szS1_ok (fun _ => by decide) sz256 hv h0 hn)
theorem sz28 : SzF Cl 28 z58 := szF_of s28 (fun v n hv h0 hn => sz_struct (K := look [(114, z55), (115, z56)]) (look_all (List.forall_mem_cons.2 ⟨sz114, (List.forall_mem_cons.2 ⟨sz115, (fun _ h => nomatch h)⟩)⟩)) (by decide) (by decide) (cov := _) (by rfl) (by decide +kernel) hv h0 hn)
theorem sz241 : SzF Cl 241 z62 := szF_of s241 (fun v n hv h0 hn => sz_struct (K := look []) (look_all (fun _ h => nomatch h)) (by decide) (by decide) (cov := _) (by rfl) (by decide +kernel) hv h0 hn)
theorem sz348 : SzF Cl 348 z316 := szF_of s348 (fun v n hv h0 hn => sz_struct (K := look [(240, z61), (241, z62)]) (look_all (List.forall_mem_cons.2 ⟨sz240, (List.forall_mem_cons.2 ⟨sz241, (fun _ h => nomatch h)⟩)⟩)) (by decide) (by decide) (cov := _) (by rfl) (by decide +kernel) hv h0 hn)
theorem sz238 : SzF Cl 238 z318 := szF_of s238 (fun v n hv h0 hn => sz_struct (K := look [(348, z316)]) (look_all (List.forall_mem_cons.2 ⟨sz348, (fun _ h => nomatch h)⟩)) (by decide) (by decide) (cov := _) (by rfl) (by decide +kernel) hv h0 hn)
theorem e91 : a91 = szS1 238 z318 := by kernel_rfl
theorem sz91 : SzF Cl 91 z59 := szF_of s91 (fun v n hv h0 hn => by rw [e91]; exact szS1_ok (fun _ => by decide) sz238 hv h0 hn)
theorem sz239 : SzF Cl 239 z321 := szF_of s239 (fun v n hv h0 hn => sz_struct (K := look [(29, z88)]) (look_all (List.forall_mem_cons.2 ⟨sz29, (fun _ h => nomatch h)⟩)) (by decide) (by decide) (cov := _) (by rfl) (by decide +kernel) hv h0 hn)
theorem e92 : a92 = szS1 239 z321 := by kernel_rfl
theorem sz92 : SzF Cl 92 z60 := szF_of s92 (fun v n hv h0 hn => by rw [e92]; exact szS1_ok (fun _ => by decide) sz239 hv h0 hn)
theorem sz93 : SzF Cl 93 z64 := szF_of s93 (fun v n hv h0 hn => sz_struct (K := look [(240, z61), (241, z62)]) (look_all (List.forall_mem_cons.2 ⟨sz240, (List.forall_mem_cons.2 ⟨sz241, (fun _ h => nomatch h)⟩)⟩)) (by decide) (by decide) (cov := _) (by rfl) (by decide +kernel) hv h0 hn)
theorem e94 : a94 = szS1 93 z64 := by kernel_rfl
theorem sz94 : SzF Cl 94 z65 := szF_of s94 (fun v n hv h0 hn => by rw [e94]; exact szS1_ok (fun _ => by decide) sz93 hv h0 hn)
theorem sz349 : SzF Cl 349 z325 := szF_of s349 (fun v n hv h0 hn => sz_struct (K := look []) (look_all (fun _ h => nomatch h)) (by decide) (by decide) (cov := _) (by rfl) (by decide +kernel) hv h0 hn)
theorem sz242 : SzF Cl 242 z327 := szF_of s242 (fun v n hv h0 hn => sz_struct (K := look [(349, z325), (241, z62)]) (look_all (List.forall_mem_cons.2 ⟨sz349, (List.forall_mem_cons.2 ⟨sz241, (fun _ h => nomatch h)⟩)⟩)) (by decide) (by decide) (cov := _) (by rfl) (by decide +kernel) hv h0 hn)
theorem e95 : a95 = szS1 242 z327 := by kernel_rfl
theorem sz95 : SzF Cl 95 z66 := szF_of s95 (fun v n hv h0 hn => by rw [e95]; exact szS1_ok (fun _ => by decide) sz242 hv h0 hn)
theorem e350 : a350 = szS0 := by kernel_rfl
theorem sz350 : SzF Cl 350 z329 := szF_of s350 (fun v n hv h0 hn => by rw [e350]; exact szS0_ok (by decide) hv h0 hn)
theorem e351 : a351 = szS2 := by kernel_rfl
theorem sz351 : SzF Cl 351 z32 := szF_of s351 (fun v n hv h0 hn => by rw [e351]; exact szS2_ok hv h0 hn)
theorem e352 : a352 = szS1 241 z62 := by kernel_rfl
theorem sz352 : SzF Cl 352 z330 := szF_of s352 (fun v n hv h0 hn => by rw [e352]; exact szS1_ok (fun _ => by decide) sz241 hv h0 hn)
theorem sz243 : SzF Cl 243 z332 := szF_of s243 (fun v n hv h0 hn => sz_struct (K := look [(240, z61), (350, z329), (351, z32), (97, z24), (352, z330)]) (look_all (List.forall_mem_cons.2 ⟨sz240, (List.forall_mem_cons.2 ⟨sz350, (List.forall_mem_cons.2 ⟨sz351, (List.forall_mem_cons.2 ⟨sz97, (List.forall_mem_cons.2 ⟨sz352, (fun _ h => nomatch h)⟩)⟩)⟩)⟩)⟩)) (by decide) (by decide) (cov := _) (by rfl) (by decide +kernel) hv h0 hn)
theorem e96 : a96 = szS1 243 z332 := by kernel_rfl
theorem sz96 : SzF Cl 96 z67 := szF_of s96 (fun v n hv h0 hn => by rw [e96]; exact szS1_ok (fun _ => by decide) sz243 hv h0 hn)
theorem sz22 : SzF Cl 22 z69 := szF_of s22 (fun v n hv h0 hn => sz_struct (K := look [(28, z58), (91, z59), (92, z60), (93, z64), (94, z65), (95, z66), (96, z67), (97, z24)]) (look_all (List.forall_mem_cons.2 ⟨sz28, (List.forall_mem_cons.2 ⟨sz91, (List.forall_mem_cons.2 ⟨sz92, (List.forall_mem_cons.2 ⟨sz93, (List.forall_mem_cons.2 ⟨sz94, (List.forall_mem_cons.2 ⟨sz95, (List.forall_mem_cons.2 ⟨sz96, (List.forall_mem_cons.2 ⟨sz97, (fun _ h => nomatch h)⟩)⟩)⟩)⟩)⟩)⟩)⟩)⟩)) (by decide) (by decide) (cov := _) (by rfl) (by decide +kernel) hv h0 hn)
theorem to120 : ToF Cl 120 z53 := fun v hv => s120 (to_struct (K := look []) (look_all (fun _ h => nomatch h)) (by decide) (by decide) (by kernel_rfl) hv)
theorem e106 : a106 = toS0 8 (.ki 0) := by kernel_rfl
theorem to106 : ToF Cl 106 z24 := fun v hv => s106 (by obtain ⟨xs, rfl, h1, h2⟩ := hv; rw [e106]; exact toS0_ok rfl (by decide) h1)
theorem to121 : ToF Cl 121 z55 := fun v hv => s121 (to_struct (K := look [(106, z24)]) (look_all (List.forall_mem_cons.2 ⟨to106, (fun _ h => nomatch h)⟩)) (by decide) (by decide) (by kernel_rfl) hv)
theorem to32 : ToF Cl 32 z88 := fun v hv => s32 (to_struct (K := look []) (look_all (fun _ h => nomatch h)) (by decide) (by decide) (by kernel_rfl) hv)
theorem e412 : a412 = toS1 32 (.tc (.ki 0) (.tc (.kb false) (.tc (.kb false) (.tc (.ks []) .tn)))) 32 z88 := by kernel_rfl
theorem to412 : ToF Cl 412 z347 := fun v hv => s412 (by obtain ⟨xs, rfl, h1, h2⟩ := hv; rw [e412]; exact toS1_ok rfl (by decide) (fun _ => by decide) to32 h1 h2)
theorem to367 : ToF Cl 367 z349 := fun v hv => s367 (to_struct (K := look [(412, z347)]) (look_all (List.forall_mem_cons.2 ⟨to412, (fun _ h => nomatch h)⟩)) (by decide) (by decide) (by kernel_rfl) hv)
theorem to248 : ToF Cl 248 z61 := fun v hv => s248 (to_struct (K := look [(106, z24)]) (look_all (List.forall_mem_cons.2 ⟨to106, (fun _ h => nomatch h)⟩)) (by decide) (by decide) (by kernel_rfl) hv)
theorem to368 : ToF Cl 368 z351 := fun v hv => s368 (to_struct (K := look [(248, z61), (120, z53)]) (look_all (List.forall_mem_cons.2 ⟨to248, (List.forall_mem_cons.2 ⟨to120, (fun _ h => nomatch h)⟩)⟩)) (by decide) (by decide) (by kernel_rfl) hv)
theorem to269 : ToF Cl 269 z353 := fun v hv => s269 (to_struct (K := look [(367, z349), (368, z351)]) (look_all (List.forall_mem_cons.2 ⟨to367, (List.forall_mem_cons.2 ⟨to368, (fun _ h => nomatch h)⟩)⟩)) (by decide) (by decide) (by kernel_rfl) hv)
theorem e122 : a122 = toS1 216 (.tc (.kb false) (.tc (.ki 0) (.tc (.ki 0) (.tc .kl (.tc (.ki 0) (.tc (.ki 0) (.tc (.ki 0) (.tc (.ki 0) (.tc (.ki 0) (.tc (.kb false) (.tc (.kb false) (.tc (.ki 0) (.tc (.ki 0) (.tc .kl (.tc .kl (.tc (.ki 0) (.tc (.kb false) (.tc (.kb false) (.tc (.kb false) (.tc (.ki 0) (.tc (.ki 0) (.tc (.ki 0) (.tc (.kb false) (.tc (.ki 0) .tn)))))))))))))))))))))))) 269 z353 := by kernel_rfl
theorem to122 : ToF Cl 122 z56 := fun v hv => s122 (by obtain ⟨xs, rfl, h1, h2⟩ := hv; rw [e122]; exact toS1_ok rfl (by decide) (fun _ => by decide) to269 h1 h2)
theorem to31 : ToF Cl 31 z58 := fun v hv => s31 (to_struct (K := look [(120, z53), (121, z55), (122, z56)]) (look_all (List.forall_mem_cons.2 ⟨to120, (List.forall_mem_cons.2 ⟨to121, (List.forall_mem_cons.2 ⟨to122, (fun _ h => nomatch h)⟩)⟩)⟩)) (by decide) (by decide) (by kernel_rfl) hv)
theorem to408 : ToF Cl 408 z314 := fun v hv => s408 (to_struct (K := look []) (look_all (fun _ h => nomatch h)) (by decide) (by decide) (by kernel_rfl) hv)
theorem to249 : ToF Cl 249 z62 := fun v hv => s249 (to_struct (K := look []) (look_all (fun _ h => nomatch h)) (by decide) (by decide) (by kernel_rfl) hv)
theorem to353 : ToF Cl 353 z316 := fun v hv => s353 (to_struct (K := look [(248, z61), (120, z53), (408, z314), (249, z62)]) (look_all (List.forall_mem_cons.2 ⟨to248, (List.forall_mem_cons.2 ⟨to120, (List.forall_mem_cons.2 ⟨to408, (List.forall_mem_cons.2 ⟨to249, (fun _ h => nomatch h)⟩)⟩)⟩)⟩)) (by decide) (by decide) (by kernel_rfl) hv)
theorem to246 : ToF Cl 246 z318 := fun v hv => s246 (to_struct (K := look [(353, z316)]) (look_all (List.forall_mem_cons.2 ⟨to353, (fun _ h => nomatch h)⟩)) (by decide) (by decide) (by kernel_rfl) hv)
theorem e100 : a100 = toS1 192 (.tc (.ki 0) (.tc (.ki 0) (.tc .kl (.tc .kl (.tc (.ki 0) (.tc (.kb false) (.tc (.kb false) (.tc (.kb false) (.tc (.ki 0) (.tc (.ki 0) (.tc (.ki 0) (.tc (.ki 0) (.tc (.ki 0) (.tc (.ki 0) (.tc (.ki 0) (.tc (.kb false) (.tc (.ki 0) (.tc (.ki 0) (.tc (.ks []) (.tc (.ki 0) (.tc (.ki 0) .tn))))))))))))))))))))) 246 z318 := by kernel_rfl
theorem to100 : ToF Cl 100 z59 := fun v hv => s100 (by obtain ⟨xs, rfl, h1, h2⟩ := hv; rw [e100]; exact toS1_ok rfl (by decide) (fun _ => by decide) to246 h1 h2)
theorem to247 : ToF Cl 247 z321 := fun v hv => s247 (to_struct (K := look [(32, z88)]) (look_all (List.forall_mem_cons.2 ⟨to32, (fun _ h => nomatch h)⟩)) (by decide) (by decide) (by kernel_rfl) hv)
theorem e101 : a101 = toS1 40 (.tc (.ki 0) (.tc (.ki 0) (.tc (.kb false) (.tc (.kb false) (.tc (.ks []) .tn))))) 247 z321 := by kernel_rfl
theorem to101 : ToF Cl 101 z60 := fun v hv => s101 (by obtain ⟨xs, rfl, h1, h2⟩ := hv; rw [e101]; exact toS1_ok rfl (by decide) (fun _ => by decide) to247 h1 h2)
theorem to102 : ToF Cl 102 z64 := fun v hv => s102 (to_struct (K := look [(248, z61), (120, z53), (249, z62)]) (look_all (List.forall_mem_cons.2 ⟨to248, (List.forall_mem_cons.2 ⟨to120, (List.forall_mem_cons.2 ⟨to249, (fun _ h => nomatch h)⟩)⟩)⟩)) (by decide) (by decide) (by kernel_rfl) hv)
theorem e103 : a103 = toS1 168 (.tc (.kb false) (.tc (.kb false) (.tc (.kb false) (.tc (.ki 0) (.tc (.ki 0) (.tc .kl (.tc .kl (.tc (.ki 0) (.tc (.kb false) (.tc (.kb false) (.tc (.kb false) (.tc (.ki 0) (.tc (.ki 0) (.tc (.ki 0) (.tc (.ki 0) (.tc (.ks []) (.tc (.ki 0) (.tc (.ki 0) (.tc (.ks []) .tn))))))))))))))))))) 102 z64 := by kernel_rfl
theorem to103 : ToF Cl 103 z65 := fun v hv => s103 (by obtain ⟨xs, rfl, h1, h2⟩ := hv; rw [e103]; exact toS1_ok rfl (by decide) (fun _ => by decide) to102 h1 h2)
theorem to354 : ToF Cl 354 z325 := fun v hv => s354 (to_struct (K := look []) (look_all (fun _ h => nomatch h)) (by decide) (by decide) (by kernel_rfl) hv)
theorem to250 : ToF Cl 250 z327 := fun v hv => s250 (to_struct (K := look [(354, z325), (249, z62)]) (look_all (List.forall_mem_cons.2 ⟨to354, (List.forall_mem_cons.2 ⟨to249, (fun _ h => nomatch h)⟩)⟩)) (by decide) (by decide) (by kernel_rfl) hv)
theorem e104 : a104 = toS1 80 (.tc (.ki 0) (.tc (.ki 0) (.tc (.kb false) (.tc (.ki 0) (.tc (.ks []) (.tc (.ki 0) (.tc (.ki 0) (.tc (.ks []) .tn)))))))) 250 z327 := by kernel_rfl
theorem to104 : ToF Cl 104 z66 := fun v hv => s104 (by obtain ⟨xs, rfl, h1, h2⟩ := hv; rw [e104]; exact toS1_ok rfl (by decide) (fun _ => by decide) to250 h1 h2)
theorem to409 : ToF Cl 409 z453 := fun v hv => s409 (to_struct (K := look []) (look_all (fun _ h => nomatch h)) (by decide) (by decide) (by kernel_rfl) hv)
theorem e355 : a355 = toS1 24 (.tc (.ki 0) (.tc (.ki 0) (.tc (.ki 0) .tn))) 409 z453 := by kernel_rfl
theorem to355 : ToF Cl 355 z329 := fun v hv => s355 (by obtain ⟨xs, rfl, h1, h2⟩ := hv; rw [e355]; exact toS1_ok rfl (by decide) (fun _ => by decide) to409 h1 h2)
theorem e356 : a356 = toS0 16 (.ks []) := by kernel_rfl
theorem to356 : ToF Cl 356 z32 := fun v hv => s356 (by obtain ⟨xs, rfl, h1, h2⟩ := hv; rw [e356]; exact toS0_ok rfl (by decide) h1)
theorem e357 : a357 = toS1 32 (.tc (.ki 0) (.tc (.ki 0) (.tc (.ks []) .tn))) 249 z62 := by kernel_rfl
theorem to357 : ToF Cl 357 z330 := fun v hv => s357 (by obtain ⟨xs, rfl, h1, h2⟩ := hv; rw [e357]; exact toS1_ok rfl (by decide) (fun _ => by decide) to249 h1 h2)
theorem to251 : ToF Cl 251 z332 := fun v hv => s251 (to_struct (K := look [(248, z61), (355, z329), (356, z32), (106, z24), (357, z330)]) (look_all (List.forall_mem_cons.2 ⟨to248, (List.forall_mem_cons.2 ⟨to355, (List.forall_mem_cons.2 ⟨to356, (List.forall_mem_cons.2 ⟨to106, (List.forall_mem_cons.2 ⟨to357, (fun _ h => nomatch h)⟩)⟩)⟩)⟩)⟩)) (by decide) (by decide) (by kernel_rfl) hv)
theorem e105 : a105 = toS1 160 (.tc (.ki 0) (.tc (.ki 0) (.tc .kl (.tc .kl (.tc .kl (.tc .kl (.tc .kl (.tc .kl .tn)))))))) 251 z332 := by kernel_rfl
theorem to105 : ToF Cl 105 z67 := fun v hv => s105 (by obtain ⟨xs, rfl, h1, h2⟩ := hv; rw [e105]; exact toS1_ok rfl (by decide) (fun _ => by decide) to251 h1 h2)
theorem to24 : ToF Cl 24 z69 := fun v hv => s24 (to_struct (K := look [(31, z58), (100, z59), (101, z60), (102, z64), (103, z65), (104, z66), (105, z67), (106, z24)]) (look_all (List.forall_mem_cons.2 ⟨to31, (List.forall_mem_cons.2 ⟨to100, (List.forall_mem_cons.2 ⟨to101, (List.forall_mem_cons.2 ⟨to102, (List.forall_mem_cons.2 ⟨to103, (List.forall_mem_cons.2 ⟨to104, (List.forall_mem_cons.2 ⟨to105, (List.forall_mem_cons.2 ⟨to106, (fun _ h => nomatch h)⟩)⟩)⟩)⟩)⟩)⟩)⟩)⟩)) (by decide) (by decide) (by kernel_rfl) hv)
theorem eq26 : EqF Cl 26 z37 := fun v hv => s26 (eq_struct (K := look []) (look_all (fun _ h => nomatch h)) (by decide) (by decide) (by kernel_rfl) hv)
theorem eq126 : EqF Cl 126 z28 := fun v hv => s126 (eq_struct (K := look []) (look_all (fun _ h => nomatch h)) (by decide) (by decide) (by kernel_rfl) hv)
theorem e113 : a113 = eqS0 .ne := by kernel_rfl
theorem eq113 : EqF Cl 113 z24 := fun v hv => s113 (by obtain ⟨xs, rfl, h1, h2⟩ := hv; rw [e113]; exact eqS0_ok h1 (fun x hx => by obtain ⟨n, rfl, _⟩ := h2 x hx; simp [Pm.ev]))
theorem eq127 : EqF Cl 127 z72 := fun v hv => s127 (eq_struct (K := look [(113, z24)]) (look_all (List.forall_mem_cons.2 ⟨eq113, (fun _ h => nomatch h)⟩)) (by decide) (by decide) (by kernel_rfl) hv)
theorem eq359 : EqF Cl 359 z94 := fun v hv => s359 (eq_struct (K := look []) (look_all (fun _ h => nomatch h)) (by decide) (by decide) (by kernel_rfl) hv)
theorem e413 : a413 = eqS1 359 z94 := by kernel_rfl
theorem eq413 : EqF Cl 413 z191 := fun v hv => s413 (by obtain ⟨xs, rfl, h1, h2⟩ := hv; rw [e413]; exact eqS1_ok (fun _ => by decide) eq359 h1 h2)
theorem eq369 : EqF Cl 369 z193 := fun v hv => s369 (eq_struct (K := look [(413, z191)]) (look_all (List.forall_mem_cons.2 ⟨eq413, (fun _ h => nomatch h)⟩)) (by decide) (by decide) (by kernel_rfl) hv)
theorem eq202 : EqF Cl 202 z26 := fun v hv => s202 (eq_struct (K := look [(113, z24)]) (look_all (List.forall_mem_cons.2 ⟨eq113, (fun _ h => nomatch h)⟩)) (by decide) (by decide) (by kernel_rfl) hv)
theorem eq370 : EqF Cl 370 z197 := fun v hv => s370 (eq_struct (K := look [(202, z26), (126, z28)]) (look_all (List.forall_mem_cons.2 ⟨eq202, (List.forall_mem_cons.2 ⟨eq126, (fun _ h => nomatch h)⟩)⟩)) (by decide) (by decide) (by kernel_rfl) hv)
theorem eq282 : EqF Cl 282 z199 := fun v hv => s282 (eq_struct (K := look [(369, z193), (370, z197)]) (look_all (List.forall_mem_cons.2 ⟨eq369, (List.forall_mem_cons.2 ⟨eq370, (fun _ h => nomatch h)⟩)⟩)) (by decide) (by decide) (by kernel_rfl) hv)
theorem e128 : a128 = eqS1 282 z199 := by kernel_rfl
theorem eq128 : EqF Cl 128 z73 := fun v hv => s128 (by obtain ⟨xs, rfl, h1, h2⟩ := hv; rw [e128]; exact eqS1_ok (fun _ => by decide) eq282 h1 h2)
theorem eq34 : EqF Cl 34 z75 := fun v hv => s34 (eq_struct (K := look [(126, z28), (127, z72), (128, z73)]) (look_all (List.forall_mem_cons.2 ⟨eq126, (List.forall_mem_cons.2 ⟨eq127, (List.forall_mem_cons.2 ⟨eq128, (fun _ h => nomatch h)⟩)⟩)⟩)) (by decide) (by decide) (by kernel_rfl) hv)
theorem eq410 : EqF Cl 410 z232 := fun v hv => s410 (eq_struct (K := look []) (look_all (fun _ h => nomatch h)) (by decide) (by decide) (by kernel_rfl) hv)
theorem eq358 : EqF Cl 358 z234 := fun v hv => s358 (eq_struct (K := look [(202, z26), (126, z28), (410, z232), (26, z37)]) (look_all (List.forall_mem_cons.2 ⟨eq202, (List.forall_mem_cons.2 ⟨eq126, (List.forall_mem_cons.2 ⟨eq410, (List.forall_mem_cons.2 ⟨eq26, (fun _ h => nomatch h)⟩)⟩)⟩)⟩)) (by decide) (by decide) (by kernel_rfl) hv)
theorem eq252 : EqF Cl 252 z236 := fun v hv => s252 (eq_struct (K := look [(358, z234)]) (look_all (List.forall_mem_cons.2 ⟨eq358, (fun _ h => nomatch h)⟩)) (by decide) (by decide) (by kernel_rfl) hv)
theorem e107 : a107 = eqS1 252 z236 := by kernel_rfl
theorem eq107 : EqF Cl 107 z76 := fun v hv => s107 (by obtain ⟨xs, rfl, h1, h2⟩ := hv; rw [e107]; exact eqS1_ok (fun _ => by decide) eq252 h1 h2)
theorem eq253 : EqF Cl 253 z336 := fun v hv => s253 (eq_struct (K := look [(359, z94)]) (look_all (List.forall_mem_cons.2 ⟨eq359, (fun _ h => nomatch h)⟩)) (by decide) (by decide) (by kernel_rfl) hv)
theorem e108 : a108 = eqS1 253 z336 := by kernel_rfl
theorem eq108 : EqF Cl 108 z77 := fun v hv => s108 (by obtain ⟨xs, rfl, h1, h2⟩ := hv; rw [e108]; exact eqS1_ok (fun _ => by decide) eq253 h1 h2)
theorem eq109 : EqF Cl 109 z39 := fun v hv => s109 (eq_struct (K := look [(202, z26), (126, z28), (26, z37)]) (look_all (List.forall_mem_cons.2 ⟨eq202, (List.forall_mem_cons.2 ⟨eq126, (List.forall_mem_cons.2 ⟨eq26, (fun _ h => nomatch h)⟩)⟩)⟩)) (by decide) (by decide) (by kernel_rfl) hv)
theorem e110 : a110 = eqS1 109 z39 := by kernel_rfl
theorem eq110 : EqF Cl 110 z78 := fun v hv => s110 (by obtain ⟨xs, rfl, h1, h2⟩ := hv; rw [e110]; exact eqS1_ok (fun _ => by decide) eq109 h1 h2)
theorem eq360 : EqF Cl 360 z51 := fun v hv => s360 (eq_struct (K := look []) (look_all (fun _ h => nomatch h)) (by decide) (by decide) (by kernel_rfl) hv)
theorem eq254 : EqF Cl 254 z211 := fun v hv => s254 (eq_struct (K := look [(360, z51), (26, z37)]) (look_all (List.forall_mem_cons.2 ⟨eq360, (List.forall_mem_cons.2 ⟨eq26, (fun _ h => nomatch h)⟩)⟩)) (by decide) (by decide) (by kernel_rfl) hv)
theorem e111 : a111 = eqS1 254 z211 := by kernel_rfl
theorem eq111 : EqF Cl 111 z79 := fun v hv => s111 (by obtain ⟨xs, rfl, h1, h2⟩ := hv; rw [e111]; exact eqS1_ok (fun _ => by decide) eq254 h1 h2)
theorem eq320 : EqF Cl 320 z209 := fun v hv => s320 (eq_struct (K := look []) (look_all (fun _ h => nomatch h)) (by decide) (by decide) (by kernel_rfl) hv)
theorem e203 : a203 = eqS1 320 z209 := by kernel_rfl
theorem eq203 : EqF Cl 203 z123 := fun v hv => s203 (by obtain ⟨xs, rfl, h1, h2⟩ := hv; rw [e203]; exact eqS1_ok (fun _ => by decide) eq320 h1 h2)
theorem e43 : a43 = eqS0 .sne := by kernel_rfl
theorem eq43 : EqF Cl 43 z32 := fun v hv => s43 (by obtain ⟨xs, rfl, h1, h2⟩ := hv; rw [e43]; exact eqS0_ok h1 (fun x hx => by obtain ⟨n, rfl, _⟩ := h2 x hx; simp [Pm.ev]))
theorem e361 : a361 = eqS1 26 z37 := by kernel_rfl
theorem eq361 : EqF Cl 361 z40 := fun v hv => s361 (by obtain ⟨xs, rfl, h1, h2⟩ := hv; rw [e361]; exact eqS1_ok (fun _ => by decide) eq26 h1 h2)
theorem eq255 : EqF Cl 255 z172 := fun v hv => s255 (eq_struct (K := look [(202, z26), (203, z123), (43, z32), (113, z24), (361, z40)]) (look_all (List.forall_mem_cons.2 ⟨eq202, (List.forall_mem_cons.2 ⟨eq203, (List.forall_mem_cons.2 ⟨eq43, (List.forall_mem_cons.2 ⟨eq113, (List.forall_mem_cons.2 ⟨eq361, (fun _ h => nomatch h)⟩)⟩)⟩)⟩)⟩)) (by decide) (by decide) (by kernel_rfl) hv)
theorem e112 : a112 = eqS1 255 z172 := by kernel_rfl
theorem eq112 : EqF Cl 112 z80 := fun v hv => s112 (by obtain ⟨xs, rfl, h1, h2⟩ := hv; rw [e112]; exact eqS1_ok (fun _ => by decide) eq255 h1 h2)
theorem eq27 : EqF Cl 27 z82 := fun v hv => s27 (eq_struct (K := look [(34, z75), (107, z76), (108, z77), (109, z39), (110, z78), (111, z79), (112, z80), (113, z24)]) (look_all (List.forall_mem_cons.2 ⟨eq34, (List.forall_mem_cons.2 ⟨eq107, (List.forall_mem_cons.2 ⟨eq108, (List.forall_mem_cons.2 ⟨eq109, (List.forall_mem_cons.2 ⟨eq110, (List.forall_mem_cons.2 ⟨eq111, (List.forall_mem_cons.2 ⟨eq112, (List.forall_mem_cons.2 ⟨eq113, (fun _ h => nomatch h)⟩)⟩)⟩)⟩)⟩)⟩)⟩)⟩)) (by decide) (by decide) (by kernel_rfl) hv)
end Go.Proofs.YteleedlkdadogaaGreat.Fw
