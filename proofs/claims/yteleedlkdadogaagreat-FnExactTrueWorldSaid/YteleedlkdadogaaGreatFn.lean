/- Each function as a pure program, printed by a program, checked here. -/
import Derived.Test.YteleedlkdadogaaGreatTb
namespace Go.Proofs.YteleedlkdadogaaGreat.Fw
open Go.RowKit
set_option maxRecDepth 100000
-- 97 laws.szIntS
def h97 : List (Nat × Tm) := []
def a97 : A :=
 .pm .llen [(.v 0)] <|
 .pm (.sub .i64) [(.v 1), (.v 2)] <|
 .pm .lt [(.v 3), (.ki 0)] <|
 .ite (.v 4) (
  .out 1 [(.ki (-1))]) <|
 .out 1 [(.v 3)]
theorem c97 : compF B Tryz.f97 (look h97) [z24, z3] [z3] = some a97 := by kernel_rfl
theorem k97 : callable Tryz.prog 97 = true := by kernel_rfl
theorem s97 {vs us : List V} (h : a97.wp Cl (ans us) vs) : Cl 97 vs us := cc_of tabOk mixed Tryz.func97 c97 rfl k97 h
-- 114 laws.szLayout
def h114 : List (Nat × Tm) := []
def a114 : A :=
 .cl 97 [(.pj (.v 0) 0), (.v 1)] 1 <|
 .pm .lt [(.v 2), (.ki 0)] <|
 .ite (.v 3) (
  .out 1 [(.ki (-1))]) <|
 .cl 97 [(.pj (.v 0) 1), (.v 2)] 1 <|
 .pm .lt [(.v 4), (.ki 0)] <|
 .ite (.v 5) (
  .out 1 [(.ki (-1))]) <|
 .cl 97 [(.pj (.v 0) 2), (.v 4)] 1 <|
 .pm .lt [(.v 6), (.ki 0)] <|
 .ite (.v 7) (
  .out 1 [(.ki (-1))]) <|
 .out 1 [(.v 6)]
theorem c114 : compF B Tryz.f114 (look h114) [z55, z3] [z3] = some a114 := by kernel_rfl
theorem k114 : callable Tryz.prog 114 = true := by kernel_rfl
theorem s114 {vs us : List V} (h : a114.wp Cl (ans us) vs) : Cl 114 vs us := cc_of tabOk mixed Tryz.func114 c114 rfl k114 h
-- 29 laws.szPacket
def h29 : List (Nat × Tm) := []
def a29 : A :=
 .pm .slen [(.pj (.v 0) 3)] <|
 .pm (.sub .i64) [(.v 1), (.v 2)] <|
 .pm .lt [(.v 3), (.ki 0)] <|
 .ite (.v 4) (
  .out 1 [(.ki (-1))]) <|
 .out 1 [(.v 3)]
theorem c29 : compF B Tryz.f29 (look h29) [z88, z3] [z3] = some a29 := by kernel_rfl
theorem k29 : callable Tryz.prog 29 = true := by kernel_rfl
theorem s29 {vs us : List V} (h : a29.wp Cl (ans us) vs) : Cl 29 vs us := cc_of tabOk mixed Tryz.func29 c29 rfl k29 h
-- 411 laws.szPacketS
def h411 : List (Nat × Tm) := [(17, ⟨[0], fun n _ => [(1, (.cv (.sc (.int .i64) (.v (n + 0))))), (5, (.cv (.sc (.int .i64) (.v (n + 1)))))], fun _ _ => [], 2, 0⟩)]
def l411_0b : A :=
 .pm .llen [(.v 0)] <|
 .pm .lt [(.v 6), (.v 7)] <|
 .ite (.v 8) (
  .pm .lget [(.v 0), (.v 6)] <|
  .cl 29 [(.tc (.pj (.v 9) 0) (.tc (.pj (.v 9) 1) (.tc (.pj (.v 9) 2) (.tc (.pj (.v 9) 3) .tn)))), (.v 5)] 1 <|
  .pm .lt [(.v 10), (.ki 0)] <|
  .ite (.v 11) (
   .out 1 [(.ki (-1))]) <|
  .pm (.add .i64) [(.v 6), (.ki 1)] <|
  .out 2 [(.v 10), (.v 12)]) <|
 .out 1 [(.v 5)]
def l411_0 : A := .lp 2 [(.v 3), (.ki 0)] l411_0b
def a411 : A :=
 .pm .llen [(.v 0)] <|
 .pm (.sub .i64) [(.v 1), (.v 2)] <|
 .pm .lt [(.v 3), (.ki 0)] <|
 .ite (.v 4) (
  .out 1 [(.ki (-1))]) <|
 l411_0
theorem c411 : compF B Tryz.f411 (look h411) [z347, z3] [z3] = some a411 := by kernel_rfl
theorem k411 : callable Tryz.prog 411 = true := by kernel_rfl
theorem s411 {vs us : List V} (h : a411.wp Cl (ans us) vs) : Cl 411 vs us := cc_of tabOk mixed Tryz.func411 c411 rfl k411 h
-- 362 laws.szQueue
def h362 : List (Nat × Tm) := []
def a362 : A :=
 .cl 411 [(.pj (.v 0) 3), (.v 1)] 1 <|
 .pm .lt [(.v 2), (.ki 0)] <|
 .ite (.v 3) (
  .out 1 [(.ki (-1))]) <|
 .out 1 [(.v 2)]
theorem c362 : compF B Tryz.f362 (look h362) [z349, z3] [z3] = some a362 := by kernel_rfl
theorem k362 : callable Tryz.prog 362 = true := by kernel_rfl
theorem s362 {vs us : List V} (h : a362.wp Cl (ans us) vs) : Cl 362 vs us := cc_of tabOk mixed Tryz.func362 c362 rfl k362 h
-- 240 laws.szSeq
def h240 : List (Nat × Tm) := []
def a240 : A :=
 .cl 97 [(.pj (.v 0) 2), (.v 1)] 1 <|
 .pm .lt [(.v 2), (.ki 0)] <|
 .ite (.v 3) (
  .out 1 [(.ki (-1))]) <|
 .cl 97 [(.pj (.v 0) 3), (.v 2)] 1 <|
 .pm .lt [(.v 4), (.ki 0)] <|
 .ite (.v 5) (
  .out 1 [(.ki (-1))]) <|
 .out 1 [(.v 4)]
theorem c240 : compF B Tryz.f240 (look h240) [z61, z3] [z3] = some a240 := by kernel_rfl
theorem k240 : callable Tryz.prog 240 = true := by kernel_rfl
theorem s240 {vs us : List V} (h : a240.wp Cl (ans us) vs) : Cl 240 vs us := cc_of tabOk mixed Tryz.func240 c240 rfl k240 h
-- 363 laws.szAdmit
def h363 : List (Nat × Tm) := []
def a363 : A :=
 .cl 240 [(.tc (.pj (.v 0) 2) (.tc (.pj (.v 0) 3) (.tc (.pj (.v 0) 4) (.tc (.pj (.v 0) 5) .tn)))), (.v 1)] 1 <|
 .pm .lt [(.v 2), (.ki 0)] <|
 .ite (.v 3) (
  .out 1 [(.ki (-1))]) <|
 .out 1 [(.v 2)]
theorem c363 : compF B Tryz.f363 (look h363) [z351, z3] [z3] = some a363 := by kernel_rfl
theorem k363 : callable Tryz.prog 363 = true := by kernel_rfl
theorem s363 {vs us : List V} (h : a363.wp Cl (ans us) vs) : Cl 363 vs us := cc_of tabOk mixed Tryz.func363 c363 rfl k363 h
-- 256 laws.szInput
def h256 : List (Nat × Tm) := []
def a256 : A :=
 .cl 362 [(fieldsE 0 0 9), (.v 1)] 1 <|
 .pm .lt [(.v 2), (.ki 0)] <|
 .ite (.v 3) (
  .out 1 [(.ki (-1))]) <|
 .cl 363 [(.tc (.pj (.v 0) 9) (.tc (.pj (.v 0) 10) (.tc (.pj (.v 0) 11) (.tc (.pj (.v 0) 12) (.tc (.pj (.v 0) 13) (.tc (.pj (.v 0) 14) (.tc (.pj (.v 0) 15) (.tc (.pj (.v 0) 16) (.tc (.pj (.v 0) 17) (.tc (.pj (.v 0) 18) (.tc (.pj (.v 0) 19) (.tc (.pj (.v 0) 20) (.tc (.pj (.v 0) 21) .tn))))))))))))), (.v 2)] 1 <|
 .pm .lt [(.v 4), (.ki 0)] <|
 .ite (.v 5) (
  .out 1 [(.ki (-1))]) <|
 .out 1 [(.v 4)]
theorem c256 : compF B Tryz.f256 (look h256) [z353, z3] [z3] = some a256 := by kernel_rfl
theorem k256 : callable Tryz.prog 256 = true := by kernel_rfl
theorem s256 {vs us : List V} (h : a256.wp Cl (ans us) vs) : Cl 256 vs us := cc_of tabOk mixed Tryz.func256 c256 rfl k256 h
-- 115 laws.szInputS
def h115 : List (Nat × Tm) := [(17, ⟨[0], fun n _ => [(1, (.cv (.sc (.int .i64) (.v (n + 0))))), (5, (.cv (.sc (.int .i64) (.v (n + 1)))))], fun _ _ => [], 2, 0⟩)]
def l115_0b : A :=
 .pm .llen [(.v 0)] <|
 .pm .lt [(.v 6), (.v 7)] <|
 .ite (.v 8) (
  .pm .lget [(.v 0), (.v 6)] <|
  .cl 256 [(fieldsE 9 0 24), (.v 5)] 1 <|
  .pm .lt [(.v 10), (.ki 0)] <|
  .ite (.v 11) (
   .out 1 [(.ki (-1))]) <|
  .pm (.add .i64) [(.v 6), (.ki 1)] <|
  .out 2 [(.v 10), (.v 12)]) <|
 .out 1 [(.v 5)]
def l115_0 : A := .lp 2 [(.v 3), (.ki 0)] l115_0b
def a115 : A :=
 .pm .llen [(.v 0)] <|
 .pm (.sub .i64) [(.v 1), (.v 2)] <|
 .pm .lt [(.v 3), (.ki 0)] <|
 .ite (.v 4) (
  .out 1 [(.ki (-1))]) <|
 l115_0
theorem c115 : compF B Tryz.f115 (look h115) [z56, z3] [z3] = some a115 := by kernel_rfl
theorem k115 : callable Tryz.prog 115 = true := by kernel_rfl
theorem s115 {vs us : List V} (h : a115.wp Cl (ans us) vs) : Cl 115 vs us := cc_of tabOk mixed Tryz.func115 c115 rfl k115 h
-- 28 laws.szMixer
def h28 : List (Nat × Tm) := []
def a28 : A :=
 .cl 114 [(.tc (.pj (.v 0) 8) (.tc (.pj (.v 0) 9) (.tc (.pj (.v 0) 10) .tn))), (.v 1)] 1 <|
 .pm .lt [(.v 2), (.ki 0)] <|
 .ite (.v 3) (
  .out 1 [(.ki (-1))]) <|
 .cl 114 [(.tc (.pj (.v 0) 11) (.tc (.pj (.v 0) 12) (.tc (.pj (.v 0) 13) .tn))), (.v 2)] 1 <|
 .pm .lt [(.v 4), (.ki 0)] <|
 .ite (.v 5) (
  .out 1 [(.ki (-1))]) <|
 .cl 115 [(.pj (.v 0) 17), (.v 4)] 1 <|
 .pm .lt [(.v 6), (.ki 0)] <|
 .ite (.v 7) (
  .out 1 [(.ki (-1))]) <|
 .out 1 [(.v 6)]
theorem c28 : compF B Tryz.f28 (look h28) [z58, z3] [z3] = some a28 := by kernel_rfl
theorem k28 : callable Tryz.prog 28 = true := by kernel_rfl
theorem s28 {vs us : List V} (h : a28.wp Cl (ans us) vs) : Cl 28 vs us := cc_of tabOk mixed Tryz.func28 c28 rfl k28 h
-- 241 laws.szPic
def h241 : List (Nat × Tm) := []
def a241 : A :=
 .pm .slen [(.pj (.v 0) 2)] <|
 .pm (.sub .i64) [(.v 1), (.v 2)] <|
 .pm .lt [(.v 3), (.ki 0)] <|
 .ite (.v 4) (
  .out 1 [(.ki (-1))]) <|
 .out 1 [(.v 3)]
theorem c241 : compF B Tryz.f241 (look h241) [z62, z3] [z3] = some a241 := by kernel_rfl
theorem k241 : callable Tryz.prog 241 = true := by kernel_rfl
theorem s241 {vs us : List V} (h : a241.wp Cl (ans us) vs) : Cl 241 vs us := cc_of tabOk mixed Tryz.func241 c241 rfl k241 h
-- 348 laws.szSource
def h348 : List (Nat × Tm) := []
def a348 : A :=
 .cl 240 [(.tc (.pj (.v 0) 0) (.tc (.pj (.v 0) 1) (.tc (.pj (.v 0) 2) (.tc (.pj (.v 0) 3) .tn)))), (.v 1)] 1 <|
 .pm .lt [(.v 2), (.ki 0)] <|
 .ite (.v 3) (
  .out 1 [(.ki (-1))]) <|
 .cl 241 [(.tc (.pj (.v 0) 16) (.tc (.pj (.v 0) 17) (.tc (.pj (.v 0) 18) .tn))), (.v 2)] 1 <|
 .pm .lt [(.v 4), (.ki 0)] <|
 .ite (.v 5) (
  .out 1 [(.ki (-1))]) <|
 .out 1 [(.v 4)]
theorem c348 : compF B Tryz.f348 (look h348) [z316, z3] [z3] = some a348 := by kernel_rfl
theorem k348 : callable Tryz.prog 348 = true := by kernel_rfl
theorem s348 {vs us : List V} (h : a348.wp Cl (ans us) vs) : Cl 348 vs us := cc_of tabOk mixed Tryz.func348 c348 rfl k348 h
-- 238 laws.szCam
def h238 : List (Nat × Tm) := []
def a238 : A :=
 .cl 348 [(fieldsE 0 0 19), (.v 1)] 1 <|
 .pm .lt [(.v 2), (.ki 0)] <|
 .ite (.v 3) (
  .out 1 [(.ki (-1))]) <|
 .out 1 [(.v 2)]
theorem c238 : compF B Tryz.f238 (look h238) [z318, z3] [z3] = some a238 := by kernel_rfl
theorem k238 : callable Tryz.prog 238 = true := by kernel_rfl
theorem s238 {vs us : List V} (h : a238.wp Cl (ans us) vs) : Cl 238 vs us := cc_of tabOk mixed Tryz.func238 c238 rfl k238 h
-- 91 laws.szCamS
def h91 : List (Nat × Tm) := [(17, ⟨[0], fun n _ => [(1, (.cv (.sc (.int .i64) (.v (n + 0))))), (5, (.cv (.sc (.int .i64) (.v (n + 1)))))], fun _ _ => [], 2, 0⟩)]
def l91_0b : A :=
 .pm .llen [(.v 0)] <|
 .pm .lt [(.v 6), (.v 7)] <|
 .ite (.v 8) (
  .pm .lget [(.v 0), (.v 6)] <|
  .cl 238 [(fieldsE 9 0 21), (.v 5)] 1 <|
  .pm .lt [(.v 10), (.ki 0)] <|
  .ite (.v 11) (
   .out 1 [(.ki (-1))]) <|
  .pm (.add .i64) [(.v 6), (.ki 1)] <|
  .out 2 [(.v 10), (.v 12)]) <|
 .out 1 [(.v 5)]
def l91_0 : A := .lp 2 [(.v 3), (.ki 0)] l91_0b
def a91 : A :=
 .pm .llen [(.v 0)] <|
 .pm (.sub .i64) [(.v 1), (.v 2)] <|
 .pm .lt [(.v 3), (.ki 0)] <|
 .ite (.v 4) (
  .out 1 [(.ki (-1))]) <|
 l91_0
theorem c91 : compF B Tryz.f91 (look h91) [z59, z3] [z3] = some a91 := by kernel_rfl
theorem k91 : callable Tryz.prog 91 = true := by kernel_rfl
theorem s91 {vs us : List V} (h : a91.wp Cl (ans us) vs) : Cl 91 vs us := cc_of tabOk mixed Tryz.func91 c91 rfl k91 h
-- 239 laws.szFly
def h239 : List (Nat × Tm) := []
def a239 : A :=
 .cl 29 [(.tc (.pj (.v 0) 1) (.tc (.pj (.v 0) 2) (.tc (.pj (.v 0) 3) (.tc (.pj (.v 0) 4) .tn)))), (.v 1)] 1 <|
 .pm .lt [(.v 2), (.ki 0)] <|
 .ite (.v 3) (
  .out 1 [(.ki (-1))]) <|
 .out 1 [(.v 2)]
theorem c239 : compF B Tryz.f239 (look h239) [z321, z3] [z3] = some a239 := by kernel_rfl
theorem k239 : callable Tryz.prog 239 = true := by kernel_rfl
theorem s239 {vs us : List V} (h : a239.wp Cl (ans us) vs) : Cl 239 vs us := cc_of tabOk mixed Tryz.func239 c239 rfl k239 h
-- 92 laws.szFlyS
def h92 : List (Nat × Tm) := [(17, ⟨[0], fun n _ => [(1, (.cv (.sc (.int .i64) (.v (n + 0))))), (5, (.cv (.sc (.int .i64) (.v (n + 1)))))], fun _ _ => [], 2, 0⟩)]
def l92_0b : A :=
 .pm .llen [(.v 0)] <|
 .pm .lt [(.v 6), (.v 7)] <|
 .ite (.v 8) (
  .pm .lget [(.v 0), (.v 6)] <|
  .cl 239 [(.tc (.pj (.v 9) 0) (.tc (.pj (.v 9) 1) (.tc (.pj (.v 9) 2) (.tc (.pj (.v 9) 3) (.tc (.pj (.v 9) 4) .tn))))), (.v 5)] 1 <|
  .pm .lt [(.v 10), (.ki 0)] <|
  .ite (.v 11) (
   .out 1 [(.ki (-1))]) <|
  .pm (.add .i64) [(.v 6), (.ki 1)] <|
  .out 2 [(.v 10), (.v 12)]) <|
 .out 1 [(.v 5)]
def l92_0 : A := .lp 2 [(.v 3), (.ki 0)] l92_0b
def a92 : A :=
 .pm .llen [(.v 0)] <|
 .pm (.sub .i64) [(.v 1), (.v 2)] <|
 .pm .lt [(.v 3), (.ki 0)] <|
 .ite (.v 4) (
  .out 1 [(.ki (-1))]) <|
 l92_0
theorem c92 : compF B Tryz.f92 (look h92) [z60, z3] [z3] = some a92 := by kernel_rfl
theorem k92 : callable Tryz.prog 92 = true := by kernel_rfl
theorem s92 {vs us : List V} (h : a92.wp Cl (ans us) vs) : Cl 92 vs us := cc_of tabOk mixed Tryz.func92 c92 rfl k92 h
-- 93 laws.szDecoder
def h93 : List (Nat × Tm) := []
def a93 : A :=
 .cl 240 [(.tc (.pj (.v 0) 3) (.tc (.pj (.v 0) 4) (.tc (.pj (.v 0) 5) (.tc (.pj (.v 0) 6) .tn)))), (.v 1)] 1 <|
 .pm .lt [(.v 2), (.ki 0)] <|
 .ite (.v 3) (
  .out 1 [(.ki (-1))]) <|
 .cl 241 [(.tc (.pj (.v 0) 13) (.tc (.pj (.v 0) 14) (.tc (.pj (.v 0) 15) .tn))), (.v 2)] 1 <|
 .pm .lt [(.v 4), (.ki 0)] <|
 .ite (.v 5) (
  .out 1 [(.ki (-1))]) <|
 .cl 241 [(.tc (.pj (.v 0) 16) (.tc (.pj (.v 0) 17) (.tc (.pj (.v 0) 18) .tn))), (.v 4)] 1 <|
 .pm .lt [(.v 6), (.ki 0)] <|
 .ite (.v 7) (
  .out 1 [(.ki (-1))]) <|
 .out 1 [(.v 6)]
theorem c93 : compF B Tryz.f93 (look h93) [z64, z3] [z3] = some a93 := by kernel_rfl
theorem k93 : callable Tryz.prog 93 = true := by kernel_rfl
theorem s93 {vs us : List V} (h : a93.wp Cl (ans us) vs) : Cl 93 vs us := cc_of tabOk mixed Tryz.func93 c93 rfl k93 h
-- 94 laws.szDecoderS
def h94 : List (Nat × Tm) := [(17, ⟨[0], fun n _ => [(1, (.cv (.sc (.int .i64) (.v (n + 0))))), (5, (.cv (.sc (.int .i64) (.v (n + 1)))))], fun _ _ => [], 2, 0⟩)]
def l94_0b : A :=
 .pm .llen [(.v 0)] <|
 .pm .lt [(.v 6), (.v 7)] <|
 .ite (.v 8) (
  .pm .lget [(.v 0), (.v 6)] <|
  .cl 93 [(fieldsE 9 0 19), (.v 5)] 1 <|
  .pm .lt [(.v 10), (.ki 0)] <|
  .ite (.v 11) (
   .out 1 [(.ki (-1))]) <|
  .pm (.add .i64) [(.v 6), (.ki 1)] <|
  .out 2 [(.v 10), (.v 12)]) <|
 .out 1 [(.v 5)]
def l94_0 : A := .lp 2 [(.v 3), (.ki 0)] l94_0b
def a94 : A :=
 .pm .llen [(.v 0)] <|
 .pm (.sub .i64) [(.v 1), (.v 2)] <|
 .pm .lt [(.v 3), (.ki 0)] <|
 .ite (.v 4) (
  .out 1 [(.ki (-1))]) <|
 l94_0
theorem c94 : compF B Tryz.f94 (look h94) [z65, z3] [z3] = some a94 := by kernel_rfl
theorem k94 : callable Tryz.prog 94 = true := by kernel_rfl
theorem s94 {vs us : List V} (h : a94.wp Cl (ans us) vs) : Cl 94 vs us := cc_of tabOk mixed Tryz.func94 c94 rfl k94 h
-- 349 laws.szPart
def h349 : List (Nat × Tm) := []
def a349 : A :=
 .pm .slen [(.pj (.v 0) 2)] <|
 .pm (.sub .i64) [(.v 1), (.v 2)] <|
 .pm .lt [(.v 3), (.ki 0)] <|
 .ite (.v 4) (
  .out 1 [(.ki (-1))]) <|
 .out 1 [(.v 3)]
theorem c349 : compF B Tryz.f349 (look h349) [z325, z3] [z3] = some a349 := by kernel_rfl
theorem k349 : callable Tryz.prog 349 = true := by kernel_rfl
theorem s349 {vs us : List V} (h : a349.wp Cl (ans us) vs) : Cl 349 vs us := cc_of tabOk mixed Tryz.func349 c349 rfl k349 h
-- 242 laws.szSight
def h242 : List (Nat × Tm) := []
def a242 : A :=
 .cl 349 [(.tc (.pj (.v 0) 2) (.tc (.pj (.v 0) 3) (.tc (.pj (.v 0) 4) .tn))), (.v 1)] 1 <|
 .pm .lt [(.v 2), (.ki 0)] <|
 .ite (.v 3) (
  .out 1 [(.ki (-1))]) <|
 .cl 241 [(.tc (.pj (.v 0) 5) (.tc (.pj (.v 0) 6) (.tc (.pj (.v 0) 7) .tn))), (.v 2)] 1 <|
 .pm .lt [(.v 4), (.ki 0)] <|
 .ite (.v 5) (
  .out 1 [(.ki (-1))]) <|
 .out 1 [(.v 4)]
theorem c242 : compF B Tryz.f242 (look h242) [z327, z3] [z3] = some a242 := by kernel_rfl
theorem k242 : callable Tryz.prog 242 = true := by kernel_rfl
theorem s242 {vs us : List V} (h : a242.wp Cl (ans us) vs) : Cl 242 vs us := cc_of tabOk mixed Tryz.func242 c242 rfl k242 h
-- 95 laws.szSightS
def h95 : List (Nat × Tm) := [(17, ⟨[0], fun n _ => [(1, (.cv (.sc (.int .i64) (.v (n + 0))))), (5, (.cv (.sc (.int .i64) (.v (n + 1)))))], fun _ _ => [], 2, 0⟩)]
def l95_0b : A :=
 .pm .llen [(.v 0)] <|
 .pm .lt [(.v 6), (.v 7)] <|
 .ite (.v 8) (
  .pm .lget [(.v 0), (.v 6)] <|
  .cl 242 [(.tc (.pj (.v 9) 0) (.tc (.pj (.v 9) 1) (.tc (.pj (.v 9) 2) (.tc (.pj (.v 9) 3) (.tc (.pj (.v 9) 4) (.tc (.pj (.v 9) 5) (.tc (.pj (.v 9) 6) (.tc (.pj (.v 9) 7) .tn)))))))), (.v 5)] 1 <|
  .pm .lt [(.v 10), (.ki 0)] <|
  .ite (.v 11) (
   .out 1 [(.ki (-1))]) <|
  .pm (.add .i64) [(.v 6), (.ki 1)] <|
  .out 2 [(.v 10), (.v 12)]) <|
 .out 1 [(.v 5)]
def l95_0 : A := .lp 2 [(.v 3), (.ki 0)] l95_0b
def a95 : A :=
 .pm .llen [(.v 0)] <|
 .pm (.sub .i64) [(.v 1), (.v 2)] <|
 .pm .lt [(.v 3), (.ki 0)] <|
 .ite (.v 4) (
  .out 1 [(.ki (-1))]) <|
 l95_0
theorem c95 : compF B Tryz.f95 (look h95) [z66, z3] [z3] = some a95 := by kernel_rfl
theorem k95 : callable Tryz.prog 95 = true := by kernel_rfl
theorem s95 {vs us : List V} (h : a95.wp Cl (ans us) vs) : Cl 95 vs us := cc_of tabOk mixed Tryz.func95 c95 rfl k95 h
-- 350 laws.szTellS
def h350 : List (Nat × Tm) := []
def a350 : A :=
 .pm .llen [(.v 0)] <|
 .pm (.sub .i64) [(.v 1), (.v 2)] <|
 .pm .lt [(.v 3), (.ki 0)] <|
 .ite (.v 4) (
  .out 1 [(.ki (-1))]) <|
 .out 1 [(.v 3)]
theorem c350 : compF B Tryz.f350 (look h350) [z329, z3] [z3] = some a350 := by kernel_rfl
theorem k350 : callable Tryz.prog 350 = true := by kernel_rfl
theorem s350 {vs us : List V} (h : a350.wp Cl (ans us) vs) : Cl 350 vs us := cc_of tabOk mixed Tryz.func350 c350 rfl k350 h
-- 351 laws.szStringS
def h351 : List (Nat × Tm) := [(17, ⟨[0], fun n _ => [(1, (.cv (.sc (.int .i64) (.v (n + 0))))), (5, (.cv (.sc (.int .i64) (.v (n + 1)))))], fun _ _ => [], 2, 0⟩)]
def l351_0b : A :=
 .pm .llen [(.v 0)] <|
 .pm .lt [(.v 6), (.v 7)] <|
 .ite (.v 8) (
  .pm .lget [(.v 0), (.v 6)] <|
  .pm .slen [(.v 9)] <|
  .pm (.sub .i64) [(.v 5), (.v 10)] <|
  .pm .lt [(.v 11), (.ki 0)] <|
  .ite (.v 12) (
   .out 1 [(.ki (-1))]) <|
  .pm (.add .i64) [(.v 6), (.ki 1)] <|
  .out 2 [(.v 11), (.v 13)]) <|
 .out 1 [(.v 5)]
def l351_0 : A := .lp 2 [(.v 3), (.ki 0)] l351_0b
def a351 : A :=
 .pm .llen [(.v 0)] <|
 .pm (.sub .i64) [(.v 1), (.v 2)] <|
 .pm .lt [(.v 3), (.ki 0)] <|
 .ite (.v 4) (
  .out 1 [(.ki (-1))]) <|
 l351_0
theorem c351 : compF B Tryz.f351 (look h351) [z32, z3] [z3] = some a351 := by kernel_rfl
theorem k351 : callable Tryz.prog 351 = true := by kernel_rfl
theorem s351 {vs us : List V} (h : a351.wp Cl (ans us) vs) : Cl 351 vs us := cc_of tabOk mixed Tryz.func351 c351 rfl k351 h
-- 352 laws.szPicS
def h352 : List (Nat × Tm) := [(17, ⟨[0], fun n _ => [(1, (.cv (.sc (.int .i64) (.v (n + 0))))), (5, (.cv (.sc (.int .i64) (.v (n + 1)))))], fun _ _ => [], 2, 0⟩)]
def l352_0b : A :=
 .pm .llen [(.v 0)] <|
 .pm .lt [(.v 6), (.v 7)] <|
 .ite (.v 8) (
  .pm .lget [(.v 0), (.v 6)] <|
  .cl 241 [(.tc (.pj (.v 9) 0) (.tc (.pj (.v 9) 1) (.tc (.pj (.v 9) 2) .tn))), (.v 5)] 1 <|
  .pm .lt [(.v 10), (.ki 0)] <|
  .ite (.v 11) (
   .out 1 [(.ki (-1))]) <|
  .pm (.add .i64) [(.v 6), (.ki 1)] <|
  .out 2 [(.v 10), (.v 12)]) <|
 .out 1 [(.v 5)]
def l352_0 : A := .lp 2 [(.v 3), (.ki 0)] l352_0b
def a352 : A :=
 .pm .llen [(.v 0)] <|
 .pm (.sub .i64) [(.v 1), (.v 2)] <|
 .pm .lt [(.v 3), (.ki 0)] <|
 .ite (.v 4) (
  .out 1 [(.ki (-1))]) <|
 l352_0
theorem c352 : compF B Tryz.f352 (look h352) [z330, z3] [z3] = some a352 := by kernel_rfl
theorem k352 : callable Tryz.prog 352 = true := by kernel_rfl
theorem s352 {vs us : List V} (h : a352.wp Cl (ans us) vs) : Cl 352 vs us := cc_of tabOk mixed Tryz.func352 c352 rfl k352 h
-- 243 laws.szLook
def h243 : List (Nat × Tm) := []
def a243 : A :=
 .cl 240 [(.tc (.pj (.v 0) 0) (.tc (.pj (.v 0) 1) (.tc (.pj (.v 0) 2) (.tc (.pj (.v 0) 3) .tn)))), (.v 1)] 1 <|
 .pm .lt [(.v 2), (.ki 0)] <|
 .ite (.v 3) (
  .out 1 [(.ki (-1))]) <|
 .cl 350 [(.pj (.v 0) 4), (.v 2)] 1 <|
 .pm .lt [(.v 4), (.ki 0)] <|
 .ite (.v 5) (
  .out 1 [(.ki (-1))]) <|
 .cl 351 [(.pj (.v 0) 5), (.v 4)] 1 <|
 .pm .lt [(.v 6), (.ki 0)] <|
 .ite (.v 7) (
  .out 1 [(.ki (-1))]) <|
 .cl 97 [(.pj (.v 0) 6), (.v 6)] 1 <|
 .pm .lt [(.v 8), (.ki 0)] <|
 .ite (.v 9) (
  .out 1 [(.ki (-1))]) <|
 .cl 352 [(.pj (.v 0) 7), (.v 8)] 1 <|
 .pm .lt [(.v 10), (.ki 0)] <|
 .ite (.v 11) (
  .out 1 [(.ki (-1))]) <|
 .out 1 [(.v 10)]
theorem c243 : compF B Tryz.f243 (look h243) [z332, z3] [z3] = some a243 := by kernel_rfl
theorem k243 : callable Tryz.prog 243 = true := by kernel_rfl
theorem s243 {vs us : List V} (h : a243.wp Cl (ans us) vs) : Cl 243 vs us := cc_of tabOk mixed Tryz.func243 c243 rfl k243 h
-- 96 laws.szLookS
def h96 : List (Nat × Tm) := [(17, ⟨[0], fun n _ => [(1, (.cv (.sc (.int .i64) (.v (n + 0))))), (5, (.cv (.sc (.int .i64) (.v (n + 1)))))], fun _ _ => [], 2, 0⟩)]
def l96_0b : A :=
 .pm .llen [(.v 0)] <|
 .pm .lt [(.v 6), (.v 7)] <|
 .ite (.v 8) (
  .pm .lget [(.v 0), (.v 6)] <|
  .cl 243 [(.tc (.pj (.v 9) 0) (.tc (.pj (.v 9) 1) (.tc (.pj (.v 9) 2) (.tc (.pj (.v 9) 3) (.tc (.pj (.v 9) 4) (.tc (.pj (.v 9) 5) (.tc (.pj (.v 9) 6) (.tc (.pj (.v 9) 7) .tn)))))))), (.v 5)] 1 <|
  .pm .lt [(.v 10), (.ki 0)] <|
  .ite (.v 11) (
   .out 1 [(.ki (-1))]) <|
  .pm (.add .i64) [(.v 6), (.ki 1)] <|
  .out 2 [(.v 10), (.v 12)]) <|
 .out 1 [(.v 5)]
def l96_0 : A := .lp 2 [(.v 3), (.ki 0)] l96_0b
def a96 : A :=
 .pm .llen [(.v 0)] <|
 .pm (.sub .i64) [(.v 1), (.v 2)] <|
 .pm .lt [(.v 3), (.ki 0)] <|
 .ite (.v 4) (
  .out 1 [(.ki (-1))]) <|
 l96_0
theorem c96 : compF B Tryz.f96 (look h96) [z67, z3] [z3] = some a96 := by kernel_rfl
theorem k96 : callable Tryz.prog 96 = true := by kernel_rfl
theorem s96 {vs us : List V} (h : a96.wp Cl (ans us) vs) : Cl 96 vs us := cc_of tabOk mixed Tryz.func96 c96 rfl k96 h
-- 22 laws.szWorld
def h22 : List (Nat × Tm) := []
def a22 : A :=
 .cl 28 [(fieldsE 0 0 18), (.v 1)] 1 <|
 .pm .lt [(.v 2), (.ki 0)] <|
 .ite (.v 3) (
  .out 1 [(.ki (-1))]) <|
 .cl 91 [(.pj (.v 0) 18), (.v 2)] 1 <|
 .pm .lt [(.v 4), (.ki 0)] <|
 .ite (.v 5) (
  .out 1 [(.ki (-1))]) <|
 .cl 92 [(.pj (.v 0) 19), (.v 4)] 1 <|
 .pm .lt [(.v 6), (.ki 0)] <|
 .ite (.v 7) (
  .out 1 [(.ki (-1))]) <|
 .cl 93 [(.tc (.pj (.v 0) 20) (.tc (.pj (.v 0) 21) (.tc (.pj (.v 0) 22) (.tc (.pj (.v 0) 23) (.tc (.pj (.v 0) 24) (.tc (.pj (.v 0) 25) (.tc (.pj (.v 0) 26) (.tc (.pj (.v 0) 27) (.tc (.pj (.v 0) 28) (.tc (.pj (.v 0) 29) (.tc (.pj (.v 0) 30) (.tc (.pj (.v 0) 31) (.tc (.pj (.v 0) 32) (.tc (.pj (.v 0) 33) (.tc (.pj (.v 0) 34) (.tc (.pj (.v 0) 35) (.tc (.pj (.v 0) 36) (.tc (.pj (.v 0) 37) (.tc (.pj (.v 0) 38) .tn))))))))))))))))))), (.v 6)] 1 <|
 .pm .lt [(.v 8), (.ki 0)] <|
 .ite (.v 9) (
  .out 1 [(.ki (-1))]) <|
 .cl 94 [(.pj (.v 0) 39), (.v 8)] 1 <|
 .pm .lt [(.v 10), (.ki 0)] <|
 .ite (.v 11) (
  .out 1 [(.ki (-1))]) <|
 .cl 95 [(.pj (.v 0) 40), (.v 10)] 1 <|
 .pm .lt [(.v 12), (.ki 0)] <|
 .ite (.v 13) (
  .out 1 [(.ki (-1))]) <|
 .cl 96 [(.pj (.v 0) 41), (.v 12)] 1 <|
 .pm .lt [(.v 14), (.ki 0)] <|
 .ite (.v 15) (
  .out 1 [(.ki (-1))]) <|
 .cl 97 [(.pj (.v 0) 42), (.v 14)] 1 <|
 .pm .lt [(.v 16), (.ki 0)] <|
 .ite (.v 17) (
  .out 1 [(.ki (-1))]) <|
 .out 1 [(.v 16)]
theorem c22 : compF B Tryz.f22 (look h22) [z69, z3] [z3] = some a22 := by kernel_rfl
theorem k22 : callable Tryz.prog 22 = true := by kernel_rfl
theorem s22 {vs us : List V} (h : a22.wp Cl (ans us) vs) : Cl 22 vs us := cc_of tabOk mixed Tryz.func22 c22 rfl k22 h
-- 120 laws.toPar
def h120 : List (Nat × Tm) := []
def a120 : A :=
 .out 1 [(.tc (.pj (.v 0) 0) (.tc (.pj (.v 0) 1) (.tc (.pj (.v 0) 2) (.tc (.pj (.v 0) 3) .tn))))]
theorem c120 : compF B Tryz.f120 (look h120) [z53] [z28] = some a120 := by kernel_rfl
theorem k120 : callable Tryz.prog 120 = true := by kernel_rfl
theorem s120 {vs us : List V} (h : a120.wp Cl (ans us) vs) : Cl 120 vs us := cc_of tabOk mixed Tryz.func120 c120 rfl k120 h
-- 106 laws.toIntS
def h106 : List (Nat × Tm) := [(11, ⟨[0], fun n i => [(3, (.cv (.own (i + 0)))), (4, (.cv (.sc (.int .i64) (.v (n + 0)))))], fun n i => [((i + 0), (.arr 1 (.int .i64) 3 (.v (n + 1))))], 2, 1⟩)]
def l106_0b : A :=
 .pm .llen [(.v 0)] <|
 .pm .lt [(.v 3), (.v 5)] <|
 .ite (.v 6) (
  .pm .lget [(.v 0), (.v 3)] <|
  .pm .lget [(.v 4), (.v 3)] <|
  .pm .lset [(.v 4), (.v 3), (.v 7)] <|
  .pm (.add .i64) [(.v 3), (.ki 1)] <|
  .out 2 [(.v 10), (.v 9)]) <|
 .out 1 [(.v 4)]
def l106_0 : A := .lp 2 [(.ki 0), (.v 2)] l106_0b
def a106 : A :=
 .pm .llen [(.v 0)] <|
 .pm (.lmk 8) [(.v 1), (.v 1), (.ki 0)] <|
 l106_0
theorem c106 : compF B Tryz.f106 (look h106) [z24] [z24] = some a106 := by kernel_rfl
theorem k106 : callable Tryz.prog 106 = true := by kernel_rfl
theorem s106 {vs us : List V} (h : a106.wp Cl (ans us) vs) : Cl 106 vs us := cc_of tabOk mixed Tryz.func106 c106 rfl k106 h
-- 121 laws.toLayout
def h121 : List (Nat × Tm) := []
def a121 : A :=
 .cl 106 [(.pj (.v 0) 0)] 1 <|
 .cl 106 [(.pj (.v 0) 1)] 1 <|
 .cl 106 [(.pj (.v 0) 2)] 1 <|
 .out 1 [(.tc (.v 1) (.tc (.v 2) (.tc (.v 3) .tn)))]
theorem c121 : compF B Tryz.f121 (look h121) [z55] [z72] = some a121 := by kernel_rfl
theorem k121 : callable Tryz.prog 121 = true := by kernel_rfl
theorem s121 {vs us : List V} (h : a121.wp Cl (ans us) vs) : Cl 121 vs us := cc_of tabOk mixed Tryz.func121 c121 rfl k121 h
-- 32 laws.toPacket
def h32 : List (Nat × Tm) := []
def a32 : A :=
 .out 1 [(.tc (.pj (.v 0) 0) (.tc (.pj (.v 0) 1) (.tc (.pj (.v 0) 2) (.tc (.pj (.v 0) 3) .tn))))]
theorem c32 : compF B Tryz.f32 (look h32) [z88] [z94] = some a32 := by kernel_rfl
theorem k32 : callable Tryz.prog 32 = true := by kernel_rfl
theorem s32 {vs us : List V} (h : a32.wp Cl (ans us) vs) : Cl 32 vs us := cc_of tabOk mixed Tryz.func32 c32 rfl k32 h
-- 412 laws.toPacketS
def h412 : List (Nat × Tm) := [(11, ⟨[0], fun n i => [(3, (.cv (.own (i + 0)))), (4, (.cv (.sc (.int .i64) (.v (n + 0)))))], fun n i => [((i + 0), (.arr 1 (.cons (.int .i64) (.cons .bool (.cons .bool (.cons .str .nil)))) 94 (.v (n + 1))))], 2, 1⟩)]
def l412_0b : A :=
 .pm .llen [(.v 0)] <|
 .pm .lt [(.v 3), (.v 5)] <|
 .ite (.v 6) (
  .pm .lget [(.v 0), (.v 3)] <|
  .cl 32 [(.tc (.pj (.v 7) 0) (.tc (.pj (.v 7) 1) (.tc (.pj (.v 7) 2) (.tc (.pj (.v 7) 3) .tn))))] 1 <|
  .pm .lget [(.v 4), (.v 3)] <|
  .pm .lset [(.v 4), (.v 3), (.tc (.pj (.v 8) 0) (.tc (.pj (.v 8) 1) (.tc (.pj (.v 8) 2) (.tc (.pj (.v 8) 3) .tn))))] <|
  .pm (.add .i64) [(.v 3), (.ki 1)] <|
  .out 2 [(.v 11), (.v 10)]) <|
 .out 1 [(.v 4)]
def l412_0 : A := .lp 2 [(.ki 0), (.v 2)] l412_0b
def a412 : A :=
 .pm .llen [(.v 0)] <|
 .pm (.lmk 32) [(.v 1), (.v 1), (.tc (.ki 0) (.tc (.kb false) (.tc (.kb false) (.tc (.ks []) .tn))))] <|
 l412_0
theorem c412 : compF B Tryz.f412 (look h412) [z347] [z191] = some a412 := by kernel_rfl
theorem k412 : callable Tryz.prog 412 = true := by kernel_rfl
theorem s412 {vs us : List V} (h : a412.wp Cl (ans us) vs) : Cl 412 vs us := cc_of tabOk mixed Tryz.func412 c412 rfl k412 h
-- 367 laws.toQueue
def h367 : List (Nat × Tm) := []
def a367 : A :=
 .cl 412 [(.pj (.v 0) 3)] 1 <|
 .out 1 [(.tc (.pj (.v 0) 0) (.tc (.pj (.v 0) 1) (.tc (.pj (.v 0) 2) (.tc (.v 1) (.tc (.pj (.v 0) 4) (.tc (.pj (.v 0) 5) (.tc (.pj (.v 0) 6) (.tc (.pj (.v 0) 7) (.tc (.pj (.v 0) 8) .tn)))))))))]
theorem c367 : compF B Tryz.f367 (look h367) [z349] [z193] = some a367 := by kernel_rfl
theorem k367 : callable Tryz.prog 367 = true := by kernel_rfl
theorem s367 {vs us : List V} (h : a367.wp Cl (ans us) vs) : Cl 367 vs us := cc_of tabOk mixed Tryz.func367 c367 rfl k367 h
-- 248 laws.toSeq
def h248 : List (Nat × Tm) := []
def a248 : A :=
 .cl 106 [(.pj (.v 0) 2)] 1 <|
 .cl 106 [(.pj (.v 0) 3)] 1 <|
 .out 1 [(.tc (.pj (.v 0) 0) (.tc (.pj (.v 0) 1) (.tc (.v 1) (.tc (.v 2) .tn))))]
theorem c248 : compF B Tryz.f248 (look h248) [z61] [z26] = some a248 := by kernel_rfl
theorem k248 : callable Tryz.prog 248 = true := by kernel_rfl
theorem s248 {vs us : List V} (h : a248.wp Cl (ans us) vs) : Cl 248 vs us := cc_of tabOk mixed Tryz.func248 c248 rfl k248 h
-- 368 laws.toAdmit
def h368 : List (Nat × Tm) := []
def a368 : A :=
 .cl 248 [(.tc (.pj (.v 0) 2) (.tc (.pj (.v 0) 3) (.tc (.pj (.v 0) 4) (.tc (.pj (.v 0) 5) .tn))))] 1 <|
 .cl 120 [(.tc (.pj (.v 0) 6) (.tc (.pj (.v 0) 7) (.tc (.pj (.v 0) 8) (.tc (.pj (.v 0) 9) .tn))))] 1 <|
 .out 1 [(.tc (.pj (.v 0) 0) (.tc (.pj (.v 0) 1) (.tc (.pj (.v 1) 0) (.tc (.pj (.v 1) 1) (.tc (.pj (.v 1) 2) (.tc (.pj (.v 1) 3) (.tc (.pj (.v 2) 0) (.tc (.pj (.v 2) 1) (.tc (.pj (.v 2) 2) (.tc (.pj (.v 2) 3) (.tc (.pj (.v 0) 10) (.tc (.pj (.v 0) 11) (.tc (.pj (.v 0) 12) .tn)))))))))))))]
theorem c368 : compF B Tryz.f368 (look h368) [z351] [z197] = some a368 := by kernel_rfl
theorem k368 : callable Tryz.prog 368 = true := by kernel_rfl
theorem s368 {vs us : List V} (h : a368.wp Cl (ans us) vs) : Cl 368 vs us := cc_of tabOk mixed Tryz.func368 c368 rfl k368 h
-- 269 laws.toInput
def h269 : List (Nat × Tm) := []
def a269 : A :=
 .cl 367 [(fieldsE 0 0 9)] 1 <|
 .cl 368 [(.tc (.pj (.v 0) 9) (.tc (.pj (.v 0) 10) (.tc (.pj (.v 0) 11) (.tc (.pj (.v 0) 12) (.tc (.pj (.v 0) 13) (.tc (.pj (.v 0) 14) (.tc (.pj (.v 0) 15) (.tc (.pj (.v 0) 16) (.tc (.pj (.v 0) 17) (.tc (.pj (.v 0) 18) (.tc (.pj (.v 0) 19) (.tc (.pj (.v 0) 20) (.tc (.pj (.v 0) 21) .tn)))))))))))))] 1 <|
 .out 1 [(.tc (.pj (.v 1) 0) (.tc (.pj (.v 1) 1) (.tc (.pj (.v 1) 2) (.tc (.pj (.v 1) 3) (.tc (.pj (.v 1) 4) (.tc (.pj (.v 1) 5) (.tc (.pj (.v 1) 6) (.tc (.pj (.v 1) 7) (.tc (.pj (.v 1) 8) (.tc (.pj (.v 2) 0) (.tc (.pj (.v 2) 1) (.tc (.pj (.v 2) 2) (.tc (.pj (.v 2) 3) (.tc (.pj (.v 2) 4) (.tc (.pj (.v 2) 5) (.tc (.pj (.v 2) 6) (.tc (.pj (.v 2) 7) (.tc (.pj (.v 2) 8) (.tc (.pj (.v 2) 9) (.tc (.pj (.v 2) 10) (.tc (.pj (.v 2) 11) (.tc (.pj (.v 2) 12) (.tc (.pj (.v 0) 22) (.tc (.pj (.v 0) 23) .tn))))))))))))))))))))))))]
theorem c269 : compF B Tryz.f269 (look h269) [z353] [z199] = some a269 := by kernel_rfl
theorem k269 : callable Tryz.prog 269 = true := by kernel_rfl
theorem s269 {vs us : List V} (h : a269.wp Cl (ans us) vs) : Cl 269 vs us := cc_of tabOk mixed Tryz.func269 c269 rfl k269 h
-- 122 laws.toInputS
def h122 : List (Nat × Tm) := [(11, ⟨[0], fun n i => [(3, (.cv (.own (i + 0)))), (4, (.cv (.sc (.int .i64) (.v (n + 0)))))], fun n i => [((i + 0), (.arr 1 (.cons .bool (.cons (.int .i64) (.cons (.int .i64) (.cons (.sl (.cons (.int .i64) (.cons .bool (.cons .bool (.cons .str .nil)))) 94) (.cons (.int .i64) (.cons (.int .i64) (.cons (.int .i64) (.cons (.int .i64) (.cons (.int .i64) (.cons .bool (.cons .bool (.cons (.int .i64) (.cons (.int .i64) (.cons (.sl (.int .i64) 3) (.cons (.sl (.int .i64) 3) (.cons (.int .i64) (.cons .bool (.cons .bool (.cons .bool (.cons (.int .i64) (.cons (.int .i64) (.cons (.int .i64) (.cons .bool (.cons (.int .i64) .nil)))))))))))))))))))))))) 199 (.v (n + 1))))], 2, 1⟩)]
def l122_0b : A :=
 .pm .llen [(.v 0)] <|
 .pm .lt [(.v 3), (.v 5)] <|
 .ite (.v 6) (
  .pm .lget [(.v 0), (.v 3)] <|
  .cl 269 [(fieldsE 7 0 24)] 1 <|
  .pm .lget [(.v 4), (.v 3)] <|
  .pm .lset [(.v 4), (.v 3), (fieldsE 8 0 24)] <|
  .pm (.add .i64) [(.v 3), (.ki 1)] <|
  .out 2 [(.v 11), (.v 10)]) <|
 .out 1 [(.v 4)]
def l122_0 : A := .lp 2 [(.ki 0), (.v 2)] l122_0b
def a122 : A :=
 .pm .llen [(.v 0)] <|
 .pm (.lmk 216) [(.v 1), (.v 1), (.tc (.kb false) (.tc (.ki 0) (.tc (.ki 0) (.tc .kl (.tc (.ki 0) (.tc (.ki 0) (.tc (.ki 0) (.tc (.ki 0) (.tc (.ki 0) (.tc (.kb false) (.tc (.kb false) (.tc (.ki 0) (.tc (.ki 0) (.tc .kl (.tc .kl (.tc (.ki 0) (.tc (.kb false) (.tc (.kb false) (.tc (.kb false) (.tc (.ki 0) (.tc (.ki 0) (.tc (.ki 0) (.tc (.kb false) (.tc (.ki 0) .tn))))))))))))))))))))))))] <|
 l122_0
theorem c122 : compF B Tryz.f122 (look h122) [z56] [z73] = some a122 := by kernel_rfl
theorem k122 : callable Tryz.prog 122 = true := by kernel_rfl
theorem s122 {vs us : List V} (h : a122.wp Cl (ans us) vs) : Cl 122 vs us := cc_of tabOk mixed Tryz.func122 c122 rfl k122 h
-- 31 laws.toMixer
def h31 : List (Nat × Tm) := []
def a31 : A :=
 .cl 120 [(.tc (.pj (.v 0) 0) (.tc (.pj (.v 0) 1) (.tc (.pj (.v 0) 2) (.tc (.pj (.v 0) 3) .tn))))] 1 <|
 .cl 121 [(.tc (.pj (.v 0) 8) (.tc (.pj (.v 0) 9) (.tc (.pj (.v 0) 10) .tn)))] 1 <|
 .cl 121 [(.tc (.pj (.v 0) 11) (.tc (.pj (.v 0) 12) (.tc (.pj (.v 0) 13) .tn)))] 1 <|
 .cl 122 [(.pj (.v 0) 17)] 1 <|
 .out 1 [(.tc (.pj (.v 1) 0) (.tc (.pj (.v 1) 1) (.tc (.pj (.v 1) 2) (.tc (.pj (.v 1) 3) (.tc (.pj (.v 0) 4) (.tc (.pj (.v 0) 5) (.tc (.pj (.v 0) 6) (.tc (.pj (.v 0) 7) (.tc (.pj (.v 2) 0) (.tc (.pj (.v 2) 1) (.tc (.pj (.v 2) 2) (.tc (.pj (.v 3) 0) (.tc (.pj (.v 3) 1) (.tc (.pj (.v 3) 2) (.tc (.pj (.v 0) 14) (.tc (.pj (.v 0) 15) (.tc (.pj (.v 0) 16) (.tc (.v 4) .tn))))))))))))))))))]
theorem c31 : compF B Tryz.f31 (look h31) [z58] [z75] = some a31 := by kernel_rfl
theorem k31 : callable Tryz.prog 31 = true := by kernel_rfl
theorem s31 {vs us : List V} (h : a31.wp Cl (ans us) vs) : Cl 31 vs us := cc_of tabOk mixed Tryz.func31 c31 rfl k31 h
-- 408 laws.toRate
def h408 : List (Nat × Tm) := []
def a408 : A :=
 .out 1 [(.tc (.pj (.v 0) 0) (.tc (.pj (.v 0) 1) (.tc (.pj (.v 0) 2) .tn)))]
theorem c408 : compF B Tryz.f408 (look h408) [z314] [z232] = some a408 := by kernel_rfl
theorem k408 : callable Tryz.prog 408 = true := by kernel_rfl
theorem s408 {vs us : List V} (h : a408.wp Cl (ans us) vs) : Cl 408 vs us := cc_of tabOk mixed Tryz.func408 c408 rfl k408 h
-- 249 laws.toPic
def h249 : List (Nat × Tm) := []
def a249 : A :=
 .out 1 [(.tc (.pj (.v 0) 0) (.tc (.pj (.v 0) 1) (.tc (.pj (.v 0) 2) .tn)))]
theorem c249 : compF B Tryz.f249 (look h249) [z62] [z37] = some a249 := by kernel_rfl
theorem k249 : callable Tryz.prog 249 = true := by kernel_rfl
theorem s249 {vs us : List V} (h : a249.wp Cl (ans us) vs) : Cl 249 vs us := cc_of tabOk mixed Tryz.func249 c249 rfl k249 h
-- 353 laws.toSource
def h353 : List (Nat × Tm) := []
def a353 : A :=
 .cl 248 [(.tc (.pj (.v 0) 0) (.tc (.pj (.v 0) 1) (.tc (.pj (.v 0) 2) (.tc (.pj (.v 0) 3) .tn))))] 1 <|
 .cl 120 [(.tc (.pj (.v 0) 4) (.tc (.pj (.v 0) 5) (.tc (.pj (.v 0) 6) (.tc (.pj (.v 0) 7) .tn))))] 1 <|
 .cl 408 [(.tc (.pj (.v 0) 8) (.tc (.pj (.v 0) 9) (.tc (.pj (.v 0) 10) .tn)))] 1 <|
 .cl 249 [(.tc (.pj (.v 0) 16) (.tc (.pj (.v 0) 17) (.tc (.pj (.v 0) 18) .tn)))] 1 <|
 .out 1 [(.tc (.pj (.v 1) 0) (.tc (.pj (.v 1) 1) (.tc (.pj (.v 1) 2) (.tc (.pj (.v 1) 3) (.tc (.pj (.v 2) 0) (.tc (.pj (.v 2) 1) (.tc (.pj (.v 2) 2) (.tc (.pj (.v 2) 3) (.tc (.pj (.v 3) 0) (.tc (.pj (.v 3) 1) (.tc (.pj (.v 3) 2) (.tc (.pj (.v 0) 11) (.tc (.pj (.v 0) 12) (.tc (.pj (.v 0) 13) (.tc (.pj (.v 0) 14) (.tc (.pj (.v 0) 15) (.tc (.pj (.v 4) 0) (.tc (.pj (.v 4) 1) (.tc (.pj (.v 4) 2) .tn)))))))))))))))))))]
theorem c353 : compF B Tryz.f353 (look h353) [z316] [z234] = some a353 := by kernel_rfl
theorem k353 : callable Tryz.prog 353 = true := by kernel_rfl
theorem s353 {vs us : List V} (h : a353.wp Cl (ans us) vs) : Cl 353 vs us := cc_of tabOk mixed Tryz.func353 c353 rfl k353 h
-- 246 laws.toCam
def h246 : List (Nat × Tm) := []
def a246 : A :=
 .cl 353 [(fieldsE 0 0 19)] 1 <|
 .out 1 [(.tc (.pj (.v 1) 0) (.tc (.pj (.v 1) 1) (.tc (.pj (.v 1) 2) (.tc (.pj (.v 1) 3) (.tc (.pj (.v 1) 4) (.tc (.pj (.v 1) 5) (.tc (.pj (.v 1) 6) (.tc (.pj (.v 1) 7) (.tc (.pj (.v 1) 8) (.tc (.pj (.v 1) 9) (.tc (.pj (.v 1) 10) (.tc (.pj (.v 1) 11) (.tc (.pj (.v 1) 12) (.tc (.pj (.v 1) 13) (.tc (.pj (.v 1) 14) (.tc (.pj (.v 1) 15) (.tc (.pj (.v 1) 16) (.tc (.pj (.v 1) 17) (.tc (.pj (.v 1) 18) (.tc (.pj (.v 0) 19) (.tc (.pj (.v 0) 20) .tn)))))))))))))))))))))]
theorem c246 : compF B Tryz.f246 (look h246) [z318] [z236] = some a246 := by kernel_rfl
theorem k246 : callable Tryz.prog 246 = true := by kernel_rfl
theorem s246 {vs us : List V} (h : a246.wp Cl (ans us) vs) : Cl 246 vs us := cc_of tabOk mixed Tryz.func246 c246 rfl k246 h
-- 100 laws.toCamS
def h100 : List (Nat × Tm) := [(11, ⟨[0], fun n i => [(3, (.cv (.own (i + 0)))), (4, (.cv (.sc (.int .i64) (.v (n + 0)))))], fun n i => [((i + 0), (.arr 1 (.cons (.int .i64) (.cons (.int .i64) (.cons (.sl (.int .i64) 3) (.cons (.sl (.int .i64) 3) (.cons (.int .i64) (.cons .bool (.cons .bool (.cons .bool (.cons (.int .i64) (.cons (.int .i64) (.cons (.int .i64) (.cons (.int .i64) (.cons (.int .i64) (.cons (.int .i64) (.cons (.int .i64) (.cons .bool (.cons (.int .i64) (.cons (.int .i64) (.cons .str (.cons (.int .i64) (.cons (.int .i64) .nil))))))))))))))))))))) 236 (.v (n + 1))))], 2, 1⟩)]
def l100_0b : A :=
 .pm .llen [(.v 0)] <|
 .pm .lt [(.v 3), (.v 5)] <|
 .ite (.v 6) (
  .pm .lget [(.v 0), (.v 3)] <|
  .cl 246 [(fieldsE 7 0 21)] 1 <|
  .pm .lget [(.v 4), (.v 3)] <|
  .pm .lset [(.v 4), (.v 3), (fieldsE 8 0 21)] <|
  .pm (.add .i64) [(.v 3), (.ki 1)] <|
  .out 2 [(.v 11), (.v 10)]) <|
 .out 1 [(.v 4)]
def l100_0 : A := .lp 2 [(.ki 0), (.v 2)] l100_0b
def a100 : A :=
 .pm .llen [(.v 0)] <|
 .pm (.lmk 192) [(.v 1), (.v 1), (.tc (.ki 0) (.tc (.ki 0) (.tc .kl (.tc .kl (.tc (.ki 0) (.tc (.kb false) (.tc (.kb false) (.tc (.kb false) (.tc (.ki 0) (.tc (.ki 0) (.tc (.ki 0) (.tc (.ki 0) (.tc (.ki 0) (.tc (.ki 0) (.tc (.ki 0) (.tc (.kb false) (.tc (.ki 0) (.tc (.ki 0) (.tc (.ks []) (.tc (.ki 0) (.tc (.ki 0) .tn)))))))))))))))))))))] <|
 l100_0
theorem c100 : compF B Tryz.f100 (look h100) [z59] [z76] = some a100 := by kernel_rfl
theorem k100 : callable Tryz.prog 100 = true := by kernel_rfl
theorem s100 {vs us : List V} (h : a100.wp Cl (ans us) vs) : Cl 100 vs us := cc_of tabOk mixed Tryz.func100 c100 rfl k100 h
-- 247 laws.toFly
def h247 : List (Nat × Tm) := []
def a247 : A :=
 .cl 32 [(.tc (.pj (.v 0) 1) (.tc (.pj (.v 0) 2) (.tc (.pj (.v 0) 3) (.tc (.pj (.v 0) 4) .tn))))] 1 <|
 .out 1 [(.tc (.pj (.v 0) 0) (.tc (.pj (.v 1) 0) (.tc (.pj (.v 1) 1) (.tc (.pj (.v 1) 2) (.tc (.pj (.v 1) 3) .tn)))))]
theorem c247 : compF B Tryz.f247 (look h247) [z321] [z336] = some a247 := by kernel_rfl
theorem k247 : callable Tryz.prog 247 = true := by kernel_rfl
theorem s247 {vs us : List V} (h : a247.wp Cl (ans us) vs) : Cl 247 vs us := cc_of tabOk mixed Tryz.func247 c247 rfl k247 h
-- 101 laws.toFlyS
def h101 : List (Nat × Tm) := [(11, ⟨[0], fun n i => [(3, (.cv (.own (i + 0)))), (4, (.cv (.sc (.int .i64) (.v (n + 0)))))], fun n i => [((i + 0), (.arr 1 (.cons (.int .i64) (.cons (.int .i64) (.cons .bool (.cons .bool (.cons .str .nil))))) 336 (.v (n + 1))))], 2, 1⟩)]
def l101_0b : A :=
 .pm .llen [(.v 0)] <|
 .pm .lt [(.v 3), (.v 5)] <|
 .ite (.v 6) (
  .pm .lget [(.v 0), (.v 3)] <|
  .cl 247 [(.tc (.pj (.v 7) 0) (.tc (.pj (.v 7) 1) (.tc (.pj (.v 7) 2) (.tc (.pj (.v 7) 3) (.tc (.pj (.v 7) 4) .tn)))))] 1 <|
  .pm .lget [(.v 4), (.v 3)] <|
  .pm .lset [(.v 4), (.v 3), (.tc (.pj (.v 8) 0) (.tc (.pj (.v 8) 1) (.tc (.pj (.v 8) 2) (.tc (.pj (.v 8) 3) (.tc (.pj (.v 8) 4) .tn)))))] <|
  .pm (.add .i64) [(.v 3), (.ki 1)] <|
  .out 2 [(.v 11), (.v 10)]) <|
 .out 1 [(.v 4)]
def l101_0 : A := .lp 2 [(.ki 0), (.v 2)] l101_0b
def a101 : A :=
 .pm .llen [(.v 0)] <|
 .pm (.lmk 40) [(.v 1), (.v 1), (.tc (.ki 0) (.tc (.ki 0) (.tc (.kb false) (.tc (.kb false) (.tc (.ks []) .tn)))))] <|
 l101_0
theorem c101 : compF B Tryz.f101 (look h101) [z60] [z77] = some a101 := by kernel_rfl
theorem k101 : callable Tryz.prog 101 = true := by kernel_rfl
theorem s101 {vs us : List V} (h : a101.wp Cl (ans us) vs) : Cl 101 vs us := cc_of tabOk mixed Tryz.func101 c101 rfl k101 h
-- 102 laws.toDecoder
def h102 : List (Nat × Tm) := []
def a102 : A :=
 .cl 248 [(.tc (.pj (.v 0) 3) (.tc (.pj (.v 0) 4) (.tc (.pj (.v 0) 5) (.tc (.pj (.v 0) 6) .tn))))] 1 <|
 .cl 120 [(.tc (.pj (.v 0) 7) (.tc (.pj (.v 0) 8) (.tc (.pj (.v 0) 9) (.tc (.pj (.v 0) 10) .tn))))] 1 <|
 .cl 249 [(.tc (.pj (.v 0) 13) (.tc (.pj (.v 0) 14) (.tc (.pj (.v 0) 15) .tn)))] 1 <|
 .cl 249 [(.tc (.pj (.v 0) 16) (.tc (.pj (.v 0) 17) (.tc (.pj (.v 0) 18) .tn)))] 1 <|
 .out 1 [(.tc (.pj (.v 0) 0) (.tc (.pj (.v 0) 1) (.tc (.pj (.v 0) 2) (.tc (.pj (.v 1) 0) (.tc (.pj (.v 1) 1) (.tc (.pj (.v 1) 2) (.tc (.pj (.v 1) 3) (.tc (.pj (.v 2) 0) (.tc (.pj (.v 2) 1) (.tc (.pj (.v 2) 2) (.tc (.pj (.v 2) 3) (.tc (.pj (.v 0) 11) (.tc (.pj (.v 0) 12) (.tc (.pj (.v 3) 0) (.tc (.pj (.v 3) 1) (.tc (.pj (.v 3) 2) (.tc (.pj (.v 4) 0) (.tc (.pj (.v 4) 1) (.tc (.pj (.v 4) 2) .tn)))))))))))))))))))]
theorem c102 : compF B Tryz.f102 (look h102) [z64] [z39] = some a102 := by kernel_rfl
theorem k102 : callable Tryz.prog 102 = true := by kernel_rfl
theorem s102 {vs us : List V} (h : a102.wp Cl (ans us) vs) : Cl 102 vs us := cc_of tabOk mixed Tryz.func102 c102 rfl k102 h
-- 103 laws.toDecoderS
def h103 : List (Nat × Tm) := [(11, ⟨[0], fun n i => [(3, (.cv (.own (i + 0)))), (4, (.cv (.sc (.int .i64) (.v (n + 0)))))], fun n i => [((i + 0), (.arr 1 (.cons .bool (.cons .bool (.cons .bool (.cons (.int .i64) (.cons (.int .i64) (.cons (.sl (.int .i64) 3) (.cons (.sl (.int .i64) 3) (.cons (.int .i64) (.cons .bool (.cons .bool (.cons .bool (.cons (.int .i64) (.cons (.int .i64) (.cons (.int .i64) (.cons (.int .i64) (.cons .str (.cons (.int .i64) (.cons (.int .i64) (.cons .str .nil))))))))))))))))))) 39 (.v (n + 1))))], 2, 1⟩)]
def l103_0b : A :=
 .pm .llen [(.v 0)] <|
 .pm .lt [(.v 3), (.v 5)] <|
 .ite (.v 6) (
  .pm .lget [(.v 0), (.v 3)] <|
  .cl 102 [(fieldsE 7 0 19)] 1 <|
  .pm .lget [(.v 4), (.v 3)] <|
  .pm .lset [(.v 4), (.v 3), (fieldsE 8 0 19)] <|
  .pm (.add .i64) [(.v 3), (.ki 1)] <|
  .out 2 [(.v 11), (.v 10)]) <|
 .out 1 [(.v 4)]
def l103_0 : A := .lp 2 [(.ki 0), (.v 2)] l103_0b
def a103 : A :=
 .pm .llen [(.v 0)] <|
 .pm (.lmk 168) [(.v 1), (.v 1), (.tc (.kb false) (.tc (.kb false) (.tc (.kb false) (.tc (.ki 0) (.tc (.ki 0) (.tc .kl (.tc .kl (.tc (.ki 0) (.tc (.kb false) (.tc (.kb false) (.tc (.kb false) (.tc (.ki 0) (.tc (.ki 0) (.tc (.ki 0) (.tc (.ki 0) (.tc (.ks []) (.tc (.ki 0) (.tc (.ki 0) (.tc (.ks []) .tn)))))))))))))))))))] <|
 l103_0
theorem c103 : compF B Tryz.f103 (look h103) [z65] [z78] = some a103 := by kernel_rfl
theorem k103 : callable Tryz.prog 103 = true := by kernel_rfl
theorem s103 {vs us : List V} (h : a103.wp Cl (ans us) vs) : Cl 103 vs us := cc_of tabOk mixed Tryz.func103 c103 rfl k103 h
-- 354 laws.toPart
def h354 : List (Nat × Tm) := []
def a354 : A :=
 .out 1 [(.tc (.pj (.v 0) 0) (.tc (.pj (.v 0) 1) (.tc (.pj (.v 0) 2) .tn)))]
theorem c354 : compF B Tryz.f354 (look h354) [z325] [z51] = some a354 := by kernel_rfl
theorem k354 : callable Tryz.prog 354 = true := by kernel_rfl
theorem s354 {vs us : List V} (h : a354.wp Cl (ans us) vs) : Cl 354 vs us := cc_of tabOk mixed Tryz.func354 c354 rfl k354 h
-- 250 laws.toSight
def h250 : List (Nat × Tm) := []
def a250 : A :=
 .cl 354 [(.tc (.pj (.v 0) 2) (.tc (.pj (.v 0) 3) (.tc (.pj (.v 0) 4) .tn)))] 1 <|
 .cl 249 [(.tc (.pj (.v 0) 5) (.tc (.pj (.v 0) 6) (.tc (.pj (.v 0) 7) .tn)))] 1 <|
 .out 1 [(.tc (.pj (.v 0) 0) (.tc (.pj (.v 0) 1) (.tc (.pj (.v 1) 0) (.tc (.pj (.v 1) 1) (.tc (.pj (.v 1) 2) (.tc (.pj (.v 2) 0) (.tc (.pj (.v 2) 1) (.tc (.pj (.v 2) 2) .tn))))))))]
theorem c250 : compF B Tryz.f250 (look h250) [z327] [z211] = some a250 := by kernel_rfl
theorem k250 : callable Tryz.prog 250 = true := by kernel_rfl
theorem s250 {vs us : List V} (h : a250.wp Cl (ans us) vs) : Cl 250 vs us := cc_of tabOk mixed Tryz.func250 c250 rfl k250 h
-- 104 laws.toSightS
def h104 : List (Nat × Tm) := [(11, ⟨[0], fun n i => [(3, (.cv (.own (i + 0)))), (4, (.cv (.sc (.int .i64) (.v (n + 0)))))], fun n i => [((i + 0), (.arr 1 (.cons (.int .i64) (.cons (.int .i64) (.cons .bool (.cons (.int .i64) (.cons .str (.cons (.int .i64) (.cons (.int .i64) (.cons .str .nil)))))))) 211 (.v (n + 1))))], 2, 1⟩)]
def l104_0b : A :=
 .pm .llen [(.v 0)] <|
 .pm .lt [(.v 3), (.v 5)] <|
 .ite (.v 6) (
  .pm .lget [(.v 0), (.v 3)] <|
  .cl 250 [(.tc (.pj (.v 7) 0) (.tc (.pj (.v 7) 1) (.tc (.pj (.v 7) 2) (.tc (.pj (.v 7) 3) (.tc (.pj (.v 7) 4) (.tc (.pj (.v 7) 5) (.tc (.pj (.v 7) 6) (.tc (.pj (.v 7) 7) .tn))))))))] 1 <|
  .pm .lget [(.v 4), (.v 3)] <|
  .pm .lset [(.v 4), (.v 3), (.tc (.pj (.v 8) 0) (.tc (.pj (.v 8) 1) (.tc (.pj (.v 8) 2) (.tc (.pj (.v 8) 3) (.tc (.pj (.v 8) 4) (.tc (.pj (.v 8) 5) (.tc (.pj (.v 8) 6) (.tc (.pj (.v 8) 7) .tn))))))))] <|
  .pm (.add .i64) [(.v 3), (.ki 1)] <|
  .out 2 [(.v 11), (.v 10)]) <|
 .out 1 [(.v 4)]
def l104_0 : A := .lp 2 [(.ki 0), (.v 2)] l104_0b
def a104 : A :=
 .pm .llen [(.v 0)] <|
 .pm (.lmk 80) [(.v 1), (.v 1), (.tc (.ki 0) (.tc (.ki 0) (.tc (.kb false) (.tc (.ki 0) (.tc (.ks []) (.tc (.ki 0) (.tc (.ki 0) (.tc (.ks []) .tn))))))))] <|
 l104_0
theorem c104 : compF B Tryz.f104 (look h104) [z66] [z79] = some a104 := by kernel_rfl
theorem k104 : callable Tryz.prog 104 = true := by kernel_rfl
theorem s104 {vs us : List V} (h : a104.wp Cl (ans us) vs) : Cl 104 vs us := cc_of tabOk mixed Tryz.func104 c104 rfl k104 h
-- 409 laws.toTell
def h409 : List (Nat × Tm) := []
def a409 : A :=
 .out 1 [(.tc (.pj (.v 0) 0) (.tc (.pj (.v 0) 1) (.tc (.pj (.v 0) 2) .tn)))]
theorem c409 : compF B Tryz.f409 (look h409) [z453] [z209] = some a409 := by kernel_rfl
theorem k409 : callable Tryz.prog 409 = true := by kernel_rfl
theorem s409 {vs us : List V} (h : a409.wp Cl (ans us) vs) : Cl 409 vs us := cc_of tabOk mixed Tryz.func409 c409 rfl k409 h
-- 355 laws.toTellS
def h355 : List (Nat × Tm) := [(11, ⟨[0], fun n i => [(3, (.cv (.own (i + 0)))), (4, (.cv (.sc (.int .i64) (.v (n + 0)))))], fun n i => [((i + 0), (.arr 1 (.cons (.int .i64) (.cons (.int .i64) (.cons (.int .i64) .nil))) 209 (.v (n + 1))))], 2, 1⟩)]
def l355_0b : A :=
 .pm .llen [(.v 0)] <|
 .pm .lt [(.v 3), (.v 5)] <|
 .ite (.v 6) (
  .pm .lget [(.v 0), (.v 3)] <|
  .cl 409 [(.tc (.pj (.v 7) 0) (.tc (.pj (.v 7) 1) (.tc (.pj (.v 7) 2) .tn)))] 1 <|
  .pm .lget [(.v 4), (.v 3)] <|
  .pm .lset [(.v 4), (.v 3), (.tc (.pj (.v 8) 0) (.tc (.pj (.v 8) 1) (.tc (.pj (.v 8) 2) .tn)))] <|
  .pm (.add .i64) [(.v 3), (.ki 1)] <|
  .out 2 [(.v 11), (.v 10)]) <|
 .out 1 [(.v 4)]
def l355_0 : A := .lp 2 [(.ki 0), (.v 2)] l355_0b
def a355 : A :=
 .pm .llen [(.v 0)] <|
 .pm (.lmk 24) [(.v 1), (.v 1), (.tc (.ki 0) (.tc (.ki 0) (.tc (.ki 0) .tn)))] <|
 l355_0
theorem c355 : compF B Tryz.f355 (look h355) [z329] [z123] = some a355 := by kernel_rfl
theorem k355 : callable Tryz.prog 355 = true := by kernel_rfl
theorem s355 {vs us : List V} (h : a355.wp Cl (ans us) vs) : Cl 355 vs us := cc_of tabOk mixed Tryz.func355 c355 rfl k355 h
-- 356 laws.toStringS
def h356 : List (Nat × Tm) := [(11, ⟨[0], fun n i => [(3, (.cv (.own (i + 0)))), (4, (.cv (.sc (.int .i64) (.v (n + 0)))))], fun n i => [((i + 0), (.arr 1 .str 9 (.v (n + 1))))], 2, 1⟩)]
def l356_0b : A :=
 .pm .llen [(.v 0)] <|
 .pm .lt [(.v 3), (.v 5)] <|
 .ite (.v 6) (
  .pm .lget [(.v 0), (.v 3)] <|
  .pm .lget [(.v 4), (.v 3)] <|
  .pm .lset [(.v 4), (.v 3), (.v 7)] <|
  .pm (.add .i64) [(.v 3), (.ki 1)] <|
  .out 2 [(.v 10), (.v 9)]) <|
 .out 1 [(.v 4)]
def l356_0 : A := .lp 2 [(.ki 0), (.v 2)] l356_0b
def a356 : A :=
 .pm .llen [(.v 0)] <|
 .pm (.lmk 16) [(.v 1), (.v 1), (.ks [])] <|
 l356_0
theorem c356 : compF B Tryz.f356 (look h356) [z32] [z32] = some a356 := by kernel_rfl
theorem k356 : callable Tryz.prog 356 = true := by kernel_rfl
theorem s356 {vs us : List V} (h : a356.wp Cl (ans us) vs) : Cl 356 vs us := cc_of tabOk mixed Tryz.func356 c356 rfl k356 h
-- 357 laws.toPicS
def h357 : List (Nat × Tm) := [(11, ⟨[0], fun n i => [(3, (.cv (.own (i + 0)))), (4, (.cv (.sc (.int .i64) (.v (n + 0)))))], fun n i => [((i + 0), (.arr 1 (.cons (.int .i64) (.cons (.int .i64) (.cons .str .nil))) 37 (.v (n + 1))))], 2, 1⟩)]
def l357_0b : A :=
 .pm .llen [(.v 0)] <|
 .pm .lt [(.v 3), (.v 5)] <|
 .ite (.v 6) (
  .pm .lget [(.v 0), (.v 3)] <|
  .cl 249 [(.tc (.pj (.v 7) 0) (.tc (.pj (.v 7) 1) (.tc (.pj (.v 7) 2) .tn)))] 1 <|
  .pm .lget [(.v 4), (.v 3)] <|
  .pm .lset [(.v 4), (.v 3), (.tc (.pj (.v 8) 0) (.tc (.pj (.v 8) 1) (.tc (.pj (.v 8) 2) .tn)))] <|
  .pm (.add .i64) [(.v 3), (.ki 1)] <|
  .out 2 [(.v 11), (.v 10)]) <|
 .out 1 [(.v 4)]
def l357_0 : A := .lp 2 [(.ki 0), (.v 2)] l357_0b
def a357 : A :=
 .pm .llen [(.v 0)] <|
 .pm (.lmk 32) [(.v 1), (.v 1), (.tc (.ki 0) (.tc (.ki 0) (.tc (.ks []) .tn)))] <|
 l357_0
theorem c357 : compF B Tryz.f357 (look h357) [z330] [z40] = some a357 := by kernel_rfl
theorem k357 : callable Tryz.prog 357 = true := by kernel_rfl
theorem s357 {vs us : List V} (h : a357.wp Cl (ans us) vs) : Cl 357 vs us := cc_of tabOk mixed Tryz.func357 c357 rfl k357 h
-- 251 laws.toLook
def h251 : List (Nat × Tm) := []
def a251 : A :=
 .cl 248 [(.tc (.pj (.v 0) 0) (.tc (.pj (.v 0) 1) (.tc (.pj (.v 0) 2) (.tc (.pj (.v 0) 3) .tn))))] 1 <|
 .cl 355 [(.pj (.v 0) 4)] 1 <|
 .cl 356 [(.pj (.v 0) 5)] 1 <|
 .cl 106 [(.pj (.v 0) 6)] 1 <|
 .cl 357 [(.pj (.v 0) 7)] 1 <|
 .out 1 [(.tc (.pj (.v 1) 0) (.tc (.pj (.v 1) 1) (.tc (.pj (.v 1) 2) (.tc (.pj (.v 1) 3) (.tc (.v 2) (.tc (.v 3) (.tc (.v 4) (.tc (.v 5) .tn))))))))]
theorem c251 : compF B Tryz.f251 (look h251) [z332] [z172] = some a251 := by kernel_rfl
theorem k251 : callable Tryz.prog 251 = true := by kernel_rfl
theorem s251 {vs us : List V} (h : a251.wp Cl (ans us) vs) : Cl 251 vs us := cc_of tabOk mixed Tryz.func251 c251 rfl k251 h
-- 105 laws.toLookS
def h105 : List (Nat × Tm) := [(11, ⟨[0], fun n i => [(3, (.cv (.own (i + 0)))), (4, (.cv (.sc (.int .i64) (.v (n + 0)))))], fun n i => [((i + 0), (.arr 1 (.cons (.int .i64) (.cons (.int .i64) (.cons (.sl (.int .i64) 3) (.cons (.sl (.int .i64) 3) (.cons (.sl (.cons (.int .i64) (.cons (.int .i64) (.cons (.int .i64) .nil))) 209) (.cons (.sl .str 9) (.cons (.sl (.int .i64) 3) (.cons (.sl (.cons (.int .i64) (.cons (.int .i64) (.cons .str .nil))) 37) .nil)))))))) 172 (.v (n + 1))))], 2, 1⟩)]
def l105_0b : A :=
 .pm .llen [(.v 0)] <|
 .pm .lt [(.v 3), (.v 5)] <|
 .ite (.v 6) (
  .pm .lget [(.v 0), (.v 3)] <|
  .cl 251 [(.tc (.pj (.v 7) 0) (.tc (.pj (.v 7) 1) (.tc (.pj (.v 7) 2) (.tc (.pj (.v 7) 3) (.tc (.pj (.v 7) 4) (.tc (.pj (.v 7) 5) (.tc (.pj (.v 7) 6) (.tc (.pj (.v 7) 7) .tn))))))))] 1 <|
  .pm .lget [(.v 4), (.v 3)] <|
  .pm .lset [(.v 4), (.v 3), (.tc (.pj (.v 8) 0) (.tc (.pj (.v 8) 1) (.tc (.pj (.v 8) 2) (.tc (.pj (.v 8) 3) (.tc (.pj (.v 8) 4) (.tc (.pj (.v 8) 5) (.tc (.pj (.v 8) 6) (.tc (.pj (.v 8) 7) .tn))))))))] <|
  .pm (.add .i64) [(.v 3), (.ki 1)] <|
  .out 2 [(.v 11), (.v 10)]) <|
 .out 1 [(.v 4)]
def l105_0 : A := .lp 2 [(.ki 0), (.v 2)] l105_0b
def a105 : A :=
 .pm .llen [(.v 0)] <|
 .pm (.lmk 160) [(.v 1), (.v 1), (.tc (.ki 0) (.tc (.ki 0) (.tc .kl (.tc .kl (.tc .kl (.tc .kl (.tc .kl (.tc .kl .tn))))))))] <|
 l105_0
theorem c105 : compF B Tryz.f105 (look h105) [z67] [z80] = some a105 := by kernel_rfl
theorem k105 : callable Tryz.prog 105 = true := by kernel_rfl
theorem s105 {vs us : List V} (h : a105.wp Cl (ans us) vs) : Cl 105 vs us := cc_of tabOk mixed Tryz.func105 c105 rfl k105 h
-- 24 laws.toWorld
def h24 : List (Nat × Tm) := []
def a24 : A :=
 .cl 31 [(fieldsE 0 0 18)] 1 <|
 .cl 100 [(.pj (.v 0) 18)] 1 <|
 .cl 101 [(.pj (.v 0) 19)] 1 <|
 .cl 102 [(.tc (.pj (.v 0) 20) (.tc (.pj (.v 0) 21) (.tc (.pj (.v 0) 22) (.tc (.pj (.v 0) 23) (.tc (.pj (.v 0) 24) (.tc (.pj (.v 0) 25) (.tc (.pj (.v 0) 26) (.tc (.pj (.v 0) 27) (.tc (.pj (.v 0) 28) (.tc (.pj (.v 0) 29) (.tc (.pj (.v 0) 30) (.tc (.pj (.v 0) 31) (.tc (.pj (.v 0) 32) (.tc (.pj (.v 0) 33) (.tc (.pj (.v 0) 34) (.tc (.pj (.v 0) 35) (.tc (.pj (.v 0) 36) (.tc (.pj (.v 0) 37) (.tc (.pj (.v 0) 38) .tn)))))))))))))))))))] 1 <|
 .cl 103 [(.pj (.v 0) 39)] 1 <|
 .cl 104 [(.pj (.v 0) 40)] 1 <|
 .cl 105 [(.pj (.v 0) 41)] 1 <|
 .cl 106 [(.pj (.v 0) 42)] 1 <|
 .out 1 [(.tc (.pj (.v 1) 0) (.tc (.pj (.v 1) 1) (.tc (.pj (.v 1) 2) (.tc (.pj (.v 1) 3) (.tc (.pj (.v 1) 4) (.tc (.pj (.v 1) 5) (.tc (.pj (.v 1) 6) (.tc (.pj (.v 1) 7) (.tc (.pj (.v 1) 8) (.tc (.pj (.v 1) 9) (.tc (.pj (.v 1) 10) (.tc (.pj (.v 1) 11) (.tc (.pj (.v 1) 12) (.tc (.pj (.v 1) 13) (.tc (.pj (.v 1) 14) (.tc (.pj (.v 1) 15) (.tc (.pj (.v 1) 16) (.tc (.pj (.v 1) 17) (.tc (.v 2) (.tc (.v 3) (.tc (.pj (.v 4) 0) (.tc (.pj (.v 4) 1) (.tc (.pj (.v 4) 2) (.tc (.pj (.v 4) 3) (.tc (.pj (.v 4) 4) (.tc (.pj (.v 4) 5) (.tc (.pj (.v 4) 6) (.tc (.pj (.v 4) 7) (.tc (.pj (.v 4) 8) (.tc (.pj (.v 4) 9) (.tc (.pj (.v 4) 10) (.tc (.pj (.v 4) 11) (.tc (.pj (.v 4) 12) (.tc (.pj (.v 4) 13) (.tc (.pj (.v 4) 14) (.tc (.pj (.v 4) 15) (.tc (.pj (.v 4) 16) (.tc (.pj (.v 4) 17) (.tc (.pj (.v 4) 18) (.tc (.v 5) (.tc (.v 6) (.tc (.v 7) (.tc (.v 8) .tn)))))))))))))))))))))))))))))))))))))))))))]
theorem c24 : compF B Tryz.f24 (look h24) [z69] [z82] = some a24 := by kernel_rfl
theorem k24 : callable Tryz.prog 24 = true := by kernel_rfl
theorem s24 {vs us : List V} (h : a24.wp Cl (ans us) vs) : Cl 24 vs us := cc_of tabOk mixed Tryz.func24 c24 rfl k24 h
-- 118 spec.l01In
def h118 : List (Nat × Tm) := []
def a118 : A :=
 .pm .ge [(.v 0), (.v 1)] <|
 .ite (.v 3) (
  .pm .le [(.v 0), (.v 2)] <|
  .out 1 [(.v 4)]) <|
 .out 1 [(.kb false)]
theorem c118 : compF B Tryz.f118 (look h118) [z3, z3, z3] [z4] = some a118 := by kernel_rfl
theorem k118 : callable Tryz.prog 118 = true := by kernel_rfl
theorem s118 {vs us : List V} (h : a118.wp Cl (ans us) vs) : Cl 118 vs us := cc_of tabOk mixed Tryz.func118 c118 rfl k118 h
-- 322 spec.l05Sum
def h322 : List (Nat × Tm) := [(6, ⟨[0], fun n _ => [(12, (.cv (.sc .bool (.v (n + 0)))))], fun _ _ => [], 1, 0⟩), (17, ⟨[0], fun n _ => [(3, (.cv (.sc (.int .i64) (.v (n + 0))))), (4, (.cv (.sc (.int .i64) (.v (n + 1)))))], fun _ _ => [], 2, 0⟩)]
def l322_0b : A :=
 .pm .llen [(.v 0)] <|
 .pm .lt [(.v 3), (.v 4)] <|
 .ite (.v 5) (
  .pm .lget [(.v 0), (.v 3)] <|
  .cl 118 [(.v 6), (.ki 1), (.ki 8)] 1 <|
  .pm .not [(.v 7)] <|
  .ite (.v 8) (
   .out 1 [(.ki 0)]) <|
  .pm .lget [(.v 0), (.v 3)] <|
  .pm (.add .i64) [(.v 2), (.v 9)] <|
  .pm (.add .i64) [(.v 3), (.ki 1)] <|
  .out 2 [(.v 10), (.v 11)]) <|
 .out 1 [(.v 2)]
def l322_0 : A := .lp 2 [(.ki 0), (.ki 0)] l322_0b
def a322 : A :=
 .jn 2 (
  .pm .llen [(.v 0)] <|
  .pm .lt [(.v 1), (.ki 1)] <|
  .ite (.v 2) (
   .out 2 [(.kb true)]) <|
  .pm .llen [(.v 0)] <|
  .pm .gt [(.v 3), (.ki 4)] <|
  .out 2 [(.v 4)]) <|
 .ite (.v 1) (
  .out 1 [(.ki 0)]) <|
 l322_0
theorem c322 : compF B Tryz.f322 (look h322) [z24] [z3] = some a322 := by kernel_rfl
theorem k322 : callable Tryz.prog 322 = true := by kernel_rfl
theorem s322 {vs us : List V} (h : a322.wp Cl (ans us) vs) : Cl 322 vs us := cc_of tabOk mixed Tryz.func322 c322 rfl k322 h
-- 213 spec.SquaresOf
def h213 : List (Nat × Tm) := []
def a213 : A :=
 .cl 322 [(.pj (.v 0) 2)] 1 <|
 .cl 322 [(.pj (.v 0) 3)] 1 <|
 .pm (.mul .i64) [(.v 1), (.v 2)] <|
 .out 1 [(.v 3)]
theorem c213 : compF B Tryz.f213 (look h213) [z26] [z3] = some a213 := by kernel_rfl
theorem k213 : callable Tryz.prog 213 = true := by kernel_rfl
theorem s213 {vs us : List V} (h : a213.wp Cl (ans us) vs) : Cl 213 vs us := cc_of tabOk mixed Tryz.func213 c213 rfl k213 h
-- 286 spec.LevelSquares
def h286 : List (Nat × Tm) := []
def a286 : A :=
 .pm .eq [(.v 0), (.ki 1)] <|
 .ite (.v 1) (
  .out 1 [(.ki 16)]) <|
 .pm .eq [(.v 0), (.ki 2)] <|
 .ite (.v 2) (
  .out 1 [(.ki 64)]) <|
 .pm .eq [(.v 0), (.ki 3)] <|
 .ite (.v 3) (
  .out 1 [(.ki 256)]) <|
 .out 1 [(.ki 0)]
theorem c286 : compF B Tryz.f286 (look h286) [z3] [z3] = some a286 := by kernel_rfl
theorem k286 : callable Tryz.prog 286 = true := by kernel_rfl
theorem s286 {vs us : List V} (h : a286.wp Cl (ans us) vs) : Cl 286 vs us := cc_of tabOk mixed Tryz.func286 c286 rfl k286 h
-- 138 spec.SeqOk
def h138 : List (Nat × Tm) := []
def a138 : A :=
 .cl 213 [(.tc (.pj (.v 0) 0) (.tc (.pj (.v 0) 1) (.tc (.pj (.v 0) 2) (.tc (.pj (.v 0) 3) .tn))))] 1 <|
 .cl 286 [(.pj (.v 0) 0)] 1 <|
 .cl 118 [(.v 1), (.ki 1), (.v 2)] 1 <|
 .ite (.v 3) (
  .cl 118 [(.pj (.v 0) 1), (.ki 3), (.ki 8)] 1 <|
  .out 1 [(.v 4)]) <|
 .out 1 [(.kb false)]
theorem c138 : compF B Tryz.f138 (look h138) [z26] [z4] = some a138 := by kernel_rfl
theorem k138 : callable Tryz.prog 138 = true := by kernel_rfl
theorem s138 {vs us : List V} (h : a138.wp Cl (ans us) vs) : Cl 138 vs us := cc_of tabOk mixed Tryz.func138 c138 rfl k138 h
-- 140 spec.TilesOf
def h140 : List (Nat × Tm) := []
def a140 : A :=
 .cl 138 [(.tc (.pj (.v 0) 0) (.tc (.pj (.v 0) 1) (.tc (.pj (.v 0) 2) (.tc (.pj (.v 0) 3) .tn))))] 1 <|
 .pm .not [(.v 1)] <|
 .ite (.v 2) (
  .out 1 [(.ki 0)]) <|
 .pm .llen [(.pj (.v 0) 2)] <|
 .pm .llen [(.pj (.v 0) 3)] <|
 .pm (.mul .i64) [(.v 3), (.v 4)] <|
 .out 1 [(.v 5)]
theorem c140 : compF B Tryz.f140 (look h140) [z26] [z3] = some a140 := by kernel_rfl
theorem k140 : callable Tryz.prog 140 = true := by kernel_rfl
theorem s140 {vs us : List V} (h : a140.wp Cl (ans us) vs) : Cl 140 vs us := cc_of tabOk mixed Tryz.func140 c140 rfl k140 h
-- 244 spec.l06Before
def h244 : List (Nat × Tm) := [(11, ⟨[0, 1], fun n _ => [(5, (.cv (.sc (.int .i64) (.v (n + 0))))), (6, (.cv (.sc (.int .i64) (.v (n + 1)))))], fun _ _ => [], 2, 0⟩)]
def l244_0b : A :=
 .pm .lt [(.v 3), (.v 1)] <|
 .ite (.v 4) (
  .pm .lget [(.v 0), (.v 3)] <|
  .pm (.add .i64) [(.v 2), (.v 5)] <|
  .pm (.add .i64) [(.v 3), (.ki 1)] <|
  .out 2 [(.v 6), (.v 7)]) <|
 .out 1 [(.v 2)]
def l244_0 : A := .lp 2 [(.ki 0), (.ki 0)] l244_0b
def a244 : A :=
 l244_0
theorem c244 : compF B Tryz.f244 (look h244) [z24, z3] [z3] = some a244 := by kernel_rfl
theorem k244 : callable Tryz.prog 244 = true := by kernel_rfl
theorem s244 {vs us : List V} (h : a244.wp Cl (ans us) vs) : Cl 244 vs us := cc_of tabOk mixed Tryz.func244 c244 rfl k244 h
-- 98 spec.TileRect
def h98 : List (Nat × Tm) := [(6, ⟨[1, 2, 4], fun n _ => [(15, (.cv (.sc .bool (.v (n + 0)))))], fun _ _ => [], 1, 0⟩)]
def a98 : A :=
 .jn 2 (
  .pm .lt [(.v 1), (.ki 0)] <|
  .ite (.v 2) (
   .out 2 [(.kb true)]) <|
  .cl 140 [(.tc (.pj (.v 0) 0) (.tc (.pj (.v 0) 1) (.tc (.pj (.v 0) 2) (.tc (.pj (.v 0) 3) .tn))))] 1 <|
  .pm .ge [(.v 1), (.v 3)] <|
  .out 2 [(.v 4)]) <|
 .ite (.v 2) (
  .out 1 [(.tc (.ki 0) (.tc (.ki 0) (.tc (.ki 0) (.tc (.ki 0) .tn)))), (.kb false)]) <|
 .pm .llen [(.pj (.v 0) 2)] <|
 .pm (.rem .i64) [(.v 1), (.v 3)] <|
 .pm .llen [(.pj (.v 0) 2)] <|
 .pm (.quo .i64) [(.v 1), (.v 5)] <|
 .cl 244 [(.pj (.v 0) 2), (.v 4)] 1 <|
 .pm (.mul .i64) [(.ki 8), (.v 7)] <|
 .cl 244 [(.pj (.v 0) 3), (.v 6)] 1 <|
 .pm (.mul .i64) [(.ki 8), (.v 9)] <|
 .pm .lget [(.pj (.v 0) 2), (.v 4)] <|
 .pm (.mul .i64) [(.ki 8), (.v 11)] <|
 .pm .lget [(.pj (.v 0) 3), (.v 6)] <|
 .pm (.mul .i64) [(.ki 8), (.v 13)] <|
 .out 1 [(.tc (.v 8) (.tc (.v 10) (.tc (.v 12) (.tc (.v 14) .tn)))), (.kb true)]
theorem c98 : compF B Tryz.f98 (look h98) [z26, z3] [z45, z4] = some a98 := by kernel_rfl
theorem k98 : callable Tryz.prog 98 = true := by kernel_rfl
theorem s98 {vs us : List V} (h : a98.wp Cl (ans us) vs) : Cl 98 vs us := cc_of tabOk mixed Tryz.func98 c98 rfl k98 h
-- 288 spec.PicOk
def h288 : List (Nat × Tm) := []
def a288 : A :=
 .cl 118 [(.pj (.v 0) 0), (.ki 1), (.ki 256)] 1 <|
 .ite (.v 1) (
  .cl 118 [(.pj (.v 0) 1), (.ki 1), (.ki 256)] 1 <|
  .ite (.v 2) (
   .pm .slen [(.pj (.v 0) 2)] <|
   .pm (.mul .i64) [(.pj (.v 0) 0), (.pj (.v 0) 1)] <|
   .pm .eq [(.v 3), (.v 4)] <|
   .out 1 [(.v 5)]) <|
  .out 1 [(.kb false)]) <|
 .out 1 [(.kb false)]
theorem c288 : compF B Tryz.f288 (look h288) [z37] [z4] = some a288 := by kernel_rfl
theorem k288 : callable Tryz.prog 288 = true := by kernel_rfl
theorem s288 {vs us : List V} (h : a288.wp Cl (ans us) vs) : Cl 288 vs us := cc_of tabOk mixed Tryz.func288 c288 rfl k288 h
-- 245 spec.l12Within
def h245 : List (Nat × Tm) := []
def a245 : A :=
 .cl 288 [(.tc (.pj (.v 0) 0) (.tc (.pj (.v 0) 1) (.tc (.pj (.v 0) 2) .tn)))] 1 <|
 .ite (.v 5) (
  .cl 118 [(.v 3), (.ki 1), (.pj (.v 0) 0)] 1 <|
  .ite (.v 6) (
   .cl 118 [(.v 4), (.ki 1), (.pj (.v 0) 1)] 1 <|
   .ite (.v 7) (
    .pm (.sub .i64) [(.pj (.v 0) 0), (.v 3)] <|
    .cl 118 [(.v 1), (.ki 0), (.v 8)] 1 <|
    .ite (.v 9) (
     .pm (.sub .i64) [(.pj (.v 0) 1), (.v 4)] <|
     .cl 118 [(.v 2), (.ki 0), (.v 10)] 1 <|
     .out 1 [(.v 11)]) <|
    .out 1 [(.kb false)]) <|
   .out 1 [(.kb false)]) <|
  .out 1 [(.kb false)]) <|
 .out 1 [(.kb false)]
theorem c245 : compF B Tryz.f245 (look h245) [z37, z3, z3, z3, z3] [z4] = some a245 := by kernel_rfl
theorem k245 : callable Tryz.prog 245 = true := by kernel_rfl
theorem s245 {vs us : List V} (h : a245.wp Cl (ans us) vs) : Cl 245 vs us := cc_of tabOk mixed Tryz.func245 c245 rfl k245 h
-- 99 spec.CutOf
def h99 : List (Nat × Tm) := [(17, ⟨[2, 3, 4], fun n i => [(6, (.cv (.own (i + 0)))), (7, (.cv (.sc (.int .i64) (.v (n + 0)))))], fun n i => [((i + 0), (.arr 1 (.int .u8) 5 (.v (n + 1))))], 2, 1⟩)]
def l99_0b : A :=
 .pm (.add .i64) [(.pj (.v 1) 1), (.pj (.v 1) 3)] <|
 .pm .lt [(.v 4), (.v 6)] <|
 .ite (.v 7) (
  .pm (.mul .i64) [(.v 4), (.pj (.v 0) 0)] <|
  .pm (.add .i64) [(.v 8), (.pj (.v 1) 0)] <|
  .pm (.mul .i64) [(.v 4), (.pj (.v 0) 0)] <|
  .pm (.add .i64) [(.v 10), (.pj (.v 1) 0)] <|
  .pm (.add .i64) [(.v 11), (.pj (.v 1) 2)] <|
  .pm .ssub [(.pj (.v 0) 2), (.v 9), (.v 12)] <|
  .pm .lstr [(.v 13)] <|
  .pm (.lapp 1) [(.v 5), (.v 14)] <|
  .pm (.add .i64) [(.v 4), (.ki 1)] <|
  .out 2 [(.v 16), (.v 15)]) <|
 .pm .strl [(.v 5)] <|
 .out 1 [(.tc (.pj (.v 1) 2) (.tc (.pj (.v 1) 3) (.tc (.v 8) .tn))), (.kb true)]
def l99_0 : A := .lp 2 [(.pj (.v 1) 1), .kl] l99_0b
def a99 : A :=
 .cl 245 [(.tc (.pj (.v 0) 0) (.tc (.pj (.v 0) 1) (.tc (.pj (.v 0) 2) .tn))), (.pj (.v 1) 0), (.pj (.v 1) 1), (.pj (.v 1) 2), (.pj (.v 1) 3)] 1 <|
 .pm .not [(.v 2)] <|
 .ite (.v 3) (
  .out 1 [(.tc (.ki 0) (.tc (.ki 0) (.tc (.ks []) .tn))), (.kb false)]) <|
 l99_0
theorem c99 : compF B Tryz.f99 (look h99) [z37, z45] [z37, z4] = some a99 := by kernel_rfl
theorem k99 : callable Tryz.prog 99 = true := by kernel_rfl
theorem s99 {vs us : List V} (h : a99.wp Cl (ans us) vs) : Cl 99 vs us := cc_of tabOk mixed Tryz.func99 c99 rfl k99 h
-- 23 spec.TileShows
def h23 : List (Nat × Tm) := [(6, ⟨[1, 2, 3, 6], fun n _ => [(28, (.cv (.sc .bool (.v (n + 0)))))], fun _ _ => [], 1, 0⟩)]
def a23 : A :=
 .jn 2 (
  .pm .lt [(.v 1), (.ki 0)] <|
  .ite (.v 3) (
   .out 2 [(.kb true)]) <|
  .pm .llen [(.pj (.v 0) 41)] <|
  .pm .ge [(.v 1), (.v 4)] <|
  .ite (.v 5) (
   .out 2 [(.kb true)]) <|
  .pm .lget [(.pj (.v 0) 41), (.v 1)] <|
  .pm .llen [(.pj (.v 6) 7)] <|
  .pm .eq [(.v 7), (.ki 0)] <|
  .out 2 [(.v 8)]) <|
 .ite (.v 3) (
  .out 1 [(.tc (.ki 0) (.tc (.ki 0) (.tc (.ks []) .tn))), (.kb false)]) <|
 .pm .lget [(.pj (.v 0) 41), (.v 1)] <|
 .cl 98 [(.tc (.pj (.v 4) 0) (.tc (.pj (.v 4) 1) (.tc (.pj (.v 4) 2) (.tc (.pj (.v 4) 3) .tn)))), (.v 2)] 2 <|
 .pm .not [(.v 6)] <|
 .ite (.v 7) (
  .out 1 [(.tc (.ki 0) (.tc (.ki 0) (.tc (.ks []) .tn))), (.kb false)]) <|
 .pm .lget [(.pj (.v 0) 41), (.v 1)] <|
 .pm .lget [(.pj (.v 8) 7), (.ki 0)] <|
 .cl 99 [(.tc (.pj (.v 9) 0) (.tc (.pj (.v 9) 1) (.tc (.pj (.v 9) 2) .tn))), (.tc (.pj (.v 5) 0) (.tc (.pj (.v 5) 1) (.tc (.pj (.v 5) 2) (.tc (.pj (.v 5) 3) .tn))))] 2 <|
 .out 1 [(.tc (.pj (.v 10) 0) (.tc (.pj (.v 10) 1) (.tc (.pj (.v 10) 2) .tn))), (.v 11)]
theorem c23 : compF B Tryz.f23 (look h23) [z82, z3, z3] [z37, z4] = some a23 := by kernel_rfl
theorem k23 : callable Tryz.prog 23 = true := by kernel_rfl
theorem s23 {vs us : List V} (h : a23.wp Cl (ans us) vs) : Cl 23 vs us := cc_of tabOk mixed Tryz.func23 c23 rfl k23 h
-- 84 impl.within
def h84 : List (Nat × Tm) := []
def a84 : A :=
 .pm .ge [(.v 0), (.v 1)] <|
 .ite (.v 3) (
  .pm .le [(.v 0), (.v 2)] <|
  .out 1 [(.v 4)]) <|
 .out 1 [(.kb false)]
theorem c84 : compF B Tryz.f84 (look h84) [z3, z3, z3] [z4] = some a84 := by kernel_rfl
theorem k84 : callable Tryz.prog 84 = true := by kernel_rfl
theorem s84 {vs us : List V} (h : a84.wp Cl (ans us) vs) : Cl 84 vs us := cc_of tabOk mixed Tryz.func84 c84 rfl k84 h
-- 85 impl.sumOf
def h85 : List (Nat × Tm) := [(11, ⟨[6, 7], fun n _ => [(3, (.cv (.sc (.int .i64) (.v (n + 0))))), (8, (.cv (.sc (.int .i64) (.v (n + 1)))))], fun _ _ => [], 2, 0⟩)]
def l85_0b : A :=
 .pm .lt [(.v 3), (.v 1)] <|
 .ite (.v 4) (
  .pm .lget [(.v 0), (.v 3)] <|
  .pm (.add .i64) [(.v 2), (.v 5)] <|
  .pm (.add .i64) [(.v 3), (.ki 1)] <|
  .out 2 [(.v 6), (.v 7)]) <|
 .out 1 [(.v 2)]
def l85_0 : A := .lp 2 [(.ki 0), (.ki 0)] l85_0b
def a85 : A :=
 .pm .llen [(.v 0)] <|
 l85_0
theorem c85 : compF B Tryz.f85 (look h85) [z24] [z3] = some a85 := by kernel_rfl
theorem k85 : callable Tryz.prog 85 = true := by kernel_rfl
theorem s85 {vs us : List V} (h : a85.wp Cl (ans us) vs) : Cl 85 vs us := cc_of tabOk mixed Tryz.func85 c85 rfl k85 h
-- 218 impl.SquaresOf
def h218 : List (Nat × Tm) := [(23, ⟨[1, 11, 12, 13, 21, 22], fun n _ => [(23, (.cv (.sc (.int .i64) (.v (n + 0)))))], fun _ _ => [], 1, 0⟩), (8, ⟨[1, 11, 12], fun n _ => [(13, (.cv (.sc (.int .i64) (.v (n + 0)))))], fun _ _ => [], 1, 0⟩)]
def l218_0b : A :=
 .pm .lt [(.v 10), (.v 9)] <|
 .ite (.v 11) (
  .pm .lget [(.v 5), (.v 10)] <|
  .cl 84 [(.v 12), (.ki 1), (.ki 8)] 1 <|
  .pm .not [(.v 13)] <|
  .ite (.v 14) (
   .out 1 [(.ki 0)]) <|
  .pm (.add .i64) [(.v 10), (.ki 1)] <|
  .out 3 [(.v 15)]) <|
 .pm (.add .i64) [(.v 3), (.ki 1)] <|
 .out 2 [(.v 12)]
def l218_0 : A := .lp 3 [(.ki 0)] l218_0b
def l218_1b : A :=
 .pm .lt [(.v 3), (.v 2)] <|
 .ite (.v 4) (
  .pm .lget [(.v 1), (.v 3)] <|
  .pm .llen [(.v 5)] <|
  .cl 84 [(.v 6), (.ki 1), (.ki 4)] 1 <|
  .pm .not [(.v 7)] <|
  .ite (.v 8) (
   .out 1 [(.ki 0)]) <|
  .pm .llen [(.v 5)] <|
  l218_0) <|
 .cl 85 [(.pj (.v 0) 2)] 1 <|
 .cl 85 [(.pj (.v 0) 3)] 1 <|
 .pm (.mul .i64) [(.v 5), (.v 6)] <|
 .out 1 [(.v 7)]
def l218_1 : A := .lp 2 [(.ki 0)] l218_1b
def a218 : A :=
 .pm .lits [(.pj (.v 0) 2), (.pj (.v 0) 3)] <|
 .pm .llen [(.v 1)] <|
 l218_1
theorem c218 : compF B Tryz.f218 (look h218) [z26] [z3] = some a218 := by kernel_rfl
theorem k218 : callable Tryz.prog 218 = true := by kernel_rfl
theorem s218 {vs us : List V} (h : a218.wp Cl (ans us) vs) : Cl 218 vs us := cc_of tabOk mixed Tryz.func218 c218 rfl k218 h
-- 219 impl.LevelSquares
def h219 : List (Nat × Tm) := []
def a219 : A :=
 .cl 84 [(.v 0), (.ki 1), (.ki 3)] 1 <|
 .pm .not [(.v 1)] <|
 .ite (.v 2) (
  .out 1 [(.ki 0)]) <|
 .pm .lits [(.ki 16), (.ki 64), (.ki 256)] <|
 .pm (.sub .i64) [(.v 0), (.ki 1)] <|
 .pm .lget [(.v 3), (.v 4)] <|
 .pm .lget [(.v 3), (.v 4)] <|
 .out 1 [(.v 6)]
theorem c219 : compF B Tryz.f219 (look h219) [z3] [z3] = some a219 := by kernel_rfl
theorem k219 : callable Tryz.prog 219 = true := by kernel_rfl
theorem s219 {vs us : List V} (h : a219.wp Cl (ans us) vs) : Cl 219 vs us := cc_of tabOk mixed Tryz.func219 c219 rfl k219 h
-- 74 impl.SeqOk
def h74 : List (Nat × Tm) := []
def a74 : A :=
 .cl 218 [(.tc (.pj (.v 0) 0) (.tc (.pj (.v 0) 1) (.tc (.pj (.v 0) 2) (.tc (.pj (.v 0) 3) .tn))))] 1 <|
 .cl 219 [(.pj (.v 0) 0)] 1 <|
 .cl 84 [(.v 1), (.ki 1), (.v 2)] 1 <|
 .ite (.v 3) (
  .cl 84 [(.pj (.v 0) 1), (.ki 3), (.ki 8)] 1 <|
  .out 1 [(.v 4)]) <|
 .out 1 [(.kb false)]
theorem c74 : compF B Tryz.f74 (look h74) [z26] [z4] = some a74 := by kernel_rfl
theorem k74 : callable Tryz.prog 74 = true := by kernel_rfl
theorem s74 {vs us : List V} (h : a74.wp Cl (ans us) vs) : Cl 74 vs us := cc_of tabOk mixed Tryz.func74 c74 rfl k74 h
-- 76 impl.TilesOf
def h76 : List (Nat × Tm) := []
def a76 : A :=
 .cl 74 [(.tc (.pj (.v 0) 0) (.tc (.pj (.v 0) 1) (.tc (.pj (.v 0) 2) (.tc (.pj (.v 0) 3) .tn))))] 1 <|
 .pm .not [(.v 1)] <|
 .ite (.v 2) (
  .out 1 [(.ki 0)]) <|
 .pm .llen [(.pj (.v 0) 2)] <|
 .pm .llen [(.pj (.v 0) 3)] <|
 .pm (.mul .i64) [(.v 3), (.v 4)] <|
 .out 1 [(.v 5)]
theorem c76 : compF B Tryz.f76 (look h76) [z26] [z3] = some a76 := by kernel_rfl
theorem k76 : callable Tryz.prog 76 = true := by kernel_rfl
theorem s76 {vs us : List V} (h : a76.wp Cl (ans us) vs) : Cl 76 vs us := cc_of tabOk mixed Tryz.func76 c76 rfl k76 h
-- 19 impl.TileRect
def h19 : List (Nat × Tm) := []
def a19 : A :=
 .cl 76 [(.tc (.pj (.v 0) 0) (.tc (.pj (.v 0) 1) (.tc (.pj (.v 0) 2) (.tc (.pj (.v 0) 3) .tn))))] 1 <|
 .pm (.sub .i64) [(.v 2), (.ki 1)] <|
 .cl 84 [(.v 1), (.ki 0), (.v 3)] 1 <|
 .pm .not [(.v 4)] <|
 .ite (.v 5) (
  .out 1 [(.tc (.ki 0) (.tc (.ki 0) (.tc (.ki 0) (.tc (.ki 0) .tn)))), (.kb false)]) <|
 .pm .llen [(.pj (.v 0) 2)] <|
 .pm (.rem .i64) [(.v 1), (.v 6)] <|
 .pm .llen [(.pj (.v 0) 2)] <|
 .pm (.quo .i64) [(.v 1), (.v 8)] <|
 .pm .lsub [(.pj (.v 0) 2), (.ki 0), (.v 7)] <|
 .cl 85 [(.v 10)] 1 <|
 .pm (.mul .i64) [(.ki 8), (.v 11)] <|
 .pm .lsub [(.pj (.v 0) 3), (.ki 0), (.v 9)] <|
 .cl 85 [(.v 13)] 1 <|
 .pm (.mul .i64) [(.ki 8), (.v 14)] <|
 .pm .lget [(.pj (.v 0) 2), (.v 7)] <|
 .pm (.mul .i64) [(.ki 8), (.v 16)] <|
 .pm .lget [(.pj (.v 0) 3), (.v 9)] <|
 .pm (.mul .i64) [(.ki 8), (.v 18)] <|
 .out 1 [(.tc (.v 12) (.tc (.v 15) (.tc (.v 17) (.tc (.v 19) .tn)))), (.kb true)]
theorem c19 : compF B Tryz.f19 (look h19) [z26, z3] [z45, z4] = some a19 := by kernel_rfl
theorem k19 : callable Tryz.prog 19 = true := by kernel_rfl
theorem s19 {vs us : List V} (h : a19.wp Cl (ans us) vs) : Cl 19 vs us := cc_of tabOk mixed Tryz.func19 c19 rfl k19 h
-- 83 impl.PicOk
def h83 : List (Nat × Tm) := []
def a83 : A :=
 .cl 84 [(.pj (.v 0) 0), (.ki 1), (.ki 256)] 1 <|
 .ite (.v 1) (
  .cl 84 [(.pj (.v 0) 1), (.ki 1), (.ki 256)] 1 <|
  .ite (.v 2) (
   .pm .slen [(.pj (.v 0) 2)] <|
   .pm (.mul .i64) [(.pj (.v 0) 0), (.pj (.v 0) 1)] <|
   .pm .eq [(.v 3), (.v 4)] <|
   .out 1 [(.v 5)]) <|
  .out 1 [(.kb false)]) <|
 .out 1 [(.kb false)]
theorem c83 : compF B Tryz.f83 (look h83) [z37] [z4] = some a83 := by kernel_rfl
theorem k83 : callable Tryz.prog 83 = true := by kernel_rfl
theorem s83 {vs us : List V} (h : a83.wp Cl (ans us) vs) : Cl 83 vs us := cc_of tabOk mixed Tryz.func83 c83 rfl k83 h
-- 90 impl.Pic).holds
def h90 : List (Nat × Tm) := []
def a90 : A :=
 .cl 84 [(.pj (.v 1) 2), (.ki 1), (.pj (.v 0) 0)] 1 <|
 .ite (.v 2) (
  .cl 84 [(.pj (.v 1) 3), (.ki 1), (.pj (.v 0) 1)] 1 <|
  .ite (.v 3) (
   .pm (.sub .i64) [(.pj (.v 0) 0), (.pj (.v 1) 2)] <|
   .cl 84 [(.pj (.v 1) 0), (.ki 0), (.v 4)] 1 <|
   .ite (.v 5) (
    .pm (.sub .i64) [(.pj (.v 0) 1), (.pj (.v 1) 3)] <|
    .cl 84 [(.pj (.v 1) 1), (.ki 0), (.v 6)] 1 <|
    .out 1 [(.v 7)]) <|
   .out 1 [(.kb false)]) <|
  .out 1 [(.kb false)]) <|
 .out 1 [(.kb false)]
theorem c90 : compF B Tryz.f90 (look h90) [z37, z45] [z4] = some a90 := by kernel_rfl
theorem k90 : callable Tryz.prog 90 = true := by kernel_rfl
theorem s90 {vs us : List V} (h : a90.wp Cl (ans us) vs) : Cl 90 vs us := cc_of tabOk mixed Tryz.func90 c90 rfl k90 h
-- 21 impl.CutOf
def h21 : List (Nat × Tm) := [(6, ⟨[2, 3, 4], fun n _ => [(16, (.cv (.sc .bool (.v (n + 0)))))], fun _ _ => [], 1, 0⟩), (17, ⟨[2, 3, 4], fun n i => [(6, (.cv (.own (i + 0)))), (7, (.cv (.sc (.int .i64) (.v (n + 0)))))], fun n i => [((i + 0), (.arr 1 (.int .u8) 5 (.v (n + 1))))], 2, 1⟩)]
def l21_0b : A :=
 .pm (.add .i64) [(.pj (.v 1) 1), (.pj (.v 1) 3)] <|
 .pm .lt [(.v 5), (.v 7)] <|
 .ite (.v 8) (
  .pm (.mul .i64) [(.v 5), (.pj (.v 0) 0)] <|
  .pm (.add .i64) [(.v 9), (.pj (.v 1) 0)] <|
  .pm (.mul .i64) [(.v 5), (.pj (.v 0) 0)] <|
  .pm (.add .i64) [(.v 11), (.pj (.v 1) 0)] <|
  .pm (.add .i64) [(.v 12), (.pj (.v 1) 2)] <|
  .pm .ssub [(.pj (.v 0) 2), (.v 10), (.v 13)] <|
  .pm .lstr [(.v 14)] <|
  .pm (.lapp 1) [(.v 6), (.v 15)] <|
  .pm (.add .i64) [(.v 5), (.ki 1)] <|
  .out 2 [(.v 17), (.v 16)]) <|
 .pm .strl [(.v 6)] <|
 .out 1 [(.tc (.pj (.v 1) 2) (.tc (.pj (.v 1) 3) (.tc (.v 9) .tn))), (.kb true)]
def l21_0 : A := .lp 2 [(.pj (.v 1) 1), (.v 4)] l21_0b
def a21 : A :=
 .jn 2 (
  .cl 83 [(.tc (.pj (.v 0) 0) (.tc (.pj (.v 0) 1) (.tc (.pj (.v 0) 2) .tn)))] 1 <|
  .pm .not [(.v 2)] <|
  .ite (.v 3) (
   .out 2 [(.kb true)]) <|
  .cl 90 [(.tc (.pj (.v 0) 0) (.tc (.pj (.v 0) 1) (.tc (.pj (.v 0) 2) .tn))), (.tc (.pj (.v 1) 0) (.tc (.pj (.v 1) 1) (.tc (.pj (.v 1) 2) (.tc (.pj (.v 1) 3) .tn))))] 1 <|
  .pm .not [(.v 4)] <|
  .out 2 [(.v 5)]) <|
 .ite (.v 2) (
  .out 1 [(.tc (.ki 0) (.tc (.ki 0) (.tc (.ks []) .tn))), (.kb false)]) <|
 .pm (.mul .i64) [(.pj (.v 1) 2), (.pj (.v 1) 3)] <|
 .pm (.lmk 1) [(.ki 0), (.v 3), (.ki 0)] <|
 l21_0
theorem c21 : compF B Tryz.f21 (look h21) [z37, z45] [z37, z4] = some a21 := by kernel_rfl
theorem k21 : callable Tryz.prog 21 = true := by kernel_rfl
theorem s21 {vs us : List V} (h : a21.wp Cl (ans us) vs) : Cl 21 vs us := cc_of tabOk mixed Tryz.func21 c21 rfl k21 h
-- 25 impl.TileShows
def h25 : List (Nat × Tm) := [(6, ⟨[1, 2, 3, 6], fun n _ => [(26, (.cv (.sc .bool (.v (n + 0)))))], fun _ _ => [], 1, 0⟩)]
def a25 : A :=
 .jn 2 (
  .pm .llen [(.pj (.v 0) 41)] <|
  .pm (.sub .i64) [(.v 3), (.ki 1)] <|
  .cl 84 [(.v 1), (.ki 0), (.v 4)] 1 <|
  .pm .not [(.v 5)] <|
  .ite (.v 6) (
   .out 2 [(.kb true)]) <|
  .pm .lget [(.pj (.v 0) 41), (.v 1)] <|
  .pm .llen [(.pj (.v 7) 7)] <|
  .pm .eq [(.v 8), (.ki 0)] <|
  .out 2 [(.v 9)]) <|
 .ite (.v 3) (
  .out 1 [(.tc (.ki 0) (.tc (.ki 0) (.tc (.ks []) .tn))), (.kb false)]) <|
 .pm .lget [(.pj (.v 0) 41), (.v 1)] <|
 .cl 19 [(.tc (.pj (.v 4) 0) (.tc (.pj (.v 4) 1) (.tc (.pj (.v 4) 2) (.tc (.pj (.v 4) 3) .tn)))), (.v 2)] 2 <|
 .pm .not [(.v 6)] <|
 .ite (.v 7) (
  .out 1 [(.tc (.ki 0) (.tc (.ki 0) (.tc (.ks []) .tn))), (.kb false)]) <|
 .pm .lget [(.pj (.v 0) 41), (.v 1)] <|
 .pm .lget [(.pj (.v 8) 7), (.ki 0)] <|
 .cl 21 [(.tc (.pj (.v 9) 0) (.tc (.pj (.v 9) 1) (.tc (.pj (.v 9) 2) .tn))), (.tc (.pj (.v 5) 0) (.tc (.pj (.v 5) 1) (.tc (.pj (.v 5) 2) (.tc (.pj (.v 5) 3) .tn))))] 2 <|
 .out 1 [(.tc (.pj (.v 10) 0) (.tc (.pj (.v 10) 1) (.tc (.pj (.v 10) 2) .tn))), (.v 11)]
theorem c25 : compF B Tryz.f25 (look h25) [z82, z3, z3] [z37, z4] = some a25 := by kernel_rfl
theorem k25 : callable Tryz.prog 25 = true := by kernel_rfl
theorem s25 {vs us : List V} (h : a25.wp Cl (ans us) vs) : Cl 25 vs us := cc_of tabOk mixed Tryz.func25 c25 rfl k25 h
-- 26 laws.eqPic
def h26 : List (Nat × Tm) := []
def a26 : A :=
 .pm .ne [(.pj (.v 0) 0), (.pj (.v 1) 0)] <|
 .ite (.v 2) (
  .out 1 [(.kb false)]) <|
 .pm .ne [(.pj (.v 0) 1), (.pj (.v 1) 1)] <|
 .ite (.v 3) (
  .out 1 [(.kb false)]) <|
 .pm .sne [(.pj (.v 0) 2), (.pj (.v 1) 2)] <|
 .ite (.v 4) (
  .out 1 [(.kb false)]) <|
 .out 1 [(.kb true)]
theorem c26 : compF B Tryz.f26 (look h26) [z37, z37] [z4] = some a26 := by kernel_rfl
theorem k26 : callable Tryz.prog 26 = true := by kernel_rfl
theorem s26 {vs us : List V} (h : a26.wp Cl (ans us) vs) : Cl 26 vs us := cc_of tabOk mixed Tryz.func26 c26 rfl k26 h
-- 126 laws.eqPar
def h126 : List (Nat × Tm) := []
def a126 : A :=
 .pm .ne [(.pj (.v 0) 0), (.pj (.v 1) 0)] <|
 .ite (.v 2) (
  .out 1 [(.kb false)]) <|
 .pm .bne [(.pj (.v 0) 1), (.pj (.v 1) 1)] <|
 .ite (.v 3) (
  .out 1 [(.kb false)]) <|
 .pm .bne [(.pj (.v 0) 2), (.pj (.v 1) 2)] <|
 .ite (.v 4) (
  .out 1 [(.kb false)]) <|
 .pm .bne [(.pj (.v 0) 3), (.pj (.v 1) 3)] <|
 .ite (.v 5) (
  .out 1 [(.kb false)]) <|
 .out 1 [(.kb true)]
theorem c126 : compF B Tryz.f126 (look h126) [z28, z28] [z4] = some a126 := by kernel_rfl
theorem k126 : callable Tryz.prog 126 = true := by kernel_rfl
theorem s126 {vs us : List V} (h : a126.wp Cl (ans us) vs) : Cl 126 vs us := cc_of tabOk mixed Tryz.func126 c126 rfl k126 h
-- 113 laws.eqIntS
def h113 : List (Nat × Tm) := [(14, ⟨[0, 1], fun n _ => [(5, (.cv (.sc (.int .i64) (.v (n + 0)))))], fun _ _ => [], 1, 0⟩)]
def l113_0b : A :=
 .pm .llen [(.v 0)] <|
 .pm .lt [(.v 5), (.v 6)] <|
 .ite (.v 7) (
  .pm .lget [(.v 0), (.v 5)] <|
  .pm .lget [(.v 1), (.v 5)] <|
  .pm .ne [(.v 8), (.v 9)] <|
  .ite (.v 10) (
   .out 1 [(.kb false)]) <|
  .pm (.add .i64) [(.v 5), (.ki 1)] <|
  .out 2 [(.v 11)]) <|
 .out 1 [(.kb true)]
def l113_0 : A := .lp 2 [(.ki 0)] l113_0b
def a113 : A :=
 .pm .llen [(.v 0)] <|
 .pm .llen [(.v 1)] <|
 .pm .ne [(.v 2), (.v 3)] <|
 .ite (.v 4) (
  .out 1 [(.kb false)]) <|
 l113_0
theorem c113 : compF B Tryz.f113 (look h113) [z24, z24] [z4] = some a113 := by kernel_rfl
theorem k113 : callable Tryz.prog 113 = true := by kernel_rfl
theorem s113 {vs us : List V} (h : a113.wp Cl (ans us) vs) : Cl 113 vs us := cc_of tabOk mixed Tryz.func113 c113 rfl k113 h
-- 127 laws.eqLayout
def h127 : List (Nat × Tm) := []
def a127 : A :=
 .cl 113 [(.pj (.v 0) 0), (.pj (.v 1) 0)] 1 <|
 .pm .not [(.v 2)] <|
 .ite (.v 3) (
  .out 1 [(.kb false)]) <|
 .cl 113 [(.pj (.v 0) 1), (.pj (.v 1) 1)] 1 <|
 .pm .not [(.v 4)] <|
 .ite (.v 5) (
  .out 1 [(.kb false)]) <|
 .cl 113 [(.pj (.v 0) 2), (.pj (.v 1) 2)] 1 <|
 .pm .not [(.v 6)] <|
 .ite (.v 7) (
  .out 1 [(.kb false)]) <|
 .out 1 [(.kb true)]
theorem c127 : compF B Tryz.f127 (look h127) [z72, z72] [z4] = some a127 := by kernel_rfl
theorem k127 : callable Tryz.prog 127 = true := by kernel_rfl
theorem s127 {vs us : List V} (h : a127.wp Cl (ans us) vs) : Cl 127 vs us := cc_of tabOk mixed Tryz.func127 c127 rfl k127 h
-- 359 laws.eqPacket
def h359 : List (Nat × Tm) := []
def a359 : A :=
 .pm .ne [(.pj (.v 0) 0), (.pj (.v 1) 0)] <|
 .ite (.v 2) (
  .out 1 [(.kb false)]) <|
 .pm .bne [(.pj (.v 0) 1), (.pj (.v 1) 1)] <|
 .ite (.v 3) (
  .out 1 [(.kb false)]) <|
 .pm .bne [(.pj (.v 0) 2), (.pj (.v 1) 2)] <|
 .ite (.v 4) (
  .out 1 [(.kb false)]) <|
 .pm .sne [(.pj (.v 0) 3), (.pj (.v 1) 3)] <|
 .ite (.v 5) (
  .out 1 [(.kb false)]) <|
 .out 1 [(.kb true)]
theorem c359 : compF B Tryz.f359 (look h359) [z94, z94] [z4] = some a359 := by kernel_rfl
theorem k359 : callable Tryz.prog 359 = true := by kernel_rfl
theorem s359 {vs us : List V} (h : a359.wp Cl (ans us) vs) : Cl 359 vs us := cc_of tabOk mixed Tryz.func359 c359 rfl k359 h
-- 413 laws.eqPacketS
def h413 : List (Nat × Tm) := [(14, ⟨[0, 1], fun n _ => [(5, (.cv (.sc (.int .i64) (.v (n + 0)))))], fun _ _ => [], 1, 0⟩)]
def l413_0b : A :=
 .pm .llen [(.v 0)] <|
 .pm .lt [(.v 5), (.v 6)] <|
 .ite (.v 7) (
  .pm .lget [(.v 0), (.v 5)] <|
  .pm .lget [(.v 1), (.v 5)] <|
  .cl 359 [(.tc (.pj (.v 8) 0) (.tc (.pj (.v 8) 1) (.tc (.pj (.v 8) 2) (.tc (.pj (.v 8) 3) .tn)))), (.tc (.pj (.v 9) 0) (.tc (.pj (.v 9) 1) (.tc (.pj (.v 9) 2) (.tc (.pj (.v 9) 3) .tn))))] 1 <|
  .pm .not [(.v 10)] <|
  .ite (.v 11) (
   .out 1 [(.kb false)]) <|
  .pm (.add .i64) [(.v 5), (.ki 1)] <|
  .out 2 [(.v 12)]) <|
 .out 1 [(.kb true)]
def l413_0 : A := .lp 2 [(.ki 0)] l413_0b
def a413 : A :=
 .pm .llen [(.v 0)] <|
 .pm .llen [(.v 1)] <|
 .pm .ne [(.v 2), (.v 3)] <|
 .ite (.v 4) (
  .out 1 [(.kb false)]) <|
 l413_0
theorem c413 : compF B Tryz.f413 (look h413) [z191, z191] [z4] = some a413 := by kernel_rfl
theorem k413 : callable Tryz.prog 413 = true := by kernel_rfl
theorem s413 {vs us : List V} (h : a413.wp Cl (ans us) vs) : Cl 413 vs us := cc_of tabOk mixed Tryz.func413 c413 rfl k413 h
-- 369 laws.eqQueue
def h369 : List (Nat × Tm) := []
def a369 : A :=
 .pm .bne [(.pj (.v 0) 0), (.pj (.v 1) 0)] <|
 .ite (.v 2) (
  .out 1 [(.kb false)]) <|
 .pm .ne [(.pj (.v 0) 1), (.pj (.v 1) 1)] <|
 .ite (.v 3) (
  .out 1 [(.kb false)]) <|
 .pm .ne [(.pj (.v 0) 2), (.pj (.v 1) 2)] <|
 .ite (.v 4) (
  .out 1 [(.kb false)]) <|
 .cl 413 [(.pj (.v 0) 3), (.pj (.v 1) 3)] 1 <|
 .pm .not [(.v 5)] <|
 .ite (.v 6) (
  .out 1 [(.kb false)]) <|
 .pm .ne [(.pj (.v 0) 4), (.pj (.v 1) 4)] <|
 .ite (.v 7) (
  .out 1 [(.kb false)]) <|
 .pm .ne [(.pj (.v 0) 5), (.pj (.v 1) 5)] <|
 .ite (.v 8) (
  .out 1 [(.kb false)]) <|
 .pm .ne [(.pj (.v 0) 6), (.pj (.v 1) 6)] <|
 .ite (.v 9) (
  .out 1 [(.kb false)]) <|
 .pm .ne [(.pj (.v 0) 7), (.pj (.v 1) 7)] <|
 .ite (.v 10) (
  .out 1 [(.kb false)]) <|
 .pm .ne [(.pj (.v 0) 8), (.pj (.v 1) 8)] <|
 .ite (.v 11) (
  .out 1 [(.kb false)]) <|
 .out 1 [(.kb true)]
theorem c369 : compF B Tryz.f369 (look h369) [z193, z193] [z4] = some a369 := by kernel_rfl
theorem k369 : callable Tryz.prog 369 = true := by kernel_rfl
theorem s369 {vs us : List V} (h : a369.wp Cl (ans us) vs) : Cl 369 vs us := cc_of tabOk mixed Tryz.func369 c369 rfl k369 h
-- 202 laws.eqSeq
def h202 : List (Nat × Tm) := []
def a202 : A :=
 .pm .ne [(.pj (.v 0) 0), (.pj (.v 1) 0)] <|
 .ite (.v 2) (
  .out 1 [(.kb false)]) <|
 .pm .ne [(.pj (.v 0) 1), (.pj (.v 1) 1)] <|
 .ite (.v 3) (
  .out 1 [(.kb false)]) <|
 .cl 113 [(.pj (.v 0) 2), (.pj (.v 1) 2)] 1 <|
 .pm .not [(.v 4)] <|
 .ite (.v 5) (
  .out 1 [(.kb false)]) <|
 .cl 113 [(.pj (.v 0) 3), (.pj (.v 1) 3)] 1 <|
 .pm .not [(.v 6)] <|
 .ite (.v 7) (
  .out 1 [(.kb false)]) <|
 .out 1 [(.kb true)]
theorem c202 : compF B Tryz.f202 (look h202) [z26, z26] [z4] = some a202 := by kernel_rfl
theorem k202 : callable Tryz.prog 202 = true := by kernel_rfl
theorem s202 {vs us : List V} (h : a202.wp Cl (ans us) vs) : Cl 202 vs us := cc_of tabOk mixed Tryz.func202 c202 rfl k202 h
-- 370 laws.eqAdmit
def h370 : List (Nat × Tm) := []
def a370 : A :=
 .pm .bne [(.pj (.v 0) 0), (.pj (.v 1) 0)] <|
 .ite (.v 2) (
  .out 1 [(.kb false)]) <|
 .pm .bne [(.pj (.v 0) 1), (.pj (.v 1) 1)] <|
 .ite (.v 3) (
  .out 1 [(.kb false)]) <|
 .cl 202 [(.tc (.pj (.v 0) 2) (.tc (.pj (.v 0) 3) (.tc (.pj (.v 0) 4) (.tc (.pj (.v 0) 5) .tn)))), (.tc (.pj (.v 1) 2) (.tc (.pj (.v 1) 3) (.tc (.pj (.v 1) 4) (.tc (.pj (.v 1) 5) .tn))))] 1 <|
 .pm .not [(.v 4)] <|
 .ite (.v 5) (
  .out 1 [(.kb false)]) <|
 .cl 126 [(.tc (.pj (.v 0) 6) (.tc (.pj (.v 0) 7) (.tc (.pj (.v 0) 8) (.tc (.pj (.v 0) 9) .tn)))), (.tc (.pj (.v 1) 6) (.tc (.pj (.v 1) 7) (.tc (.pj (.v 1) 8) (.tc (.pj (.v 1) 9) .tn))))] 1 <|
 .pm .not [(.v 6)] <|
 .ite (.v 7) (
  .out 1 [(.kb false)]) <|
 .pm .ne [(.pj (.v 0) 10), (.pj (.v 1) 10)] <|
 .ite (.v 8) (
  .out 1 [(.kb false)]) <|
 .pm .ne [(.pj (.v 0) 11), (.pj (.v 1) 11)] <|
 .ite (.v 9) (
  .out 1 [(.kb false)]) <|
 .pm .ne [(.pj (.v 0) 12), (.pj (.v 1) 12)] <|
 .ite (.v 10) (
  .out 1 [(.kb false)]) <|
 .out 1 [(.kb true)]
theorem c370 : compF B Tryz.f370 (look h370) [z197, z197] [z4] = some a370 := by kernel_rfl
theorem k370 : callable Tryz.prog 370 = true := by kernel_rfl
theorem s370 {vs us : List V} (h : a370.wp Cl (ans us) vs) : Cl 370 vs us := cc_of tabOk mixed Tryz.func370 c370 rfl k370 h
-- 282 laws.eqInput
def h282 : List (Nat × Tm) := []
def a282 : A :=
 .cl 369 [(fieldsE 0 0 9), (fieldsE 1 0 9)] 1 <|
 .pm .not [(.v 2)] <|
 .ite (.v 3) (
  .out 1 [(.kb false)]) <|
 .cl 370 [(.tc (.pj (.v 0) 9) (.tc (.pj (.v 0) 10) (.tc (.pj (.v 0) 11) (.tc (.pj (.v 0) 12) (.tc (.pj (.v 0) 13) (.tc (.pj (.v 0) 14) (.tc (.pj (.v 0) 15) (.tc (.pj (.v 0) 16) (.tc (.pj (.v 0) 17) (.tc (.pj (.v 0) 18) (.tc (.pj (.v 0) 19) (.tc (.pj (.v 0) 20) (.tc (.pj (.v 0) 21) .tn))))))))))))), (.tc (.pj (.v 1) 9) (.tc (.pj (.v 1) 10) (.tc (.pj (.v 1) 11) (.tc (.pj (.v 1) 12) (.tc (.pj (.v 1) 13) (.tc (.pj (.v 1) 14) (.tc (.pj (.v 1) 15) (.tc (.pj (.v 1) 16) (.tc (.pj (.v 1) 17) (.tc (.pj (.v 1) 18) (.tc (.pj (.v 1) 19) (.tc (.pj (.v 1) 20) (.tc (.pj (.v 1) 21) .tn)))))))))))))] 1 <|
 .pm .not [(.v 4)] <|
 .ite (.v 5) (
  .out 1 [(.kb false)]) <|
 .pm .bne [(.pj (.v 0) 22), (.pj (.v 1) 22)] <|
 .ite (.v 6) (
  .out 1 [(.kb false)]) <|
 .pm .ne [(.pj (.v 0) 23), (.pj (.v 1) 23)] <|
 .ite (.v 7) (
  .out 1 [(.kb false)]) <|
 .out 1 [(.kb true)]
theorem c282 : compF B Tryz.f282 (look h282) [z199, z199] [z4] = some a282 := by kernel_rfl
theorem k282 : callable Tryz.prog 282 = true := by kernel_rfl
theorem s282 {vs us : List V} (h : a282.wp Cl (ans us) vs) : Cl 282 vs us := cc_of tabOk mixed Tryz.func282 c282 rfl k282 h
-- 128 laws.eqInputS
def h128 : List (Nat × Tm) := [(14, ⟨[0, 1], fun n _ => [(5, (.cv (.sc (.int .i64) (.v (n + 0)))))], fun _ _ => [], 1, 0⟩)]
def l128_0b : A :=
 .pm .llen [(.v 0)] <|
 .pm .lt [(.v 5), (.v 6)] <|
 .ite (.v 7) (
  .pm .lget [(.v 0), (.v 5)] <|
  .pm .lget [(.v 1), (.v 5)] <|
  .cl 282 [(fieldsE 8 0 24), (fieldsE 9 0 24)] 1 <|
  .pm .not [(.v 10)] <|
  .ite (.v 11) (
   .out 1 [(.kb false)]) <|
  .pm (.add .i64) [(.v 5), (.ki 1)] <|
  .out 2 [(.v 12)]) <|
 .out 1 [(.kb true)]
def l128_0 : A := .lp 2 [(.ki 0)] l128_0b
def a128 : A :=
 .pm .llen [(.v 0)] <|
 .pm .llen [(.v 1)] <|
 .pm .ne [(.v 2), (.v 3)] <|
 .ite (.v 4) (
  .out 1 [(.kb false)]) <|
 l128_0
theorem c128 : compF B Tryz.f128 (look h128) [z73, z73] [z4] = some a128 := by kernel_rfl
theorem k128 : callable Tryz.prog 128 = true := by kernel_rfl
theorem s128 {vs us : List V} (h : a128.wp Cl (ans us) vs) : Cl 128 vs us := cc_of tabOk mixed Tryz.func128 c128 rfl k128 h
-- 34 laws.eqMixer
def h34 : List (Nat × Tm) := []
def a34 : A :=
 .cl 126 [(.tc (.pj (.v 0) 0) (.tc (.pj (.v 0) 1) (.tc (.pj (.v 0) 2) (.tc (.pj (.v 0) 3) .tn)))), (.tc (.pj (.v 1) 0) (.tc (.pj (.v 1) 1) (.tc (.pj (.v 1) 2) (.tc (.pj (.v 1) 3) .tn))))] 1 <|
 .pm .not [(.v 2)] <|
 .ite (.v 3) (
  .out 1 [(.kb false)]) <|
 .pm .ne [(.pj (.v 0) 4), (.pj (.v 1) 4)] <|
 .ite (.v 4) (
  .out 1 [(.kb false)]) <|
 .pm .ne [(.pj (.v 0) 5), (.pj (.v 1) 5)] <|
 .ite (.v 5) (
  .out 1 [(.kb false)]) <|
 .pm .ne [(.pj (.v 0) 6), (.pj (.v 1) 6)] <|
 .ite (.v 6) (
  .out 1 [(.kb false)]) <|
 .pm .ne [(.pj (.v 0) 7), (.pj (.v 1) 7)] <|
 .ite (.v 7) (
  .out 1 [(.kb false)]) <|
 .cl 127 [(.tc (.pj (.v 0) 8) (.tc (.pj (.v 0) 9) (.tc (.pj (.v 0) 10) .tn))), (.tc (.pj (.v 1) 8) (.tc (.pj (.v 1) 9) (.tc (.pj (.v 1) 10) .tn)))] 1 <|
 .pm .not [(.v 8)] <|
 .ite (.v 9) (
  .out 1 [(.kb false)]) <|
 .cl 127 [(.tc (.pj (.v 0) 11) (.tc (.pj (.v 0) 12) (.tc (.pj (.v 0) 13) .tn))), (.tc (.pj (.v 1) 11) (.tc (.pj (.v 1) 12) (.tc (.pj (.v 1) 13) .tn)))] 1 <|
 .pm .not [(.v 10)] <|
 .ite (.v 11) (
  .out 1 [(.kb false)]) <|
 .pm .ne [(.pj (.v 0) 14), (.pj (.v 1) 14)] <|
 .ite (.v 12) (
  .out 1 [(.kb false)]) <|
 .pm .ne [(.pj (.v 0) 15), (.pj (.v 1) 15)] <|
 .ite (.v 13) (
  .out 1 [(.kb false)]) <|
 .pm .bne [(.pj (.v 0) 16), (.pj (.v 1) 16)] <|
 .ite (.v 14) (
  .out 1 [(.kb false)]) <|
 .cl 128 [(.pj (.v 0) 17), (.pj (.v 1) 17)] 1 <|
 .pm .not [(.v 15)] <|
 .ite (.v 16) (
  .out 1 [(.kb false)]) <|
 .out 1 [(.kb true)]
theorem c34 : compF B Tryz.f34 (look h34) [z75, z75] [z4] = some a34 := by kernel_rfl
theorem k34 : callable Tryz.prog 34 = true := by kernel_rfl
theorem s34 {vs us : List V} (h : a34.wp Cl (ans us) vs) : Cl 34 vs us := cc_of tabOk mixed Tryz.func34 c34 rfl k34 h
-- 410 laws.eqRate
def h410 : List (Nat × Tm) := []
def a410 : A :=
 .pm .ne [(.pj (.v 0) 0), (.pj (.v 1) 0)] <|
 .ite (.v 2) (
  .out 1 [(.kb false)]) <|
 .pm .ne [(.pj (.v 0) 1), (.pj (.v 1) 1)] <|
 .ite (.v 3) (
  .out 1 [(.kb false)]) <|
 .pm .ne [(.pj (.v 0) 2), (.pj (.v 1) 2)] <|
 .ite (.v 4) (
  .out 1 [(.kb false)]) <|
 .out 1 [(.kb true)]
theorem c410 : compF B Tryz.f410 (look h410) [z232, z232] [z4] = some a410 := by kernel_rfl
theorem k410 : callable Tryz.prog 410 = true := by kernel_rfl
theorem s410 {vs us : List V} (h : a410.wp Cl (ans us) vs) : Cl 410 vs us := cc_of tabOk mixed Tryz.func410 c410 rfl k410 h
-- 358 laws.eqSource
def h358 : List (Nat × Tm) := []
def a358 : A :=
 .cl 202 [(.tc (.pj (.v 0) 0) (.tc (.pj (.v 0) 1) (.tc (.pj (.v 0) 2) (.tc (.pj (.v 0) 3) .tn)))), (.tc (.pj (.v 1) 0) (.tc (.pj (.v 1) 1) (.tc (.pj (.v 1) 2) (.tc (.pj (.v 1) 3) .tn))))] 1 <|
 .pm .not [(.v 2)] <|
 .ite (.v 3) (
  .out 1 [(.kb false)]) <|
 .cl 126 [(.tc (.pj (.v 0) 4) (.tc (.pj (.v 0) 5) (.tc (.pj (.v 0) 6) (.tc (.pj (.v 0) 7) .tn)))), (.tc (.pj (.v 1) 4) (.tc (.pj (.v 1) 5) (.tc (.pj (.v 1) 6) (.tc (.pj (.v 1) 7) .tn))))] 1 <|
 .pm .not [(.v 4)] <|
 .ite (.v 5) (
  .out 1 [(.kb false)]) <|
 .cl 410 [(.tc (.pj (.v 0) 8) (.tc (.pj (.v 0) 9) (.tc (.pj (.v 0) 10) .tn))), (.tc (.pj (.v 1) 8) (.tc (.pj (.v 1) 9) (.tc (.pj (.v 1) 10) .tn)))] 1 <|
 .pm .not [(.v 6)] <|
 .ite (.v 7) (
  .out 1 [(.kb false)]) <|
 .pm .ne [(.pj (.v 0) 11), (.pj (.v 1) 11)] <|
 .ite (.v 8) (
  .out 1 [(.kb false)]) <|
 .pm .ne [(.pj (.v 0) 12), (.pj (.v 1) 12)] <|
 .ite (.v 9) (
  .out 1 [(.kb false)]) <|
 .pm .ne [(.pj (.v 0) 13), (.pj (.v 1) 13)] <|
 .ite (.v 10) (
  .out 1 [(.kb false)]) <|
 .pm .ne [(.pj (.v 0) 14), (.pj (.v 1) 14)] <|
 .ite (.v 11) (
  .out 1 [(.kb false)]) <|
 .pm .bne [(.pj (.v 0) 15), (.pj (.v 1) 15)] <|
 .ite (.v 12) (
  .out 1 [(.kb false)]) <|
 .cl 26 [(.tc (.pj (.v 0) 16) (.tc (.pj (.v 0) 17) (.tc (.pj (.v 0) 18) .tn))), (.tc (.pj (.v 1) 16) (.tc (.pj (.v 1) 17) (.tc (.pj (.v 1) 18) .tn)))] 1 <|
 .pm .not [(.v 13)] <|
 .ite (.v 14) (
  .out 1 [(.kb false)]) <|
 .out 1 [(.kb true)]
theorem c358 : compF B Tryz.f358 (look h358) [z234, z234] [z4] = some a358 := by kernel_rfl
theorem k358 : callable Tryz.prog 358 = true := by kernel_rfl
theorem s358 {vs us : List V} (h : a358.wp Cl (ans us) vs) : Cl 358 vs us := cc_of tabOk mixed Tryz.func358 c358 rfl k358 h
-- 252 laws.eqCam
def h252 : List (Nat × Tm) := []
def a252 : A :=
 .cl 358 [(fieldsE 0 0 19), (fieldsE 1 0 19)] 1 <|
 .pm .not [(.v 2)] <|
 .ite (.v 3) (
  .out 1 [(.kb false)]) <|
 .pm .ne [(.pj (.v 0) 19), (.pj (.v 1) 19)] <|
 .ite (.v 4) (
  .out 1 [(.kb false)]) <|
 .pm .ne [(.pj (.v 0) 20), (.pj (.v 1) 20)] <|
 .ite (.v 5) (
  .out 1 [(.kb false)]) <|
 .out 1 [(.kb true)]
theorem c252 : compF B Tryz.f252 (look h252) [z236, z236] [z4] = some a252 := by kernel_rfl
theorem k252 : callable Tryz.prog 252 = true := by kernel_rfl
theorem s252 {vs us : List V} (h : a252.wp Cl (ans us) vs) : Cl 252 vs us := cc_of tabOk mixed Tryz.func252 c252 rfl k252 h
-- 107 laws.eqCamS
def h107 : List (Nat × Tm) := [(14, ⟨[0, 1], fun n _ => [(5, (.cv (.sc (.int .i64) (.v (n + 0)))))], fun _ _ => [], 1, 0⟩)]
def l107_0b : A :=
 .pm .llen [(.v 0)] <|
 .pm .lt [(.v 5), (.v 6)] <|
 .ite (.v 7) (
  .pm .lget [(.v 0), (.v 5)] <|
  .pm .lget [(.v 1), (.v 5)] <|
  .cl 252 [(fieldsE 8 0 21), (fieldsE 9 0 21)] 1 <|
  .pm .not [(.v 10)] <|
  .ite (.v 11) (
   .out 1 [(.kb false)]) <|
  .pm (.add .i64) [(.v 5), (.ki 1)] <|
  .out 2 [(.v 12)]) <|
 .out 1 [(.kb true)]
def l107_0 : A := .lp 2 [(.ki 0)] l107_0b
def a107 : A :=
 .pm .llen [(.v 0)] <|
 .pm .llen [(.v 1)] <|
 .pm .ne [(.v 2), (.v 3)] <|
 .ite (.v 4) (
  .out 1 [(.kb false)]) <|
 l107_0
theorem c107 : compF B Tryz.f107 (look h107) [z76, z76] [z4] = some a107 := by kernel_rfl
theorem k107 : callable Tryz.prog 107 = true := by kernel_rfl
theorem s107 {vs us : List V} (h : a107.wp Cl (ans us) vs) : Cl 107 vs us := cc_of tabOk mixed Tryz.func107 c107 rfl k107 h
-- 253 laws.eqFly
def h253 : List (Nat × Tm) := []
def a253 : A :=
 .pm .ne [(.pj (.v 0) 0), (.pj (.v 1) 0)] <|
 .ite (.v 2) (
  .out 1 [(.kb false)]) <|
 .cl 359 [(.tc (.pj (.v 0) 1) (.tc (.pj (.v 0) 2) (.tc (.pj (.v 0) 3) (.tc (.pj (.v 0) 4) .tn)))), (.tc (.pj (.v 1) 1) (.tc (.pj (.v 1) 2) (.tc (.pj (.v 1) 3) (.tc (.pj (.v 1) 4) .tn))))] 1 <|
 .pm .not [(.v 3)] <|
 .ite (.v 4) (
  .out 1 [(.kb false)]) <|
 .out 1 [(.kb true)]
theorem c253 : compF B Tryz.f253 (look h253) [z336, z336] [z4] = some a253 := by kernel_rfl
theorem k253 : callable Tryz.prog 253 = true := by kernel_rfl
theorem s253 {vs us : List V} (h : a253.wp Cl (ans us) vs) : Cl 253 vs us := cc_of tabOk mixed Tryz.func253 c253 rfl k253 h
-- 108 laws.eqFlyS
def h108 : List (Nat × Tm) := [(14, ⟨[0, 1], fun n _ => [(5, (.cv (.sc (.int .i64) (.v (n + 0)))))], fun _ _ => [], 1, 0⟩)]
def l108_0b : A :=
 .pm .llen [(.v 0)] <|
 .pm .lt [(.v 5), (.v 6)] <|
 .ite (.v 7) (
  .pm .lget [(.v 0), (.v 5)] <|
  .pm .lget [(.v 1), (.v 5)] <|
  .cl 253 [(.tc (.pj (.v 8) 0) (.tc (.pj (.v 8) 1) (.tc (.pj (.v 8) 2) (.tc (.pj (.v 8) 3) (.tc (.pj (.v 8) 4) .tn))))), (.tc (.pj (.v 9) 0) (.tc (.pj (.v 9) 1) (.tc (.pj (.v 9) 2) (.tc (.pj (.v 9) 3) (.tc (.pj (.v 9) 4) .tn)))))] 1 <|
  .pm .not [(.v 10)] <|
  .ite (.v 11) (
   .out 1 [(.kb false)]) <|
  .pm (.add .i64) [(.v 5), (.ki 1)] <|
  .out 2 [(.v 12)]) <|
 .out 1 [(.kb true)]
def l108_0 : A := .lp 2 [(.ki 0)] l108_0b
def a108 : A :=
 .pm .llen [(.v 0)] <|
 .pm .llen [(.v 1)] <|
 .pm .ne [(.v 2), (.v 3)] <|
 .ite (.v 4) (
  .out 1 [(.kb false)]) <|
 l108_0
theorem c108 : compF B Tryz.f108 (look h108) [z77, z77] [z4] = some a108 := by kernel_rfl
theorem k108 : callable Tryz.prog 108 = true := by kernel_rfl
theorem s108 {vs us : List V} (h : a108.wp Cl (ans us) vs) : Cl 108 vs us := cc_of tabOk mixed Tryz.func108 c108 rfl k108 h
-- 109 laws.eqDecoder
def h109 : List (Nat × Tm) := []
def a109 : A :=
 .pm .bne [(.pj (.v 0) 0), (.pj (.v 1) 0)] <|
 .ite (.v 2) (
  .out 1 [(.kb false)]) <|
 .pm .bne [(.pj (.v 0) 1), (.pj (.v 1) 1)] <|
 .ite (.v 3) (
  .out 1 [(.kb false)]) <|
 .pm .bne [(.pj (.v 0) 2), (.pj (.v 1) 2)] <|
 .ite (.v 4) (
  .out 1 [(.kb false)]) <|
 .cl 202 [(.tc (.pj (.v 0) 3) (.tc (.pj (.v 0) 4) (.tc (.pj (.v 0) 5) (.tc (.pj (.v 0) 6) .tn)))), (.tc (.pj (.v 1) 3) (.tc (.pj (.v 1) 4) (.tc (.pj (.v 1) 5) (.tc (.pj (.v 1) 6) .tn))))] 1 <|
 .pm .not [(.v 5)] <|
 .ite (.v 6) (
  .out 1 [(.kb false)]) <|
 .cl 126 [(.tc (.pj (.v 0) 7) (.tc (.pj (.v 0) 8) (.tc (.pj (.v 0) 9) (.tc (.pj (.v 0) 10) .tn)))), (.tc (.pj (.v 1) 7) (.tc (.pj (.v 1) 8) (.tc (.pj (.v 1) 9) (.tc (.pj (.v 1) 10) .tn))))] 1 <|
 .pm .not [(.v 7)] <|
 .ite (.v 8) (
  .out 1 [(.kb false)]) <|
 .pm .ne [(.pj (.v 0) 11), (.pj (.v 1) 11)] <|
 .ite (.v 9) (
  .out 1 [(.kb false)]) <|
 .pm .ne [(.pj (.v 0) 12), (.pj (.v 1) 12)] <|
 .ite (.v 10) (
  .out 1 [(.kb false)]) <|
 .cl 26 [(.tc (.pj (.v 0) 13) (.tc (.pj (.v 0) 14) (.tc (.pj (.v 0) 15) .tn))), (.tc (.pj (.v 1) 13) (.tc (.pj (.v 1) 14) (.tc (.pj (.v 1) 15) .tn)))] 1 <|
 .pm .not [(.v 11)] <|
 .ite (.v 12) (
  .out 1 [(.kb false)]) <|
 .cl 26 [(.tc (.pj (.v 0) 16) (.tc (.pj (.v 0) 17) (.tc (.pj (.v 0) 18) .tn))), (.tc (.pj (.v 1) 16) (.tc (.pj (.v 1) 17) (.tc (.pj (.v 1) 18) .tn)))] 1 <|
 .pm .not [(.v 13)] <|
 .ite (.v 14) (
  .out 1 [(.kb false)]) <|
 .out 1 [(.kb true)]
theorem c109 : compF B Tryz.f109 (look h109) [z39, z39] [z4] = some a109 := by kernel_rfl
theorem k109 : callable Tryz.prog 109 = true := by kernel_rfl
theorem s109 {vs us : List V} (h : a109.wp Cl (ans us) vs) : Cl 109 vs us := cc_of tabOk mixed Tryz.func109 c109 rfl k109 h
-- 110 laws.eqDecoderS
def h110 : List (Nat × Tm) := [(14, ⟨[0, 1], fun n _ => [(5, (.cv (.sc (.int .i64) (.v (n + 0)))))], fun _ _ => [], 1, 0⟩)]
def l110_0b : A :=
 .pm .llen [(.v 0)] <|
 .pm .lt [(.v 5), (.v 6)] <|
 .ite (.v 7) (
  .pm .lget [(.v 0), (.v 5)] <|
  .pm .lget [(.v 1), (.v 5)] <|
  .cl 109 [(fieldsE 8 0 19), (fieldsE 9 0 19)] 1 <|
  .pm .not [(.v 10)] <|
  .ite (.v 11) (
   .out 1 [(.kb false)]) <|
  .pm (.add .i64) [(.v 5), (.ki 1)] <|
  .out 2 [(.v 12)]) <|
 .out 1 [(.kb true)]
def l110_0 : A := .lp 2 [(.ki 0)] l110_0b
def a110 : A :=
 .pm .llen [(.v 0)] <|
 .pm .llen [(.v 1)] <|
 .pm .ne [(.v 2), (.v 3)] <|
 .ite (.v 4) (
  .out 1 [(.kb false)]) <|
 l110_0
theorem c110 : compF B Tryz.f110 (look h110) [z78, z78] [z4] = some a110 := by kernel_rfl
theorem k110 : callable Tryz.prog 110 = true := by kernel_rfl
theorem s110 {vs us : List V} (h : a110.wp Cl (ans us) vs) : Cl 110 vs us := cc_of tabOk mixed Tryz.func110 c110 rfl k110 h
-- 360 laws.eqPart
def h360 : List (Nat × Tm) := []
def a360 : A :=
 .pm .bne [(.pj (.v 0) 0), (.pj (.v 1) 0)] <|
 .ite (.v 2) (
  .out 1 [(.kb false)]) <|
 .pm .ne [(.pj (.v 0) 1), (.pj (.v 1) 1)] <|
 .ite (.v 3) (
  .out 1 [(.kb false)]) <|
 .pm .sne [(.pj (.v 0) 2), (.pj (.v 1) 2)] <|
 .ite (.v 4) (
  .out 1 [(.kb false)]) <|
 .out 1 [(.kb true)]
theorem c360 : compF B Tryz.f360 (look h360) [z51, z51] [z4] = some a360 := by kernel_rfl
theorem k360 : callable Tryz.prog 360 = true := by kernel_rfl
theorem s360 {vs us : List V} (h : a360.wp Cl (ans us) vs) : Cl 360 vs us := cc_of tabOk mixed Tryz.func360 c360 rfl k360 h
-- 254 laws.eqSight
def h254 : List (Nat × Tm) := []
def a254 : A :=
 .pm .ne [(.pj (.v 0) 0), (.pj (.v 1) 0)] <|
 .ite (.v 2) (
  .out 1 [(.kb false)]) <|
 .pm .ne [(.pj (.v 0) 1), (.pj (.v 1) 1)] <|
 .ite (.v 3) (
  .out 1 [(.kb false)]) <|
 .cl 360 [(.tc (.pj (.v 0) 2) (.tc (.pj (.v 0) 3) (.tc (.pj (.v 0) 4) .tn))), (.tc (.pj (.v 1) 2) (.tc (.pj (.v 1) 3) (.tc (.pj (.v 1) 4) .tn)))] 1 <|
 .pm .not [(.v 4)] <|
 .ite (.v 5) (
  .out 1 [(.kb false)]) <|
 .cl 26 [(.tc (.pj (.v 0) 5) (.tc (.pj (.v 0) 6) (.tc (.pj (.v 0) 7) .tn))), (.tc (.pj (.v 1) 5) (.tc (.pj (.v 1) 6) (.tc (.pj (.v 1) 7) .tn)))] 1 <|
 .pm .not [(.v 6)] <|
 .ite (.v 7) (
  .out 1 [(.kb false)]) <|
 .out 1 [(.kb true)]
theorem c254 : compF B Tryz.f254 (look h254) [z211, z211] [z4] = some a254 := by kernel_rfl
theorem k254 : callable Tryz.prog 254 = true := by kernel_rfl
theorem s254 {vs us : List V} (h : a254.wp Cl (ans us) vs) : Cl 254 vs us := cc_of tabOk mixed Tryz.func254 c254 rfl k254 h
-- 111 laws.eqSightS
def h111 : List (Nat × Tm) := [(14, ⟨[0, 1], fun n _ => [(5, (.cv (.sc (.int .i64) (.v (n + 0)))))], fun _ _ => [], 1, 0⟩)]
def l111_0b : A :=
 .pm .llen [(.v 0)] <|
 .pm .lt [(.v 5), (.v 6)] <|
 .ite (.v 7) (
  .pm .lget [(.v 0), (.v 5)] <|
  .pm .lget [(.v 1), (.v 5)] <|
  .cl 254 [(.tc (.pj (.v 8) 0) (.tc (.pj (.v 8) 1) (.tc (.pj (.v 8) 2) (.tc (.pj (.v 8) 3) (.tc (.pj (.v 8) 4) (.tc (.pj (.v 8) 5) (.tc (.pj (.v 8) 6) (.tc (.pj (.v 8) 7) .tn)))))))), (.tc (.pj (.v 9) 0) (.tc (.pj (.v 9) 1) (.tc (.pj (.v 9) 2) (.tc (.pj (.v 9) 3) (.tc (.pj (.v 9) 4) (.tc (.pj (.v 9) 5) (.tc (.pj (.v 9) 6) (.tc (.pj (.v 9) 7) .tn))))))))] 1 <|
  .pm .not [(.v 10)] <|
  .ite (.v 11) (
   .out 1 [(.kb false)]) <|
  .pm (.add .i64) [(.v 5), (.ki 1)] <|
  .out 2 [(.v 12)]) <|
 .out 1 [(.kb true)]
def l111_0 : A := .lp 2 [(.ki 0)] l111_0b
def a111 : A :=
 .pm .llen [(.v 0)] <|
 .pm .llen [(.v 1)] <|
 .pm .ne [(.v 2), (.v 3)] <|
 .ite (.v 4) (
  .out 1 [(.kb false)]) <|
 l111_0
theorem c111 : compF B Tryz.f111 (look h111) [z79, z79] [z4] = some a111 := by kernel_rfl
theorem k111 : callable Tryz.prog 111 = true := by kernel_rfl
theorem s111 {vs us : List V} (h : a111.wp Cl (ans us) vs) : Cl 111 vs us := cc_of tabOk mixed Tryz.func111 c111 rfl k111 h
-- 320 laws.eqTell
def h320 : List (Nat × Tm) := []
def a320 : A :=
 .pm .ne [(.pj (.v 0) 0), (.pj (.v 1) 0)] <|
 .ite (.v 2) (
  .out 1 [(.kb false)]) <|
 .pm .ne [(.pj (.v 0) 1), (.pj (.v 1) 1)] <|
 .ite (.v 3) (
  .out 1 [(.kb false)]) <|
 .pm .ne [(.pj (.v 0) 2), (.pj (.v 1) 2)] <|
 .ite (.v 4) (
  .out 1 [(.kb false)]) <|
 .out 1 [(.kb true)]
theorem c320 : compF B Tryz.f320 (look h320) [z209, z209] [z4] = some a320 := by kernel_rfl
theorem k320 : callable Tryz.prog 320 = true := by kernel_rfl
theorem s320 {vs us : List V} (h : a320.wp Cl (ans us) vs) : Cl 320 vs us := cc_of tabOk mixed Tryz.func320 c320 rfl k320 h
-- 203 laws.eqTellS
def h203 : List (Nat × Tm) := [(14, ⟨[0, 1], fun n _ => [(5, (.cv (.sc (.int .i64) (.v (n + 0)))))], fun _ _ => [], 1, 0⟩)]
def l203_0b : A :=
 .pm .llen [(.v 0)] <|
 .pm .lt [(.v 5), (.v 6)] <|
 .ite (.v 7) (
  .pm .lget [(.v 0), (.v 5)] <|
  .pm .lget [(.v 1), (.v 5)] <|
  .cl 320 [(.tc (.pj (.v 8) 0) (.tc (.pj (.v 8) 1) (.tc (.pj (.v 8) 2) .tn))), (.tc (.pj (.v 9) 0) (.tc (.pj (.v 9) 1) (.tc (.pj (.v 9) 2) .tn)))] 1 <|
  .pm .not [(.v 10)] <|
  .ite (.v 11) (
   .out 1 [(.kb false)]) <|
  .pm (.add .i64) [(.v 5), (.ki 1)] <|
  .out 2 [(.v 12)]) <|
 .out 1 [(.kb true)]
def l203_0 : A := .lp 2 [(.ki 0)] l203_0b
def a203 : A :=
 .pm .llen [(.v 0)] <|
 .pm .llen [(.v 1)] <|
 .pm .ne [(.v 2), (.v 3)] <|
 .ite (.v 4) (
  .out 1 [(.kb false)]) <|
 l203_0
theorem c203 : compF B Tryz.f203 (look h203) [z123, z123] [z4] = some a203 := by kernel_rfl
theorem k203 : callable Tryz.prog 203 = true := by kernel_rfl
theorem s203 {vs us : List V} (h : a203.wp Cl (ans us) vs) : Cl 203 vs us := cc_of tabOk mixed Tryz.func203 c203 rfl k203 h
-- 43 laws.eqStringS
def h43 : List (Nat × Tm) := [(14, ⟨[0, 1], fun n _ => [(5, (.cv (.sc (.int .i64) (.v (n + 0)))))], fun _ _ => [], 1, 0⟩)]
def l43_0b : A :=
 .pm .llen [(.v 0)] <|
 .pm .lt [(.v 5), (.v 6)] <|
 .ite (.v 7) (
  .pm .lget [(.v 0), (.v 5)] <|
  .pm .lget [(.v 1), (.v 5)] <|
  .pm .sne [(.v 8), (.v 9)] <|
  .ite (.v 10) (
   .out 1 [(.kb false)]) <|
  .pm (.add .i64) [(.v 5), (.ki 1)] <|
  .out 2 [(.v 11)]) <|
 .out 1 [(.kb true)]
def l43_0 : A := .lp 2 [(.ki 0)] l43_0b
def a43 : A :=
 .pm .llen [(.v 0)] <|
 .pm .llen [(.v 1)] <|
 .pm .ne [(.v 2), (.v 3)] <|
 .ite (.v 4) (
  .out 1 [(.kb false)]) <|
 l43_0
theorem c43 : compF B Tryz.f43 (look h43) [z32, z32] [z4] = some a43 := by kernel_rfl
theorem k43 : callable Tryz.prog 43 = true := by kernel_rfl
theorem s43 {vs us : List V} (h : a43.wp Cl (ans us) vs) : Cl 43 vs us := cc_of tabOk mixed Tryz.func43 c43 rfl k43 h
-- 361 laws.eqPicS
def h361 : List (Nat × Tm) := [(14, ⟨[0, 1], fun n _ => [(5, (.cv (.sc (.int .i64) (.v (n + 0)))))], fun _ _ => [], 1, 0⟩)]
def l361_0b : A :=
 .pm .llen [(.v 0)] <|
 .pm .lt [(.v 5), (.v 6)] <|
 .ite (.v 7) (
  .pm .lget [(.v 0), (.v 5)] <|
  .pm .lget [(.v 1), (.v 5)] <|
  .cl 26 [(.tc (.pj (.v 8) 0) (.tc (.pj (.v 8) 1) (.tc (.pj (.v 8) 2) .tn))), (.tc (.pj (.v 9) 0) (.tc (.pj (.v 9) 1) (.tc (.pj (.v 9) 2) .tn)))] 1 <|
  .pm .not [(.v 10)] <|
  .ite (.v 11) (
   .out 1 [(.kb false)]) <|
  .pm (.add .i64) [(.v 5), (.ki 1)] <|
  .out 2 [(.v 12)]) <|
 .out 1 [(.kb true)]
def l361_0 : A := .lp 2 [(.ki 0)] l361_0b
def a361 : A :=
 .pm .llen [(.v 0)] <|
 .pm .llen [(.v 1)] <|
 .pm .ne [(.v 2), (.v 3)] <|
 .ite (.v 4) (
  .out 1 [(.kb false)]) <|
 l361_0
theorem c361 : compF B Tryz.f361 (look h361) [z40, z40] [z4] = some a361 := by kernel_rfl
theorem k361 : callable Tryz.prog 361 = true := by kernel_rfl
theorem s361 {vs us : List V} (h : a361.wp Cl (ans us) vs) : Cl 361 vs us := cc_of tabOk mixed Tryz.func361 c361 rfl k361 h
-- 255 laws.eqLook
def h255 : List (Nat × Tm) := []
def a255 : A :=
 .cl 202 [(.tc (.pj (.v 0) 0) (.tc (.pj (.v 0) 1) (.tc (.pj (.v 0) 2) (.tc (.pj (.v 0) 3) .tn)))), (.tc (.pj (.v 1) 0) (.tc (.pj (.v 1) 1) (.tc (.pj (.v 1) 2) (.tc (.pj (.v 1) 3) .tn))))] 1 <|
 .pm .not [(.v 2)] <|
 .ite (.v 3) (
  .out 1 [(.kb false)]) <|
 .cl 203 [(.pj (.v 0) 4), (.pj (.v 1) 4)] 1 <|
 .pm .not [(.v 4)] <|
 .ite (.v 5) (
  .out 1 [(.kb false)]) <|
 .cl 43 [(.pj (.v 0) 5), (.pj (.v 1) 5)] 1 <|
 .pm .not [(.v 6)] <|
 .ite (.v 7) (
  .out 1 [(.kb false)]) <|
 .cl 113 [(.pj (.v 0) 6), (.pj (.v 1) 6)] 1 <|
 .pm .not [(.v 8)] <|
 .ite (.v 9) (
  .out 1 [(.kb false)]) <|
 .cl 361 [(.pj (.v 0) 7), (.pj (.v 1) 7)] 1 <|
 .pm .not [(.v 10)] <|
 .ite (.v 11) (
  .out 1 [(.kb false)]) <|
 .out 1 [(.kb true)]
theorem c255 : compF B Tryz.f255 (look h255) [z172, z172] [z4] = some a255 := by kernel_rfl
theorem k255 : callable Tryz.prog 255 = true := by kernel_rfl
theorem s255 {vs us : List V} (h : a255.wp Cl (ans us) vs) : Cl 255 vs us := cc_of tabOk mixed Tryz.func255 c255 rfl k255 h
-- 112 laws.eqLookS
def h112 : List (Nat × Tm) := [(14, ⟨[0, 1], fun n _ => [(5, (.cv (.sc (.int .i64) (.v (n + 0)))))], fun _ _ => [], 1, 0⟩)]
def l112_0b : A :=
 .pm .llen [(.v 0)] <|
 .pm .lt [(.v 5), (.v 6)] <|
 .ite (.v 7) (
  .pm .lget [(.v 0), (.v 5)] <|
  .pm .lget [(.v 1), (.v 5)] <|
  .cl 255 [(.tc (.pj (.v 8) 0) (.tc (.pj (.v 8) 1) (.tc (.pj (.v 8) 2) (.tc (.pj (.v 8) 3) (.tc (.pj (.v 8) 4) (.tc (.pj (.v 8) 5) (.tc (.pj (.v 8) 6) (.tc (.pj (.v 8) 7) .tn)))))))), (.tc (.pj (.v 9) 0) (.tc (.pj (.v 9) 1) (.tc (.pj (.v 9) 2) (.tc (.pj (.v 9) 3) (.tc (.pj (.v 9) 4) (.tc (.pj (.v 9) 5) (.tc (.pj (.v 9) 6) (.tc (.pj (.v 9) 7) .tn))))))))] 1 <|
  .pm .not [(.v 10)] <|
  .ite (.v 11) (
   .out 1 [(.kb false)]) <|
  .pm (.add .i64) [(.v 5), (.ki 1)] <|
  .out 2 [(.v 12)]) <|
 .out 1 [(.kb true)]
def l112_0 : A := .lp 2 [(.ki 0)] l112_0b
def a112 : A :=
 .pm .llen [(.v 0)] <|
 .pm .llen [(.v 1)] <|
 .pm .ne [(.v 2), (.v 3)] <|
 .ite (.v 4) (
  .out 1 [(.kb false)]) <|
 l112_0
theorem c112 : compF B Tryz.f112 (look h112) [z80, z80] [z4] = some a112 := by kernel_rfl
theorem k112 : callable Tryz.prog 112 = true := by kernel_rfl
theorem s112 {vs us : List V} (h : a112.wp Cl (ans us) vs) : Cl 112 vs us := cc_of tabOk mixed Tryz.func112 c112 rfl k112 h
-- 27 laws.eqWorld
def h27 : List (Nat × Tm) := []
def a27 : A :=
 .cl 34 [(fieldsE 0 0 18), (fieldsE 1 0 18)] 1 <|
 .pm .not [(.v 2)] <|
 .ite (.v 3) (
  .out 1 [(.kb false)]) <|
 .cl 107 [(.pj (.v 0) 18), (.pj (.v 1) 18)] 1 <|
 .pm .not [(.v 4)] <|
 .ite (.v 5) (
  .out 1 [(.kb false)]) <|
 .cl 108 [(.pj (.v 0) 19), (.pj (.v 1) 19)] 1 <|
 .pm .not [(.v 6)] <|
 .ite (.v 7) (
  .out 1 [(.kb false)]) <|
 .cl 109 [(.tc (.pj (.v 0) 20) (.tc (.pj (.v 0) 21) (.tc (.pj (.v 0) 22) (.tc (.pj (.v 0) 23) (.tc (.pj (.v 0) 24) (.tc (.pj (.v 0) 25) (.tc (.pj (.v 0) 26) (.tc (.pj (.v 0) 27) (.tc (.pj (.v 0) 28) (.tc (.pj (.v 0) 29) (.tc (.pj (.v 0) 30) (.tc (.pj (.v 0) 31) (.tc (.pj (.v 0) 32) (.tc (.pj (.v 0) 33) (.tc (.pj (.v 0) 34) (.tc (.pj (.v 0) 35) (.tc (.pj (.v 0) 36) (.tc (.pj (.v 0) 37) (.tc (.pj (.v 0) 38) .tn))))))))))))))))))), (.tc (.pj (.v 1) 20) (.tc (.pj (.v 1) 21) (.tc (.pj (.v 1) 22) (.tc (.pj (.v 1) 23) (.tc (.pj (.v 1) 24) (.tc (.pj (.v 1) 25) (.tc (.pj (.v 1) 26) (.tc (.pj (.v 1) 27) (.tc (.pj (.v 1) 28) (.tc (.pj (.v 1) 29) (.tc (.pj (.v 1) 30) (.tc (.pj (.v 1) 31) (.tc (.pj (.v 1) 32) (.tc (.pj (.v 1) 33) (.tc (.pj (.v 1) 34) (.tc (.pj (.v 1) 35) (.tc (.pj (.v 1) 36) (.tc (.pj (.v 1) 37) (.tc (.pj (.v 1) 38) .tn)))))))))))))))))))] 1 <|
 .pm .not [(.v 8)] <|
 .ite (.v 9) (
  .out 1 [(.kb false)]) <|
 .cl 110 [(.pj (.v 0) 39), (.pj (.v 1) 39)] 1 <|
 .pm .not [(.v 10)] <|
 .ite (.v 11) (
  .out 1 [(.kb false)]) <|
 .cl 111 [(.pj (.v 0) 40), (.pj (.v 1) 40)] 1 <|
 .pm .not [(.v 12)] <|
 .ite (.v 13) (
  .out 1 [(.kb false)]) <|
 .cl 112 [(.pj (.v 0) 41), (.pj (.v 1) 41)] 1 <|
 .pm .not [(.v 14)] <|
 .ite (.v 15) (
  .out 1 [(.kb false)]) <|
 .cl 113 [(.pj (.v 0) 42), (.pj (.v 1) 42)] 1 <|
 .pm .not [(.v 16)] <|
 .ite (.v 17) (
  .out 1 [(.kb false)]) <|
 .out 1 [(.kb true)]
theorem c27 : compF B Tryz.f27 (look h27) [z82, z82] [z4] = some a27 := by kernel_rfl
theorem k27 : callable Tryz.prog 27 = true := by kernel_rfl
theorem s27 {vs us : List V} (h : a27.wp Cl (ans us) vs) : Cl 27 vs us := cc_of tabOk mixed Tryz.func27 c27 rfl k27 h
-- 4 laws.FnExactTileShows
def h4 : List (Nat × Tm) := [(27, ⟨[3, 10], fun n _ => [(43, (.cv (.sc .bool (.v (n + 0)))))], fun _ _ => [], 1, 0⟩)]
def a4 : A :=
 .cl 22 [(fieldsE 0 0 43), (.ki 1048576)] 1 <|
 .pm .lt [(.v 3), (.ki 0)] <|
 .ite (.v 4) (
  .out 1 [(.kb true)]) <|
 .cl 24 [(fieldsE 0 0 43)] 1 <|
 .cl 23 [(fieldsE 5 0 43), (.v 1), (.v 2)] 2 <|
 .cl 24 [(fieldsE 0 0 43)] 1 <|
 .cl 25 [(fieldsE 8 0 43), (.v 1), (.v 2)] 2 <|
 .jn 2 (
  .cl 26 [(.tc (.pj (.v 9) 0) (.tc (.pj (.v 9) 1) (.tc (.pj (.v 9) 2) .tn))), (.tc (.pj (.v 6) 0) (.tc (.pj (.v 6) 1) (.tc (.pj (.v 6) 2) .tn)))] 1 <|
  .pm .not [(.v 11)] <|
  .ite (.v 12) (
   .out 2 [(.kb true)]) <|
  .pm .bne [(.v 10), (.v 7)] <|
  .out 2 [(.v 13)]) <|
 .ite (.v 11) (
  .out 1 [(.kb false)]) <|
 .cl 24 [(fieldsE 0 0 43)] 1 <|
 .cl 27 [(fieldsE 8 0 43), (fieldsE 12 0 43)] 1 <|
 .pm .not [(.v 13)] <|
 .ite (.v 14) (
  .out 1 [(.kb false)]) <|
 .out 1 [(.kb true)]
theorem c4 : compF B Tryz.f4 (look h4) [z69, z3, z3] [z4] = some a4 := by kernel_rfl
theorem k4 : callable Tryz.prog 4 = true := by kernel_rfl
theorem s4 {vs us : List V} (h : a4.wp Cl (ans us) vs) : Cl 4 vs us := cc_of tabOk mixed Tryz.func4 c4 rfl k4 h
-- 133 spec.SightOf
def h133 : List (Nat × Tm) := [(15, ⟨[1, 2, 3, 6, 8], fun n _ => [(33, (.cv (.sc .bool (.v (n + 0)))))], fun _ _ => [], 1, 0⟩), (8, ⟨[1, 2, 3, 6], fun n _ => [(8, (.cv (.sc (.int .i64) (.v (n + 0)))))], fun _ _ => [], 1, 0⟩)]
def l133_0b : A :=
 .pm .llen [(.pj (.v 0) 40)] <|
 .pm .lt [(.v 3), (.v 4)] <|
 .ite (.v 5) (
  .jn 3 (
   .pm .lget [(.pj (.v 0) 40), (.v 3)] <|
   .pm .eq [(.pj (.v 6) 0), (.v 1)] <|
   .ite (.v 7) (
    .pm .lget [(.pj (.v 0) 40), (.v 3)] <|
    .pm .eq [(.pj (.v 8) 1), (.v 2)] <|
    .out 3 [(.v 9)]) <|
   .out 3 [(.kb false)]) <|
  .ite (.v 6) (
   .pm .lget [(.pj (.v 0) 40), (.v 3)] <|
   .out 1 [(.tc (.pj (.v 7) 0) (.tc (.pj (.v 7) 1) (.tc (.pj (.v 7) 2) (.tc (.pj (.v 7) 3) (.tc (.pj (.v 7) 4) (.tc (.pj (.v 7) 5) (.tc (.pj (.v 7) 6) (.tc (.pj (.v 7) 7) .tn)))))))), (.kb true)]) <|
  .pm (.add .i64) [(.v 3), (.ki 1)] <|
  .out 2 [(.v 7)]) <|
 .out 1 [(.tc (.ki 0) (.tc (.ki 0) (.tc (.kb false) (.tc (.ki 0) (.tc (.ks []) (.tc (.ki 0) (.tc (.ki 0) (.tc (.ks []) .tn)))))))), (.kb false)]
def l133_0 : A := .lp 2 [(.ki 0)] l133_0b
def a133 : A :=
 l133_0
theorem c133 : compF B Tryz.f133 (look h133) [z82, z3, z3] [z211, z4] = some a133 := by kernel_rfl
theorem k133 : callable Tryz.prog 133 = true := by kernel_rfl
theorem s133 {vs us : List V} (h : a133.wp Cl (ans us) vs) : Cl 133 vs us := cc_of tabOk mixed Tryz.func133 c133 rfl k133 h
-- 134 spec.l30Same
def h134 : List (Nat × Tm) := []
def a134 : A :=
 .pm .eq [(.pj (.v 0) 0), (.pj (.v 1) 0)] <|
 .ite (.v 2) (
  .pm .eq [(.pj (.v 0) 1), (.pj (.v 1) 1)] <|
  .ite (.v 3) (
   .pm .seq [(.pj (.v 0) 2), (.pj (.v 1) 2)] <|
   .out 1 [(.v 4)]) <|
  .out 1 [(.kb false)]) <|
 .out 1 [(.kb false)]
theorem c134 : compF B Tryz.f134 (look h134) [z37, z37] [z4] = some a134 := by kernel_rfl
theorem k134 : callable Tryz.prog 134 = true := by kernel_rfl
theorem s134 {vs us : List V} (h : a134.wp Cl (ans us) vs) : Cl 134 vs us := cc_of tabOk mixed Tryz.func134 c134 rfl k134 h
-- 285 spec.l01Long
def h285 : List (Nat × Tm) := [(11, ⟨[0, 1], fun n i => [(5, (.cv (.own (i + 0)))), (6, (.cv (.sc (.int .i64) (.v (n + 0)))))], fun n i => [((i + 0), (.arr 1 (.int .u8) 5 (.v (n + 1))))], 2, 1⟩)]
def l285_0b : A :=
 .pm .lt [(.v 3), (.v 0)] <|
 .ite (.v 5) (
  .pm .lget [(.v 4), (.v 3)] <|
  .pm .lset [(.v 4), (.v 3), (.v 1)] <|
  .pm (.add .i64) [(.v 3), (.ki 1)] <|
  .out 2 [(.v 8), (.v 7)]) <|
 .pm .strl [(.v 4)] <|
 .out 1 [(.v 6)]
def l285_0 : A := .lp 2 [(.ki 0), (.v 2)] l285_0b
def a285 : A :=
 .pm (.lmk 1) [(.v 0), (.v 0), (.ki 0)] <|
 l285_0
theorem c285 : compF B Tryz.f285 (look h285) [z3, z5] [z9] = some a285 := by kernel_rfl
theorem k285 : callable Tryz.prog 285 = true := by kernel_rfl
theorem s285 {vs us : List V} (h : a285.wp Cl (ans us) vs) : Cl 285 vs us := cc_of tabOk mixed Tryz.func285 c285 rfl k285 h
-- 135 spec.Grey
def h135 : List (Nat × Tm) := [(6, ⟨[0, 1, 4], fun n _ => [(12, (.cv (.sc .bool (.v (n + 0)))))], fun _ _ => [], 1, 0⟩)]
def a135 : A :=
 .jn 2 (
  .cl 118 [(.v 0), (.ki 1), (.ki 256)] 1 <|
  .pm .not [(.v 2)] <|
  .ite (.v 3) (
   .out 2 [(.kb true)]) <|
  .cl 118 [(.v 1), (.ki 1), (.ki 256)] 1 <|
  .pm .not [(.v 4)] <|
  .out 2 [(.v 5)]) <|
 .ite (.v 2) (
  .out 1 [(.tc (.ki 0) (.tc (.ki 0) (.tc (.ks []) .tn)))]) <|
 .pm (.mul .i64) [(.v 0), (.v 1)] <|
 .cl 285 [(.v 3), (.ki 128)] 1 <|
 .out 1 [(.tc (.v 0) (.tc (.v 1) (.tc (.v 4) .tn)))]
theorem c135 : compF B Tryz.f135 (look h135) [z3, z3] [z37] = some a135 := by kernel_rfl
theorem k135 : callable Tryz.prog 135 = true := by kernel_rfl
theorem s135 {vs us : List V} (h : a135.wp Cl (ans us) vs) : Cl 135 vs us := cc_of tabOk mixed Tryz.func135 c135 rfl k135 h
-- 37 spec.TileTrue
def h37 : List (Nat × Tm) := [(9, ⟨[1, 2, 3, 7], fun n _ => [(31, (.cv (.sc .bool (.v (n + 0)))))], fun _ _ => [], 1, 0⟩), (24, ⟨[3, 7, 9, 42], fun n _ => [(43, (.cv (.sc .bool (.v (n + 0)))))], fun _ _ => [], 1, 0⟩)]
def a37 : A :=
 .cl 23 [(fieldsE 0 0 43), (.v 1), (.v 2)] 2 <|
 .jn 2 (
  .pm .not [(.v 4)] <|
  .ite (.v 5) (
   .out 2 [(.kb true)]) <|
  .pm .lget [(.pj (.v 0) 41), (.v 1)] <|
  .pm .llen [(.pj (.v 6) 4)] <|
  .pm .ge [(.v 2), (.v 7)] <|
  .out 2 [(.v 8)]) <|
 .ite (.v 5) (
  .out 1 [(.kb false)]) <|
 .pm .lget [(.pj (.v 0) 41), (.v 1)] <|
 .pm .lget [(.pj (.v 6) 4), (.v 2)] <|
 .jn 2 (
  .pm .eq [(.pj (.v 7) 0), (.ki 1)] <|
  .ite (.v 8) (
   .out 2 [(.v 8)]) <|
  .pm .eq [(.pj (.v 7) 0), (.ki 2)] <|
  .out 2 [(.v 9)]) <|
 .ite (.v 8) (
  .cl 133 [(fieldsE 0 0 43), (.pj (.v 7) 1), (.pj (.v 7) 2)] 2 <|
  .ite (.v 10) (
   .cl 134 [(.tc (.pj (.v 3) 0) (.tc (.pj (.v 3) 1) (.tc (.pj (.v 3) 2) .tn))), (.tc (.pj (.v 9) 5) (.tc (.pj (.v 9) 6) (.tc (.pj (.v 9) 7) .tn)))] 1 <|
   .out 1 [(.v 11)]) <|
  .out 1 [(.kb false)]) <|
 .pm .eq [(.pj (.v 7) 0), (.ki 3)] <|
 .ite (.v 9) (
  .cl 135 [(.pj (.v 3) 0), (.pj (.v 3) 1)] 1 <|
  .cl 134 [(.tc (.pj (.v 3) 0) (.tc (.pj (.v 3) 1) (.tc (.pj (.v 3) 2) .tn))), (.tc (.pj (.v 10) 0) (.tc (.pj (.v 10) 1) (.tc (.pj (.v 10) 2) .tn)))] 1 <|
  .out 1 [(.v 11)]) <|
 .out 1 [(.kb false)]
theorem c37 : compF B Tryz.f37 (look h37) [z82, z3, z3] [z4] = some a37 := by kernel_rfl
theorem k37 : callable Tryz.prog 37 = true := by kernel_rfl
theorem s37 {vs us : List V} (h : a37.wp Cl (ans us) vs) : Cl 37 vs us := cc_of tabOk mixed Tryz.func37 c37 rfl k37 h
-- 136 impl.SightOf
def h136 : List (Nat × Tm) := [(15, ⟨[1, 2, 6, 9, 11, 12, 13], fun n _ => [(26, (.cv (.sc .bool (.v (n + 0)))))], fun _ _ => [], 1, 0⟩), (8, ⟨[1, 2, 6, 11, 12], fun n _ => [(13, (.cv (.sc (.int .i64) (.v (n + 0)))))], fun _ _ => [], 1, 0⟩)]
def l136_0b : A :=
 .pm .lt [(.v 4), (.v 3)] <|
 .ite (.v 5) (
  .pm .lget [(.pj (.v 0) 40), (.v 4)] <|
  .jn 3 (
   .pm .eq [(.pj (.v 6) 0), (.v 1)] <|
   .ite (.v 7) (
    .pm .eq [(.pj (.v 6) 1), (.v 2)] <|
    .out 3 [(.v 8)]) <|
   .out 3 [(.kb false)]) <|
  .ite (.v 7) (
   .out 1 [(.tc (.pj (.v 6) 0) (.tc (.pj (.v 6) 1) (.tc (.pj (.v 6) 2) (.tc (.pj (.v 6) 3) (.tc (.pj (.v 6) 4) (.tc (.pj (.v 6) 5) (.tc (.pj (.v 6) 6) (.tc (.pj (.v 6) 7) .tn)))))))), (.kb true)]) <|
  .pm (.add .i64) [(.v 4), (.ki 1)] <|
  .out 2 [(.v 8)]) <|
 .out 1 [(.tc (.ki 0) (.tc (.ki 0) (.tc (.kb false) (.tc (.ki 0) (.tc (.ks []) (.tc (.ki 0) (.tc (.ki 0) (.tc (.ks []) .tn)))))))), (.kb false)]
def l136_0 : A := .lp 2 [(.ki 0)] l136_0b
def a136 : A :=
 .pm .llen [(.pj (.v 0) 40)] <|
 l136_0
theorem c136 : compF B Tryz.f136 (look h136) [z82, z3, z3] [z211, z4] = some a136 := by kernel_rfl
theorem k136 : callable Tryz.prog 136 = true := by kernel_rfl
theorem s136 {vs us : List V} (h : a136.wp Cl (ans us) vs) : Cl 136 vs us := cc_of tabOk mixed Tryz.func136 c136 rfl k136 h
-- 137 impl.Grey
def h137 : List (Nat × Tm) := [(6, ⟨[0, 1, 4], fun n _ => [(14, (.cv (.sc .bool (.v (n + 0)))))], fun _ _ => [], 1, 0⟩), (17, ⟨[0, 1, 4, 21], fun n i => [(5, (.cv (.own (i + 0)))), (22, (.cv (.sc (.int .i64) (.v (n + 0)))))], fun n i => [((i + 0), (.arr 1 (.int .u8) 5 (.v (n + 1))))], 2, 1⟩)]
def l137_0b : A :=
 .pm .lt [(.v 6), (.v 5)] <|
 .ite (.v 8) (
  .pm .lget [(.v 7), (.v 6)] <|
  .pm .lset [(.v 7), (.v 6), (.ki 128)] <|
  .pm (.add .i64) [(.v 6), (.ki 1)] <|
  .out 2 [(.v 11), (.v 10)]) <|
 .pm .strl [(.v 7)] <|
 .out 1 [(.tc (.v 0) (.tc (.v 1) (.tc (.v 9) .tn)))]
def l137_0 : A := .lp 2 [(.ki 0), (.v 4)] l137_0b
def a137 : A :=
 .jn 2 (
  .cl 84 [(.v 0), (.ki 1), (.ki 256)] 1 <|
  .pm .not [(.v 2)] <|
  .ite (.v 3) (
   .out 2 [(.kb true)]) <|
  .cl 84 [(.v 1), (.ki 1), (.ki 256)] 1 <|
  .pm .not [(.v 4)] <|
  .out 2 [(.v 5)]) <|
 .ite (.v 2) (
  .out 1 [(.tc (.ki 0) (.tc (.ki 0) (.tc (.ks []) .tn)))]) <|
 .pm (.mul .i64) [(.v 0), (.v 1)] <|
 .pm (.lmk 1) [(.v 3), (.v 3), (.ki 0)] <|
 .pm .llen [(.v 4)] <|
 l137_0
theorem c137 : compF B Tryz.f137 (look h137) [z3, z3] [z37] = some a137 := by kernel_rfl
theorem k137 : callable Tryz.prog 137 = true := by kernel_rfl
theorem s137 {vs us : List V} (h : a137.wp Cl (ans us) vs) : Cl 137 vs us := cc_of tabOk mixed Tryz.func137 c137 rfl k137 h
-- 38 impl.TileTrue
def h38 : List (Nat × Tm) := [(9, ⟨[1, 2, 3, 7], fun n _ => [(33, (.cv (.sc .bool (.v (n + 0)))))], fun _ _ => [], 1, 0⟩), (24, ⟨[3, 7, 9, 44], fun n _ => [(45, (.cv (.sc .bool (.v (n + 0)))))], fun _ _ => [], 1, 0⟩)]
def a38 : A :=
 .cl 25 [(fieldsE 0 0 43), (.v 1), (.v 2)] 2 <|
 .jn 2 (
  .pm .not [(.v 4)] <|
  .ite (.v 5) (
   .out 2 [(.kb true)]) <|
  .pm .lget [(.pj (.v 0) 41), (.v 1)] <|
  .pm .llen [(.pj (.v 6) 4)] <|
  .pm (.sub .i64) [(.v 7), (.ki 1)] <|
  .cl 84 [(.v 2), (.ki 0), (.v 8)] 1 <|
  .pm .not [(.v 9)] <|
  .out 2 [(.v 10)]) <|
 .ite (.v 5) (
  .out 1 [(.kb false)]) <|
 .pm .lget [(.pj (.v 0) 41), (.v 1)] <|
 .pm .lget [(.pj (.v 6) 4), (.v 2)] <|
 .jn 2 (
  .pm .eq [(.pj (.v 7) 0), (.ki 1)] <|
  .ite (.v 8) (
   .out 2 [(.v 8)]) <|
  .pm .eq [(.pj (.v 7) 0), (.ki 2)] <|
  .out 2 [(.v 9)]) <|
 .ite (.v 8) (
  .cl 136 [(fieldsE 0 0 43), (.pj (.v 7) 1), (.pj (.v 7) 2)] 2 <|
  .ite (.v 10) (
   .pm .teq [(.tc (.pj (.v 3) 0) (.tc (.pj (.v 3) 1) (.tc (.pj (.v 3) 2) .tn))), (.tc (.pj (.v 9) 5) (.tc (.pj (.v 9) 6) (.tc (.pj (.v 9) 7) .tn)))] <|
   .out 1 [(.v 11)]) <|
  .out 1 [(.kb false)]) <|
 .pm .eq [(.pj (.v 7) 0), (.ki 3)] <|
 .ite (.v 9) (
  .cl 137 [(.pj (.v 3) 0), (.pj (.v 3) 1)] 1 <|
  .pm .teq [(.tc (.pj (.v 3) 0) (.tc (.pj (.v 3) 1) (.tc (.pj (.v 3) 2) .tn))), (.tc (.pj (.v 10) 0) (.tc (.pj (.v 10) 1) (.tc (.pj (.v 10) 2) .tn)))] <|
  .out 1 [(.v 11)]) <|
 .out 1 [(.kb false)]
theorem c38 : compF B Tryz.f38 (look h38) [z82, z3, z3] [z4] = some a38 := by kernel_rfl
theorem k38 : callable Tryz.prog 38 = true := by kernel_rfl
theorem s38 {vs us : List V} (h : a38.wp Cl (ans us) vs) : Cl 38 vs us := cc_of tabOk mixed Tryz.func38 c38 rfl k38 h
-- 6 laws.FnExactTileTrue
def h6 : List (Nat × Tm) := []
def a6 : A :=
 .cl 22 [(fieldsE 0 0 43), (.ki 1048576)] 1 <|
 .pm .lt [(.v 3), (.ki 0)] <|
 .ite (.v 4) (
  .out 1 [(.kb true)]) <|
 .cl 24 [(fieldsE 0 0 43)] 1 <|
 .cl 37 [(fieldsE 5 0 43), (.v 1), (.v 2)] 1 <|
 .cl 24 [(fieldsE 0 0 43)] 1 <|
 .cl 38 [(fieldsE 7 0 43), (.v 1), (.v 2)] 1 <|
 .pm .bne [(.v 8), (.v 6)] <|
 .ite (.v 9) (
  .out 1 [(.kb false)]) <|
 .cl 24 [(fieldsE 0 0 43)] 1 <|
 .cl 27 [(fieldsE 7 0 43), (fieldsE 10 0 43)] 1 <|
 .pm .not [(.v 11)] <|
 .ite (.v 12) (
  .out 1 [(.kb false)]) <|
 .out 1 [(.kb true)]
theorem c6 : compF B Tryz.f6 (look h6) [z69, z3, z3] [z4] = some a6 := by kernel_rfl
theorem k6 : callable Tryz.prog 6 = true := by kernel_rfl
theorem s6 {vs us : List V} (h : a6.wp Cl (ans us) vs) : Cl 6 vs us := cc_of tabOk mixed Tryz.func6 c6 rfl k6 h
-- 287 spec.SizeOf
def h287 : List (Nat × Tm) := []
def a287 : A :=
 .cl 138 [(.tc (.pj (.v 0) 0) (.tc (.pj (.v 0) 1) (.tc (.pj (.v 0) 2) (.tc (.pj (.v 0) 3) .tn))))] 1 <|
 .pm .not [(.v 1)] <|
 .ite (.v 2) (
  .out 1 [(.ki 0), (.ki 0)]) <|
 .cl 322 [(.pj (.v 0) 2)] 1 <|
 .pm (.mul .i64) [(.ki 8), (.v 3)] <|
 .cl 322 [(.pj (.v 0) 3)] 1 <|
 .pm (.mul .i64) [(.ki 8), (.v 5)] <|
 .out 1 [(.v 4), (.v 6)]
theorem c287 : compF B Tryz.f287 (look h287) [z26] [z3, z3] = some a287 := by kernel_rfl
theorem k287 : callable Tryz.prog 287 = true := by kernel_rfl
theorem s287 {vs us : List V} (h : a287.wp Cl (ans us) vs) : Cl 287 vs us := cc_of tabOk mixed Tryz.func287 c287 rfl k287 h
-- 139 spec.l20Sized
def h139 : List (Nat × Tm) := []
def a139 : A :=
 .cl 287 [(.tc (.pj (.v 1) 0) (.tc (.pj (.v 1) 1) (.tc (.pj (.v 1) 2) (.tc (.pj (.v 1) 3) .tn))))] 2 <|
 .cl 288 [(.tc (.pj (.v 0) 0) (.tc (.pj (.v 0) 1) (.tc (.pj (.v 0) 2) .tn)))] 1 <|
 .ite (.v 4) (
  .pm .eq [(.pj (.v 0) 0), (.v 2)] <|
  .ite (.v 5) (
   .pm .eq [(.pj (.v 0) 1), (.v 3)] <|
   .out 1 [(.v 6)]) <|
  .out 1 [(.kb false)]) <|
 .out 1 [(.kb false)]
theorem c139 : compF B Tryz.f139 (look h139) [z37, z26] [z4] = some a139 := by kernel_rfl
theorem k139 : callable Tryz.prog 139 = true := by kernel_rfl
theorem s139 {vs us : List V} (h : a139.wp Cl (ans us) vs) : Cl 139 vs us := cc_of tabOk mixed Tryz.func139 c139 rfl k139 h
-- 39 spec.LookTrue
def h39 : List (Nat × Tm) := [(6, ⟨[1, 2], fun n _ => [(16, (.cv (.sc .bool (.v (n + 0)))))], fun _ _ => [], 1, 0⟩), (17, ⟨[1, 2, 5], fun n _ => [(6, (.cv (.sc (.int .i64) (.v (n + 0)))))], fun _ _ => [], 1, 0⟩), (30, ⟨[1, 2, 5], fun n _ => [(63, (.cv (.sc .bool (.v (n + 0)))))], fun _ _ => [], 1, 0⟩), (38, ⟨[1, 2, 5], fun n _ => [(7, (.cv (.sc (.int .i64) (.v (n + 0)))))], fun _ _ => [], 1, 0⟩)]
def l39_0b : A :=
 .pm .llen [(.pj (.v 3) 4)] <|
 .pm .lt [(.v 8), (.v 9)] <|
 .ite (.v 10) (
  .cl 37 [(fieldsE 0 0 43), (.v 1), (.v 8)] 1 <|
  .pm .not [(.v 11)] <|
  .ite (.v 12) (
   .out 1 [(.kb false)]) <|
  .pm (.add .i64) [(.v 8), (.ki 1)] <|
  .out 2 [(.v 13)]) <|
 .out 1 [(.kb true)]
def l39_0 : A := .lp 2 [(.ki 0)] l39_0b
def l39_1b : A :=
 .pm .llen [(.pj (.v 3) 6)] <|
 .pm .lt [(.v 4), (.v 5)] <|
 .ite (.v 6) (
  .pm .lget [(.pj (.v 3) 6), (.v 4)] <|
  .pm .ne [(.v 7), (.ki 0)] <|
  .ite (.v 8) (
   .out 1 [(.kb false)]) <|
  .pm (.add .i64) [(.v 4), (.ki 1)] <|
  .out 2 [(.v 9)]) <|
 .jn 2 (
  .pm .llen [(.pj (.v 3) 7)] <|
  .pm .ne [(.v 7), (.ki 1)] <|
  .ite (.v 8) (
   .out 2 [(.kb true)]) <|
  .cl 138 [(.tc (.pj (.v 3) 0) (.tc (.pj (.v 3) 1) (.tc (.pj (.v 3) 2) (.tc (.pj (.v 3) 3) .tn))))] 1 <|
  .pm .not [(.v 9)] <|
  .ite (.v 10) (
   .out 2 [(.kb true)]) <|
  .pm .lget [(.pj (.v 3) 7), (.ki 0)] <|
  .cl 139 [(.tc (.pj (.v 11) 0) (.tc (.pj (.v 11) 1) (.tc (.pj (.v 11) 2) .tn))), (.tc (.pj (.v 3) 0) (.tc (.pj (.v 3) 1) (.tc (.pj (.v 3) 2) (.tc (.pj (.v 3) 3) .tn))))] 1 <|
  .pm .not [(.v 12)] <|
  .ite (.v 13) (
   .out 2 [(.kb true)]) <|
  .pm .llen [(.pj (.v 3) 4)] <|
  .cl 140 [(.tc (.pj (.v 3) 0) (.tc (.pj (.v 3) 1) (.tc (.pj (.v 3) 2) (.tc (.pj (.v 3) 3) .tn))))] 1 <|
  .pm .ne [(.v 14), (.v 15)] <|
  .out 2 [(.v 16)]) <|
 .ite (.v 7) (
  .out 1 [(.kb false)]) <|
 l39_0
def l39_1 : A := .lp 2 [(.ki 0)] l39_1b
def a39 : A :=
 .jn 2 (
  .pm .lt [(.v 1), (.ki 0)] <|
  .ite (.v 2) (
   .out 2 [(.kb true)]) <|
  .pm .llen [(.pj (.v 0) 41)] <|
  .pm .ge [(.v 1), (.v 3)] <|
  .out 2 [(.v 4)]) <|
 .ite (.v 2) (
  .out 1 [(.kb false)]) <|
 .pm .lget [(.pj (.v 0) 41), (.v 1)] <|
 l39_1
theorem c39 : compF B Tryz.f39 (look h39) [z82, z3] [z4] = some a39 := by kernel_rfl
theorem k39 : callable Tryz.prog 39 = true := by kernel_rfl
theorem s39 {vs us : List V} (h : a39.wp Cl (ans us) vs) : Cl 39 vs us := cc_of tabOk mixed Tryz.func39 c39 rfl k39 h
-- 289 impl.SizeOf
def h289 : List (Nat × Tm) := []
def a289 : A :=
 .cl 74 [(.tc (.pj (.v 0) 0) (.tc (.pj (.v 0) 1) (.tc (.pj (.v 0) 2) (.tc (.pj (.v 0) 3) .tn))))] 1 <|
 .pm .not [(.v 1)] <|
 .ite (.v 2) (
  .out 1 [(.ki 0), (.ki 0)]) <|
 .cl 85 [(.pj (.v 0) 2)] 1 <|
 .pm (.mul .i64) [(.ki 8), (.v 3)] <|
 .cl 85 [(.pj (.v 0) 3)] 1 <|
 .pm (.mul .i64) [(.ki 8), (.v 5)] <|
 .out 1 [(.v 4), (.v 6)]
theorem c289 : compF B Tryz.f289 (look h289) [z26] [z3, z3] = some a289 := by kernel_rfl
theorem k289 : callable Tryz.prog 289 = true := by kernel_rfl
theorem s289 {vs us : List V} (h : a289.wp Cl (ans us) vs) : Cl 289 vs us := cc_of tabOk mixed Tryz.func289 c289 rfl k289 h
-- 141 impl.fits
def h141 : List (Nat × Tm) := []
def a141 : A :=
 .cl 289 [(.tc (.pj (.v 1) 0) (.tc (.pj (.v 1) 1) (.tc (.pj (.v 1) 2) (.tc (.pj (.v 1) 3) .tn))))] 2 <|
 .cl 83 [(.tc (.pj (.v 0) 0) (.tc (.pj (.v 0) 1) (.tc (.pj (.v 0) 2) .tn)))] 1 <|
 .ite (.v 4) (
  .pm .eq [(.pj (.v 0) 0), (.v 2)] <|
  .ite (.v 5) (
   .pm .eq [(.pj (.v 0) 1), (.v 3)] <|
   .out 1 [(.v 6)]) <|
  .out 1 [(.kb false)]) <|
 .out 1 [(.kb false)]
theorem c141 : compF B Tryz.f141 (look h141) [z37, z26] [z4] = some a141 := by kernel_rfl
theorem k141 : callable Tryz.prog 141 = true := by kernel_rfl
theorem s141 {vs us : List V} (h : a141.wp Cl (ans us) vs) : Cl 141 vs us := cc_of tabOk mixed Tryz.func141 c141 rfl k141 h
-- 40 impl.LookTrue
def h40 : List (Nat × Tm) := [(17, ⟨[1, 2, 5, 22, 23], fun n _ => [(24, (.cv (.sc (.int .i64) (.v (n + 0)))))], fun _ _ => [], 1, 0⟩), (33, ⟨[1, 2, 5], fun n _ => [(59, (.cv (.sc .bool (.v (n + 0)))))], fun _ _ => [], 1, 0⟩), (41, ⟨[1, 2, 62], fun n _ => [(63, (.cv (.sc (.int .i64) (.v (n + 0)))))], fun _ _ => [], 1, 0⟩)]
def l40_0b : A :=
 .pm .lt [(.v 12), (.v 11)] <|
 .ite (.v 13) (
  .cl 38 [(fieldsE 0 0 43), (.v 1), (.v 12)] 1 <|
  .pm .not [(.v 14)] <|
  .ite (.v 15) (
   .out 1 [(.kb false)]) <|
  .pm (.add .i64) [(.v 12), (.ki 1)] <|
  .out 2 [(.v 16)]) <|
 .out 1 [(.kb true)]
def l40_0 : A := .lp 2 [(.ki 0)] l40_0b
def l40_1b : A :=
 .pm .lt [(.v 8), (.v 7)] <|
 .ite (.v 9) (
  .pm .lget [(.pj (.v 6) 6), (.v 8)] <|
  .pm .ne [(.v 10), (.ki 0)] <|
  .ite (.v 11) (
   .out 1 [(.kb false)]) <|
  .pm (.add .i64) [(.v 8), (.ki 1)] <|
  .out 2 [(.v 12)]) <|
 .jn 2 (
  .pm .llen [(.pj (.v 6) 7)] <|
  .pm .ne [(.v 10), (.ki 1)] <|
  .ite (.v 11) (
   .out 2 [(.kb true)]) <|
  .cl 74 [(.tc (.pj (.v 6) 0) (.tc (.pj (.v 6) 1) (.tc (.pj (.v 6) 2) (.tc (.pj (.v 6) 3) .tn))))] 1 <|
  .pm .not [(.v 12)] <|
  .ite (.v 13) (
   .out 2 [(.kb true)]) <|
  .pm .lget [(.pj (.v 6) 7), (.ki 0)] <|
  .cl 141 [(.tc (.pj (.v 14) 0) (.tc (.pj (.v 14) 1) (.tc (.pj (.v 14) 2) .tn))), (.tc (.pj (.v 6) 0) (.tc (.pj (.v 6) 1) (.tc (.pj (.v 6) 2) (.tc (.pj (.v 6) 3) .tn))))] 1 <|
  .pm .not [(.v 15)] <|
  .ite (.v 16) (
   .out 2 [(.kb true)]) <|
  .pm .llen [(.pj (.v 6) 4)] <|
  .cl 76 [(.tc (.pj (.v 6) 0) (.tc (.pj (.v 6) 1) (.tc (.pj (.v 6) 2) (.tc (.pj (.v 6) 3) .tn))))] 1 <|
  .pm .ne [(.v 17), (.v 18)] <|
  .out 2 [(.v 19)]) <|
 .ite (.v 10) (
  .out 1 [(.kb false)]) <|
 .pm .llen [(.pj (.v 6) 4)] <|
 l40_0
def l40_1 : A := .lp 2 [(.ki 0)] l40_1b
def a40 : A :=
 .pm .llen [(.pj (.v 0) 41)] <|
 .pm (.sub .i64) [(.v 2), (.ki 1)] <|
 .cl 84 [(.v 1), (.ki 0), (.v 3)] 1 <|
 .pm .not [(.v 4)] <|
 .ite (.v 5) (
  .out 1 [(.kb false)]) <|
 .pm .lget [(.pj (.v 0) 41), (.v 1)] <|
 .pm .llen [(.pj (.v 6) 6)] <|
 l40_1
theorem c40 : compF B Tryz.f40 (look h40) [z82, z3] [z4] = some a40 := by kernel_rfl
theorem k40 : callable Tryz.prog 40 = true := by kernel_rfl
theorem s40 {vs us : List V} (h : a40.wp Cl (ans us) vs) : Cl 40 vs us := cc_of tabOk mixed Tryz.func40 c40 rfl k40 h
-- 7 laws.FnExactLookTrue
def h7 : List (Nat × Tm) := []
def a7 : A :=
 .cl 22 [(fieldsE 0 0 43), (.ki 1048576)] 1 <|
 .pm .lt [(.v 2), (.ki 0)] <|
 .ite (.v 3) (
  .out 1 [(.kb true)]) <|
 .cl 24 [(fieldsE 0 0 43)] 1 <|
 .cl 39 [(fieldsE 4 0 43), (.v 1)] 1 <|
 .cl 24 [(fieldsE 0 0 43)] 1 <|
 .cl 40 [(fieldsE 6 0 43), (.v 1)] 1 <|
 .pm .bne [(.v 7), (.v 5)] <|
 .ite (.v 8) (
  .out 1 [(.kb false)]) <|
 .cl 24 [(fieldsE 0 0 43)] 1 <|
 .cl 27 [(fieldsE 6 0 43), (fieldsE 9 0 43)] 1 <|
 .pm .not [(.v 10)] <|
 .ite (.v 11) (
  .out 1 [(.kb false)]) <|
 .out 1 [(.kb true)]
theorem c7 : compF B Tryz.f7 (look h7) [z69, z3] [z4] = some a7 := by kernel_rfl
theorem k7 : callable Tryz.prog 7 = true := by kernel_rfl
theorem s7 {vs us : List V} (h : a7.wp Cl (ans us) vs) : Cl 7 vs us := cc_of tabOk mixed Tryz.func7 c7 rfl k7 h
-- 150 spec.CountsOk
def h150 : List (Nat × Tm) := [(48, ⟨[1, 2, 7, 8, 9], fun n _ => [(5, (.cv (.sc (.int .i64) (.v (n + 0))))), (6, (.cv (.sc .bool (.v (n + 1)))))], fun _ _ => [], 2, 0⟩), (51, ⟨[1, 2, 5, 6, 7, 8], fun n _ => [(65, (.cv (.sc .bool (.v (n + 0)))))], fun _ _ => [], 1, 0⟩), (10, ⟨[1, 2, 7, 8], fun n _ => [(5, (.cv (.sc (.int .i64) (.v (n + 0))))), (6, (.cv (.sc .bool (.v (n + 1)))))], fun _ _ => [], 2, 0⟩), (39, ⟨[1, 2, 7, 8, 9], fun n _ => [(50, (.cv (.sc .bool (.v (n + 0)))))], fun _ _ => [], 1, 0⟩), (23, ⟨[1, 2, 7], fun n _ => [(5, (.cv (.sc (.int .i64) (.v (n + 0))))), (6, (.cv (.sc .bool (.v (n + 1))))), (8, (.cv (.sc (.int .i64) (.v (n + 2)))))], fun _ _ => [], 3, 0⟩), (14, ⟨[1, 2], fun n _ => [(5, (.cv (.sc (.int .i64) (.v (n + 0))))), (6, (.cv (.sc .bool (.v (n + 1))))), (7, (.cv (.sc (.int .i64) (.v (n + 2)))))], fun _ _ => [], 3, 0⟩)]
def l150_0b : A :=
 .pm .lget [(.pj (.v 0) 41), (.v 4)] <|
 .pm .llen [(.pj (.v 10) 4)] <|
 .pm .lt [(.v 9), (.v 11)] <|
 .ite (.v 12) (
  .jn 4 (
   .pm .lget [(.pj (.v 0) 41), (.v 4)] <|
   .pm .lget [(.pj (.v 13) 4), (.v 9)] <|
   .pm .ne [(.pj (.v 14) 1), (.v 1)] <|
   .ite (.v 15) (
    .out 4 [(.v 7), (.v 8)]) <|
   .jn 5 (
    .pm .eq [(.pj (.v 14) 0), (.ki 1)] <|
    .ite (.v 16) (
     .jn 6 (
      .ite (.v 8) (
       .pm .le [(.pj (.v 14) 2), (.v 7)] <|
       .out 6 [(.v 17)]) <|
      .out 6 [(.kb false)]) <|
     .ite (.v 17) (
      .out 1 [(.kb false)]) <|
     .out 5 [(.pj (.v 14) 2), (.kb true)]) <|
    .out 5 [(.v 7), (.v 8)]) <|
   .jn 5 (
    .pm .eq [(.pj (.v 14) 0), (.ki 2)] <|
    .ite (.v 18) (
     .pm .not [(.v 17)] <|
     .ite (.v 19) (
      .out 5 [(.kb true)]) <|
     .pm .ne [(.pj (.v 14) 2), (.v 16)] <|
     .out 5 [(.v 20)]) <|
    .out 5 [(.kb false)]) <|
   .ite (.v 18) (
    .out 1 [(.kb false)]) <|
   .out 4 [(.v 16), (.v 17)]) <|
  .pm (.add .i64) [(.v 9), (.ki 1)] <|
  .out 3 [(.v 13), (.v 14), (.v 15)]) <|
 .pm (.add .i64) [(.v 4), (.ki 1)] <|
 .out 2 [(.v 7), (.v 8), (.v 13)]
def l150_0 : A := .lp 3 [(.v 2), (.v 3), (.ki 0)] l150_0b
def l150_1b : A :=
 .pm .llen [(.pj (.v 0) 41)] <|
 .pm .lt [(.v 4), (.v 5)] <|
 .ite (.v 6) (
  l150_0) <|
 .out 1 [(.kb true)]
def l150_1 : A := .lp 2 [(.ki 0), (.kb false), (.ki 0)] l150_1b
def a150 : A :=
 l150_1
theorem c150 : compF B Tryz.f150 (look h150) [z82, z3] [z4] = some a150 := by kernel_rfl
theorem k150 : callable Tryz.prog 150 = true := by kernel_rfl
theorem s150 {vs us : List V} (h : a150.wp Cl (ans us) vs) : Cl 150 vs us := cc_of tabOk mixed Tryz.func150 c150 rfl k150 h
-- 47 spec.TrueWorld
def h47 : List (Nat × Tm) := [(8, ⟨[1], fun n _ => [(3, (.cv (.sc (.int .i64) (.v (n + 0)))))], fun _ _ => [], 1, 0⟩), (23, ⟨[1], fun n _ => [(4, (.cv (.sc (.int .i64) (.v (n + 0)))))], fun _ _ => [], 1, 0⟩)]
def l47_0b : A :=
 .pm .lt [(.v 4), (.ki 6)] <|
 .ite (.v 5) (
  .cl 150 [(fieldsE 0 0 43), (.v 4)] 1 <|
  .pm .not [(.v 6)] <|
  .ite (.v 7) (
   .out 1 [(.kb false)]) <|
  .pm (.add .i64) [(.v 4), (.ki 1)] <|
  .out 2 [(.v 8)]) <|
 .out 1 [(.kb true)]
def l47_0 : A := .lp 2 [(.ki 0)] l47_0b
def l47_1b : A :=
 .pm .llen [(.pj (.v 0) 41)] <|
 .pm .lt [(.v 1), (.v 2)] <|
 .ite (.v 3) (
  .cl 39 [(fieldsE 0 0 43), (.v 1)] 1 <|
  .pm .not [(.v 4)] <|
  .ite (.v 5) (
   .out 1 [(.kb false)]) <|
  .pm (.add .i64) [(.v 1), (.ki 1)] <|
  .out 2 [(.v 6)]) <|
 l47_0
def l47_1 : A := .lp 2 [(.ki 0)] l47_1b
def a47 : A :=
 l47_1
theorem c47 : compF B Tryz.f47 (look h47) [z82] [z4] = some a47 := by kernel_rfl
theorem k47 : callable Tryz.prog 47 = true := by kernel_rfl
theorem s47 {vs us : List V} (h : a47.wp Cl (ans us) vs) : Cl 47 vs us := cc_of tabOk mixed Tryz.func47 c47 rfl k47 h
-- 151 impl.CountsOk
def h151 : List (Nat × Tm) := [(13, ⟨[1, 12, 13, 14, 19, 20, 21], fun n _ => [(5, (.cv (.sc .bool (.v (n + 0))))), (6, (.cv (.sc (.int .i64) (.v (n + 1)))))], fun _ _ => [], 2, 0⟩), (10, ⟨[1, 12, 13, 14, 19, 20, 21], fun n _ => [(5, (.cv (.sc .bool (.v (n + 0))))), (6, (.cv (.sc (.int .i64) (.v (n + 1)))))], fun _ _ => [], 2, 0⟩), (36, ⟨[1, 10, 12, 13, 14, 19, 20, 21], fun n _ => [(39, (.cv (.sc .bool (.v (n + 0)))))], fun _ _ => [], 1, 0⟩), (48, ⟨[1, 5, 6, 12, 13, 14, 19, 20, 21], fun n _ => [(51, (.cv (.sc .bool (.v (n + 0)))))], fun _ _ => [], 1, 0⟩), (20, ⟨[1, 12, 13, 14, 19, 20], fun n _ => [(5, (.cv (.sc .bool (.v (n + 0))))), (6, (.cv (.sc (.int .i64) (.v (n + 1))))), (21, (.cv (.sc (.int .i64) (.v (n + 2)))))], fun _ _ => [], 3, 0⟩), (11, ⟨[1, 12, 13], fun n _ => [(5, (.cv (.sc .bool (.v (n + 0))))), (6, (.cv (.sc (.int .i64) (.v (n + 1))))), (14, (.cv (.sc (.int .i64) (.v (n + 2)))))], fun _ _ => [], 3, 0⟩)]
def l151_0b : A :=
 .pm .lt [(.v 11), (.v 8)] <|
 .ite (.v 12) (
  .jn 4 (
   .pm .lget [(.pj (.v 7) 4), (.v 11)] <|
   .pm .ne [(.pj (.v 13) 1), (.v 1)] <|
   .ite (.v 14) (
    .out 4 [(.v 9), (.v 10)]) <|
   .jn 5 (
    .pm .eq [(.pj (.v 13) 0), (.ki 1)] <|
    .ite (.v 15) (
     .jn 6 (
      .ite (.v 9) (
       .pm .le [(.pj (.v 13) 2), (.v 10)] <|
       .out 6 [(.v 16)]) <|
      .out 6 [(.kb false)]) <|
     .ite (.v 16) (
      .out 1 [(.kb false)]) <|
     .out 5 [(.kb true), (.pj (.v 13) 2)]) <|
    .pm .eq [(.pj (.v 13) 0), (.ki 2)] <|
    .ite (.v 16) (
     .jn 6 (
      .pm .not [(.v 9)] <|
      .ite (.v 17) (
       .out 6 [(.kb true)]) <|
      .pm .ne [(.pj (.v 13) 2), (.v 10)] <|
      .out 6 [(.v 18)]) <|
     .ite (.v 17) (
      .out 1 [(.kb false)]) <|
     .out 5 [(.v 9), (.v 10)]) <|
    .out 5 [(.v 9), (.v 10)]) <|
   .out 4 [(.v 15), (.v 16)]) <|
  .pm (.add .i64) [(.v 11), (.ki 1)] <|
  .out 3 [(.v 13), (.v 14), (.v 15)]) <|
 .pm (.add .i64) [(.v 5), (.ki 1)] <|
 .out 2 [(.v 9), (.v 10), (.v 13)]
def l151_0 : A := .lp 3 [(.v 3), (.v 4), (.ki 0)] l151_0b
def l151_1b : A :=
 .pm .lt [(.v 5), (.v 2)] <|
 .ite (.v 6) (
  .pm .lget [(.pj (.v 0) 41), (.v 5)] <|
  .pm .llen [(.pj (.v 7) 4)] <|
  l151_0) <|
 .out 1 [(.kb true)]
def l151_1 : A := .lp 2 [(.kb false), (.ki 0), (.ki 0)] l151_1b
def a151 : A :=
 .pm .llen [(.pj (.v 0) 41)] <|
 l151_1
theorem c151 : compF B Tryz.f151 (look h151) [z82, z3] [z4] = some a151 := by kernel_rfl
theorem k151 : callable Tryz.prog 151 = true := by kernel_rfl
theorem s151 {vs us : List V} (h : a151.wp Cl (ans us) vs) : Cl 151 vs us := cc_of tabOk mixed Tryz.func151 c151 rfl k151 h
-- 48 impl.TrueWorld
def h48 : List (Nat × Tm) := [(8, ⟨[1, 7], fun n _ => [(8, (.cv (.sc (.int .i64) (.v (n + 0)))))], fun _ _ => [], 1, 0⟩), (26, ⟨[1], fun n _ => [(16, (.cv (.sc (.int .i64) (.v (n + 0)))))], fun _ _ => [], 1, 0⟩)]
def l48_0b : A :=
 .pm .lt [(.v 4), (.ki 6)] <|
 .ite (.v 5) (
  .cl 151 [(fieldsE 0 0 43), (.v 4)] 1 <|
  .pm .not [(.v 6)] <|
  .ite (.v 7) (
   .out 1 [(.kb false)]) <|
  .pm (.add .i64) [(.v 4), (.ki 1)] <|
  .out 2 [(.v 8)]) <|
 .out 1 [(.kb true)]
def l48_0 : A := .lp 2 [(.ki 0)] l48_0b
def l48_1b : A :=
 .pm .lt [(.v 2), (.v 1)] <|
 .ite (.v 3) (
  .cl 40 [(fieldsE 0 0 43), (.v 2)] 1 <|
  .pm .not [(.v 4)] <|
  .ite (.v 5) (
   .out 1 [(.kb false)]) <|
  .pm (.add .i64) [(.v 2), (.ki 1)] <|
  .out 2 [(.v 6)]) <|
 l48_0
def l48_1 : A := .lp 2 [(.ki 0)] l48_1b
def a48 : A :=
 .pm .llen [(.pj (.v 0) 41)] <|
 l48_1
theorem c48 : compF B Tryz.f48 (look h48) [z82] [z4] = some a48 := by kernel_rfl
theorem k48 : callable Tryz.prog 48 = true := by kernel_rfl
theorem s48 {vs us : List V} (h : a48.wp Cl (ans us) vs) : Cl 48 vs us := cc_of tabOk mixed Tryz.func48 c48 rfl k48 h
-- 9 laws.FnExactTrueWorld
def h9 : List (Nat × Tm) := []
def a9 : A :=
 .cl 22 [(fieldsE 0 0 43), (.ki 1048576)] 1 <|
 .pm .lt [(.v 1), (.ki 0)] <|
 .ite (.v 2) (
  .out 1 [(.kb true)]) <|
 .cl 24 [(fieldsE 0 0 43)] 1 <|
 .cl 47 [(fieldsE 3 0 43)] 1 <|
 .cl 24 [(fieldsE 0 0 43)] 1 <|
 .cl 48 [(fieldsE 5 0 43)] 1 <|
 .pm .bne [(.v 6), (.v 4)] <|
 .ite (.v 7) (
  .out 1 [(.kb false)]) <|
 .cl 24 [(fieldsE 0 0 43)] 1 <|
 .cl 27 [(fieldsE 5 0 43), (fieldsE 8 0 43)] 1 <|
 .pm .not [(.v 9)] <|
 .ite (.v 10) (
  .out 1 [(.kb false)]) <|
 .out 1 [(.kb true)]
theorem c9 : compF B Tryz.f9 (look h9) [z69] [z4] = some a9 := by kernel_rfl
theorem k9 : callable Tryz.prog 9 = true := by kernel_rfl
theorem s9 {vs us : List V} (h : a9.wp Cl (ans us) vs) : Cl 9 vs us := cc_of tabOk mixed Tryz.func9 c9 rfl k9 h
end Go.Proofs.YteleedlkdadogaaGreat.Fw
