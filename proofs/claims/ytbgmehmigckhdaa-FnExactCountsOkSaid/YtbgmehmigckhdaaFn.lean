/- Each function as a pure program, printed by a program, checked here. -/
import Derived.Test.YtbgmehmigckhdaaTb
namespace Go.Proofs.Ytbgmehmigckhdaa.Fw
open Go.RowKit
set_option maxRecDepth 100000
-- 22
def h22 : List (Nat × Tm) := []
def a22 : A :=
 .pm .llen [(.v 0)] <|
 .pm (.sub .i64) [(.v 1), (.v 2)] <|
 .pm .lt [(.v 3), (.ki 0)] <|
 .ite (.v 4) (
  .out 1 [(.ki (-1))]) <|
 .out 1 [(.v 3)]
theorem c22 : compF B Try.f22 (look h22) [z24, z3] [z3] = some a22 := by kernel_rfl
theorem k22 : callable Try.prog 22 = true := by kernel_rfl
theorem s22 {vs us : List V} (h : a22.wp Cl (ans us) vs) : Cl 22 vs us := cc_of tabOk mixed Try.func22 c22 rfl k22 h
-- 6
def h6 : List (Nat × Tm) := []
def a6 : A :=
 .cl 22 [(.pj (.v 0) 0), (.v 1)] 1 <|
 .pm .lt [(.v 2), (.ki 0)] <|
 .ite (.v 3) (
  .out 1 [(.ki (-1))]) <|
 .cl 22 [(.pj (.v 0) 1), (.v 2)] 1 <|
 .pm .lt [(.v 4), (.ki 0)] <|
 .ite (.v 5) (
  .out 1 [(.ki (-1))]) <|
 .cl 22 [(.pj (.v 0) 2), (.v 4)] 1 <|
 .pm .lt [(.v 6), (.ki 0)] <|
 .ite (.v 7) (
  .out 1 [(.ki (-1))]) <|
 .out 1 [(.v 6)]
theorem c6 : compF B Try.f6 (look h6) [z26, z3] [z3] = some a6 := by kernel_rfl
theorem k6 : callable Try.prog 6 = true := by kernel_rfl
theorem s6 {vs us : List V} (h : a6.wp Cl (ans us) vs) : Cl 6 vs us := cc_of tabOk mixed Try.func6 c6 rfl k6 h
-- 123
def h123 : List (Nat × Tm) := []
def a123 : A :=
 .pm .slen [(.pj (.v 0) 3)] <|
 .pm (.sub .i64) [(.v 1), (.v 2)] <|
 .pm .lt [(.v 3), (.ki 0)] <|
 .ite (.v 4) (
  .out 1 [(.ki (-1))]) <|
 .out 1 [(.v 3)]
theorem c123 : compF B Try.f123 (look h123) [z153, z3] [z3] = some a123 := by kernel_rfl
theorem k123 : callable Try.prog 123 = true := by kernel_rfl
theorem s123 {vs us : List V} (h : a123.wp Cl (ans us) vs) : Cl 123 vs us := cc_of tabOk mixed Try.func123 c123 rfl k123 h
-- 140
def h140 : List (Nat × Tm) := [(17, ⟨[0], fun n i => [(1, (.cv (.sc (.int .i64) (.v (n + 0))))), (5, (.cv (.sc (.int .i64) (.v (n + 1)))))], fun n i => [], 2, 0⟩)]
def a140 : A :=
 .pm .llen [(.v 0)] <|
 .pm (.sub .i64) [(.v 1), (.v 2)] <|
 .pm .lt [(.v 3), (.ki 0)] <|
 .ite (.v 4) (
  .out 1 [(.ki (-1))]) <|
 .lp 2 [(.v 3), (.ki 0)] <|
  .pm .llen [(.v 0)] <|
  .pm .lt [(.v 6), (.v 7)] <|
  .ite (.v 8) (
   .pm .lget [(.v 0), (.v 6)] <|
   .cl 123 [(.tc (.pj (.v 9) 0) (.tc (.pj (.v 9) 1) (.tc (.pj (.v 9) 2) (.tc (.pj (.v 9) 3) .tn)))), (.v 5)] 1 <|
   .pm .lt [(.v 10), (.ki 0)] <|
   .ite (.v 11) (
    .out 1 [(.ki (-1))]) <|
   .pm (.add .i64) [(.v 6), (.ki 1)] <|
   .out 2 [(.v 10), (.v 12)]) <|
  .out 1 [(.v 5)]
theorem c140 : compF B Try.f140 (look h140) [z114, z3] [z3] = some a140 := by kernel_rfl
theorem k140 : callable Try.prog 140 = true := by kernel_rfl
theorem s140 {vs us : List V} (h : a140.wp Cl (ans us) vs) : Cl 140 vs us := cc_of tabOk mixed Try.func140 c140 rfl k140 h
-- 100
def h100 : List (Nat × Tm) := []
def a100 : A :=
 .cl 140 [(.pj (.v 0) 3), (.v 1)] 1 <|
 .pm .lt [(.v 2), (.ki 0)] <|
 .ite (.v 3) (
  .out 1 [(.ki (-1))]) <|
 .out 1 [(.v 2)]
theorem c100 : compF B Try.f100 (look h100) [z116, z3] [z3] = some a100 := by kernel_rfl
theorem k100 : callable Try.prog 100 = true := by kernel_rfl
theorem s100 {vs us : List V} (h : a100.wp Cl (ans us) vs) : Cl 100 vs us := cc_of tabOk mixed Try.func100 c100 rfl k100 h
-- 84
def h84 : List (Nat × Tm) := []
def a84 : A :=
 .cl 22 [(.pj (.v 0) 2), (.v 1)] 1 <|
 .pm .lt [(.v 2), (.ki 0)] <|
 .ite (.v 3) (
  .out 1 [(.ki (-1))]) <|
 .cl 22 [(.pj (.v 0) 3), (.v 2)] 1 <|
 .pm .lt [(.v 4), (.ki 0)] <|
 .ite (.v 5) (
  .out 1 [(.ki (-1))]) <|
 .out 1 [(.v 4)]
theorem c84 : compF B Try.f84 (look h84) [z49, z3] [z3] = some a84 := by kernel_rfl
theorem k84 : callable Try.prog 84 = true := by kernel_rfl
theorem s84 {vs us : List V} (h : a84.wp Cl (ans us) vs) : Cl 84 vs us := cc_of tabOk mixed Try.func84 c84 rfl k84 h
-- 101
def h101 : List (Nat × Tm) := []
def a101 : A :=
 .cl 84 [(.tc (.pj (.v 0) 2) (.tc (.pj (.v 0) 3) (.tc (.pj (.v 0) 4) (.tc (.pj (.v 0) 5) .tn)))), (.v 1)] 1 <|
 .pm .lt [(.v 2), (.ki 0)] <|
 .ite (.v 3) (
  .out 1 [(.ki (-1))]) <|
 .out 1 [(.v 2)]
theorem c101 : compF B Try.f101 (look h101) [z118, z3] [z3] = some a101 := by kernel_rfl
theorem k101 : callable Try.prog 101 = true := by kernel_rfl
theorem s101 {vs us : List V} (h : a101.wp Cl (ans us) vs) : Cl 101 vs us := cc_of tabOk mixed Try.func101 c101 rfl k101 h
-- 59
def h59 : List (Nat × Tm) := []
def a59 : A :=
 .cl 100 [(.tc (.pj (.v 0) 0) (.tc (.pj (.v 0) 1) (.tc (.pj (.v 0) 2) (.tc (.pj (.v 0) 3) (.tc (.pj (.v 0) 4) (.tc (.pj (.v 0) 5) (.tc (.pj (.v 0) 6) (.tc (.pj (.v 0) 7) (.tc (.pj (.v 0) 8) .tn))))))))), (.v 1)] 1 <|
 .pm .lt [(.v 2), (.ki 0)] <|
 .ite (.v 3) (
  .out 1 [(.ki (-1))]) <|
 .cl 101 [(.tc (.pj (.v 0) 9) (.tc (.pj (.v 0) 10) (.tc (.pj (.v 0) 11) (.tc (.pj (.v 0) 12) (.tc (.pj (.v 0) 13) (.tc (.pj (.v 0) 14) (.tc (.pj (.v 0) 15) (.tc (.pj (.v 0) 16) (.tc (.pj (.v 0) 17) (.tc (.pj (.v 0) 18) (.tc (.pj (.v 0) 19) (.tc (.pj (.v 0) 20) (.tc (.pj (.v 0) 21) .tn))))))))))))), (.v 2)] 1 <|
 .pm .lt [(.v 4), (.ki 0)] <|
 .ite (.v 5) (
  .out 1 [(.ki (-1))]) <|
 .out 1 [(.v 4)]
theorem c59 : compF B Try.f59 (look h59) [z120, z3] [z3] = some a59 := by kernel_rfl
theorem k59 : callable Try.prog 59 = true := by kernel_rfl
theorem s59 {vs us : List V} (h : a59.wp Cl (ans us) vs) : Cl 59 vs us := cc_of tabOk mixed Try.func59 c59 rfl k59 h
-- 21
def h21 : List (Nat × Tm) := [(17, ⟨[0], fun n i => [(1, (.cv (.sc (.int .i64) (.v (n + 0))))), (5, (.cv (.sc (.int .i64) (.v (n + 1)))))], fun n i => [], 2, 0⟩)]
def a21 : A :=
 .pm .llen [(.v 0)] <|
 .pm (.sub .i64) [(.v 1), (.v 2)] <|
 .pm .lt [(.v 3), (.ki 0)] <|
 .ite (.v 4) (
  .out 1 [(.ki (-1))]) <|
 .lp 2 [(.v 3), (.ki 0)] <|
  .pm .llen [(.v 0)] <|
  .pm .lt [(.v 6), (.v 7)] <|
  .ite (.v 8) (
   .pm .lget [(.v 0), (.v 6)] <|
   .cl 59 [(.tc (.pj (.v 9) 0) (.tc (.pj (.v 9) 1) (.tc (.pj (.v 9) 2) (.tc (.pj (.v 9) 3) (.tc (.pj (.v 9) 4) (.tc (.pj (.v 9) 5) (.tc (.pj (.v 9) 6) (.tc (.pj (.v 9) 7) (.tc (.pj (.v 9) 8) (.tc (.pj (.v 9) 9) (.tc (.pj (.v 9) 10) (.tc (.pj (.v 9) 11) (.tc (.pj (.v 9) 12) (.tc (.pj (.v 9) 13) (.tc (.pj (.v 9) 14) (.tc (.pj (.v 9) 15) (.tc (.pj (.v 9) 16) (.tc (.pj (.v 9) 17) (.tc (.pj (.v 9) 18) (.tc (.pj (.v 9) 19) (.tc (.pj (.v 9) 20) (.tc (.pj (.v 9) 21) (.tc (.pj (.v 9) 22) (.tc (.pj (.v 9) 23) .tn)))))))))))))))))))))))), (.v 5)] 1 <|
   .pm .lt [(.v 10), (.ki 0)] <|
   .ite (.v 11) (
    .out 1 [(.ki (-1))]) <|
   .pm (.add .i64) [(.v 6), (.ki 1)] <|
   .out 2 [(.v 10), (.v 12)]) <|
  .out 1 [(.v 5)]
theorem c21 : compF B Try.f21 (look h21) [z27, z3] [z3] = some a21 := by kernel_rfl
theorem k21 : callable Try.prog 21 = true := by kernel_rfl
theorem s21 {vs us : List V} (h : a21.wp Cl (ans us) vs) : Cl 21 vs us := cc_of tabOk mixed Try.func21 c21 rfl k21 h
-- 5
def h5 : List (Nat × Tm) := []
def a5 : A :=
 .cl 6 [(.tc (.pj (.v 0) 8) (.tc (.pj (.v 0) 9) (.tc (.pj (.v 0) 10) .tn))), (.v 1)] 1 <|
 .pm .lt [(.v 2), (.ki 0)] <|
 .ite (.v 3) (
  .out 1 [(.ki (-1))]) <|
 .cl 6 [(.tc (.pj (.v 0) 11) (.tc (.pj (.v 0) 12) (.tc (.pj (.v 0) 13) .tn))), (.v 2)] 1 <|
 .pm .lt [(.v 4), (.ki 0)] <|
 .ite (.v 5) (
  .out 1 [(.ki (-1))]) <|
 .cl 21 [(.pj (.v 0) 17), (.v 4)] 1 <|
 .pm .lt [(.v 6), (.ki 0)] <|
 .ite (.v 7) (
  .out 1 [(.ki (-1))]) <|
 .out 1 [(.v 6)]
theorem c5 : compF B Try.f5 (look h5) [z29, z3] [z3] = some a5 := by kernel_rfl
theorem k5 : callable Try.prog 5 = true := by kernel_rfl
theorem s5 {vs us : List V} (h : a5.wp Cl (ans us) vs) : Cl 5 vs us := cc_of tabOk mixed Try.func5 c5 rfl k5 h
-- 85
def h85 : List (Nat × Tm) := []
def a85 : A :=
 .pm .slen [(.pj (.v 0) 2)] <|
 .pm (.sub .i64) [(.v 1), (.v 2)] <|
 .pm .lt [(.v 3), (.ki 0)] <|
 .ite (.v 4) (
  .out 1 [(.ki (-1))]) <|
 .out 1 [(.v 3)]
theorem c85 : compF B Try.f85 (look h85) [z51, z3] [z3] = some a85 := by kernel_rfl
theorem k85 : callable Try.prog 85 = true := by kernel_rfl
theorem s85 {vs us : List V} (h : a85.wp Cl (ans us) vs) : Cl 85 vs us := cc_of tabOk mixed Try.func85 c85 rfl k85 h
-- 122
def h122 : List (Nat × Tm) := []
def a122 : A :=
 .cl 84 [(.tc (.pj (.v 0) 0) (.tc (.pj (.v 0) 1) (.tc (.pj (.v 0) 2) (.tc (.pj (.v 0) 3) .tn)))), (.v 1)] 1 <|
 .pm .lt [(.v 2), (.ki 0)] <|
 .ite (.v 3) (
  .out 1 [(.ki (-1))]) <|
 .cl 85 [(.tc (.pj (.v 0) 16) (.tc (.pj (.v 0) 17) (.tc (.pj (.v 0) 18) .tn))), (.v 2)] 1 <|
 .pm .lt [(.v 4), (.ki 0)] <|
 .ite (.v 5) (
  .out 1 [(.ki (-1))]) <|
 .out 1 [(.v 4)]
theorem c122 : compF B Try.f122 (look h122) [z148, z3] [z3] = some a122 := by kernel_rfl
theorem k122 : callable Try.prog 122 = true := by kernel_rfl
theorem s122 {vs us : List V} (h : a122.wp Cl (ans us) vs) : Cl 122 vs us := cc_of tabOk mixed Try.func122 c122 rfl k122 h
-- 82
def h82 : List (Nat × Tm) := []
def a82 : A :=
 .cl 122 [(.tc (.pj (.v 0) 0) (.tc (.pj (.v 0) 1) (.tc (.pj (.v 0) 2) (.tc (.pj (.v 0) 3) (.tc (.pj (.v 0) 4) (.tc (.pj (.v 0) 5) (.tc (.pj (.v 0) 6) (.tc (.pj (.v 0) 7) (.tc (.pj (.v 0) 8) (.tc (.pj (.v 0) 9) (.tc (.pj (.v 0) 10) (.tc (.pj (.v 0) 11) (.tc (.pj (.v 0) 12) (.tc (.pj (.v 0) 13) (.tc (.pj (.v 0) 14) (.tc (.pj (.v 0) 15) (.tc (.pj (.v 0) 16) (.tc (.pj (.v 0) 17) (.tc (.pj (.v 0) 18) .tn))))))))))))))))))), (.v 1)] 1 <|
 .pm .lt [(.v 2), (.ki 0)] <|
 .ite (.v 3) (
  .out 1 [(.ki (-1))]) <|
 .out 1 [(.v 2)]
theorem c82 : compF B Try.f82 (look h82) [z150, z3] [z3] = some a82 := by kernel_rfl
theorem k82 : callable Try.prog 82 = true := by kernel_rfl
theorem s82 {vs us : List V} (h : a82.wp Cl (ans us) vs) : Cl 82 vs us := cc_of tabOk mixed Try.func82 c82 rfl k82 h
-- 41
def h41 : List (Nat × Tm) := [(17, ⟨[0], fun n i => [(1, (.cv (.sc (.int .i64) (.v (n + 0))))), (5, (.cv (.sc (.int .i64) (.v (n + 1)))))], fun n i => [], 2, 0⟩)]
def a41 : A :=
 .pm .llen [(.v 0)] <|
 .pm (.sub .i64) [(.v 1), (.v 2)] <|
 .pm .lt [(.v 3), (.ki 0)] <|
 .ite (.v 4) (
  .out 1 [(.ki (-1))]) <|
 .lp 2 [(.v 3), (.ki 0)] <|
  .pm .llen [(.v 0)] <|
  .pm .lt [(.v 6), (.v 7)] <|
  .ite (.v 8) (
   .pm .lget [(.v 0), (.v 6)] <|
   .cl 82 [(.tc (.pj (.v 9) 0) (.tc (.pj (.v 9) 1) (.tc (.pj (.v 9) 2) (.tc (.pj (.v 9) 3) (.tc (.pj (.v 9) 4) (.tc (.pj (.v 9) 5) (.tc (.pj (.v 9) 6) (.tc (.pj (.v 9) 7) (.tc (.pj (.v 9) 8) (.tc (.pj (.v 9) 9) (.tc (.pj (.v 9) 10) (.tc (.pj (.v 9) 11) (.tc (.pj (.v 9) 12) (.tc (.pj (.v 9) 13) (.tc (.pj (.v 9) 14) (.tc (.pj (.v 9) 15) (.tc (.pj (.v 9) 16) (.tc (.pj (.v 9) 17) (.tc (.pj (.v 9) 18) (.tc (.pj (.v 9) 19) (.tc (.pj (.v 9) 20) .tn))))))))))))))))))))), (.v 5)] 1 <|
   .pm .lt [(.v 10), (.ki 0)] <|
   .ite (.v 11) (
    .out 1 [(.ki (-1))]) <|
   .pm (.add .i64) [(.v 6), (.ki 1)] <|
   .out 2 [(.v 10), (.v 12)]) <|
  .out 1 [(.v 5)]
theorem c41 : compF B Try.f41 (look h41) [z46, z3] [z3] = some a41 := by kernel_rfl
theorem k41 : callable Try.prog 41 = true := by kernel_rfl
theorem s41 {vs us : List V} (h : a41.wp Cl (ans us) vs) : Cl 41 vs us := cc_of tabOk mixed Try.func41 c41 rfl k41 h
-- 83
def h83 : List (Nat × Tm) := []
def a83 : A :=
 .cl 123 [(.tc (.pj (.v 0) 1) (.tc (.pj (.v 0) 2) (.tc (.pj (.v 0) 3) (.tc (.pj (.v 0) 4) .tn)))), (.v 1)] 1 <|
 .pm .lt [(.v 2), (.ki 0)] <|
 .ite (.v 3) (
  .out 1 [(.ki (-1))]) <|
 .out 1 [(.v 2)]
theorem c83 : compF B Try.f83 (look h83) [z155, z3] [z3] = some a83 := by kernel_rfl
theorem k83 : callable Try.prog 83 = true := by kernel_rfl
theorem s83 {vs us : List V} (h : a83.wp Cl (ans us) vs) : Cl 83 vs us := cc_of tabOk mixed Try.func83 c83 rfl k83 h
-- 42
def h42 : List (Nat × Tm) := [(17, ⟨[0], fun n i => [(1, (.cv (.sc (.int .i64) (.v (n + 0))))), (5, (.cv (.sc (.int .i64) (.v (n + 1)))))], fun n i => [], 2, 0⟩)]
def a42 : A :=
 .pm .llen [(.v 0)] <|
 .pm (.sub .i64) [(.v 1), (.v 2)] <|
 .pm .lt [(.v 3), (.ki 0)] <|
 .ite (.v 4) (
  .out 1 [(.ki (-1))]) <|
 .lp 2 [(.v 3), (.ki 0)] <|
  .pm .llen [(.v 0)] <|
  .pm .lt [(.v 6), (.v 7)] <|
  .ite (.v 8) (
   .pm .lget [(.v 0), (.v 6)] <|
   .cl 83 [(.tc (.pj (.v 9) 0) (.tc (.pj (.v 9) 1) (.tc (.pj (.v 9) 2) (.tc (.pj (.v 9) 3) (.tc (.pj (.v 9) 4) .tn))))), (.v 5)] 1 <|
   .pm .lt [(.v 10), (.ki 0)] <|
   .ite (.v 11) (
    .out 1 [(.ki (-1))]) <|
   .pm (.add .i64) [(.v 6), (.ki 1)] <|
   .out 2 [(.v 10), (.v 12)]) <|
  .out 1 [(.v 5)]
theorem c42 : compF B Try.f42 (look h42) [z47, z3] [z3] = some a42 := by kernel_rfl
theorem k42 : callable Try.prog 42 = true := by kernel_rfl
theorem s42 {vs us : List V} (h : a42.wp Cl (ans us) vs) : Cl 42 vs us := cc_of tabOk mixed Try.func42 c42 rfl k42 h
-- 43
def h43 : List (Nat × Tm) := []
def a43 : A :=
 .cl 84 [(.tc (.pj (.v 0) 3) (.tc (.pj (.v 0) 4) (.tc (.pj (.v 0) 5) (.tc (.pj (.v 0) 6) .tn)))), (.v 1)] 1 <|
 .pm .lt [(.v 2), (.ki 0)] <|
 .ite (.v 3) (
  .out 1 [(.ki (-1))]) <|
 .cl 85 [(.tc (.pj (.v 0) 13) (.tc (.pj (.v 0) 14) (.tc (.pj (.v 0) 15) .tn))), (.v 2)] 1 <|
 .pm .lt [(.v 4), (.ki 0)] <|
 .ite (.v 5) (
  .out 1 [(.ki (-1))]) <|
 .cl 85 [(.tc (.pj (.v 0) 16) (.tc (.pj (.v 0) 17) (.tc (.pj (.v 0) 18) .tn))), (.v 4)] 1 <|
 .pm .lt [(.v 6), (.ki 0)] <|
 .ite (.v 7) (
  .out 1 [(.ki (-1))]) <|
 .out 1 [(.v 6)]
theorem c43 : compF B Try.f43 (look h43) [z53, z3] [z3] = some a43 := by kernel_rfl
theorem k43 : callable Try.prog 43 = true := by kernel_rfl
theorem s43 {vs us : List V} (h : a43.wp Cl (ans us) vs) : Cl 43 vs us := cc_of tabOk mixed Try.func43 c43 rfl k43 h
-- 44
def h44 : List (Nat × Tm) := [(17, ⟨[0], fun n i => [(1, (.cv (.sc (.int .i64) (.v (n + 0))))), (5, (.cv (.sc (.int .i64) (.v (n + 1)))))], fun n i => [], 2, 0⟩)]
def a44 : A :=
 .pm .llen [(.v 0)] <|
 .pm (.sub .i64) [(.v 1), (.v 2)] <|
 .pm .lt [(.v 3), (.ki 0)] <|
 .ite (.v 4) (
  .out 1 [(.ki (-1))]) <|
 .lp 2 [(.v 3), (.ki 0)] <|
  .pm .llen [(.v 0)] <|
  .pm .lt [(.v 6), (.v 7)] <|
  .ite (.v 8) (
   .pm .lget [(.v 0), (.v 6)] <|
   .cl 43 [(.tc (.pj (.v 9) 0) (.tc (.pj (.v 9) 1) (.tc (.pj (.v 9) 2) (.tc (.pj (.v 9) 3) (.tc (.pj (.v 9) 4) (.tc (.pj (.v 9) 5) (.tc (.pj (.v 9) 6) (.tc (.pj (.v 9) 7) (.tc (.pj (.v 9) 8) (.tc (.pj (.v 9) 9) (.tc (.pj (.v 9) 10) (.tc (.pj (.v 9) 11) (.tc (.pj (.v 9) 12) (.tc (.pj (.v 9) 13) (.tc (.pj (.v 9) 14) (.tc (.pj (.v 9) 15) (.tc (.pj (.v 9) 16) (.tc (.pj (.v 9) 17) (.tc (.pj (.v 9) 18) .tn))))))))))))))))))), (.v 5)] 1 <|
   .pm .lt [(.v 10), (.ki 0)] <|
   .ite (.v 11) (
    .out 1 [(.ki (-1))]) <|
   .pm (.add .i64) [(.v 6), (.ki 1)] <|
   .out 2 [(.v 10), (.v 12)]) <|
  .out 1 [(.v 5)]
theorem c44 : compF B Try.f44 (look h44) [z54, z3] [z3] = some a44 := by kernel_rfl
theorem k44 : callable Try.prog 44 = true := by kernel_rfl
theorem s44 {vs us : List V} (h : a44.wp Cl (ans us) vs) : Cl 44 vs us := cc_of tabOk mixed Try.func44 c44 rfl k44 h
-- 124
def h124 : List (Nat × Tm) := []
def a124 : A :=
 .pm .slen [(.pj (.v 0) 2)] <|
 .pm (.sub .i64) [(.v 1), (.v 2)] <|
 .pm .lt [(.v 3), (.ki 0)] <|
 .ite (.v 4) (
  .out 1 [(.ki (-1))]) <|
 .out 1 [(.v 3)]
theorem c124 : compF B Try.f124 (look h124) [z160, z3] [z3] = some a124 := by kernel_rfl
theorem k124 : callable Try.prog 124 = true := by kernel_rfl
theorem s124 {vs us : List V} (h : a124.wp Cl (ans us) vs) : Cl 124 vs us := cc_of tabOk mixed Try.func124 c124 rfl k124 h
-- 86
def h86 : List (Nat × Tm) := []
def a86 : A :=
 .cl 124 [(.tc (.pj (.v 0) 2) (.tc (.pj (.v 0) 3) (.tc (.pj (.v 0) 4) .tn))), (.v 1)] 1 <|
 .pm .lt [(.v 2), (.ki 0)] <|
 .ite (.v 3) (
  .out 1 [(.ki (-1))]) <|
 .cl 85 [(.tc (.pj (.v 0) 5) (.tc (.pj (.v 0) 6) (.tc (.pj (.v 0) 7) .tn))), (.v 2)] 1 <|
 .pm .lt [(.v 4), (.ki 0)] <|
 .ite (.v 5) (
  .out 1 [(.ki (-1))]) <|
 .out 1 [(.v 4)]
theorem c86 : compF B Try.f86 (look h86) [z162, z3] [z3] = some a86 := by kernel_rfl
theorem k86 : callable Try.prog 86 = true := by kernel_rfl
theorem s86 {vs us : List V} (h : a86.wp Cl (ans us) vs) : Cl 86 vs us := cc_of tabOk mixed Try.func86 c86 rfl k86 h
-- 45
def h45 : List (Nat × Tm) := [(17, ⟨[0], fun n i => [(1, (.cv (.sc (.int .i64) (.v (n + 0))))), (5, (.cv (.sc (.int .i64) (.v (n + 1)))))], fun n i => [], 2, 0⟩)]
def a45 : A :=
 .pm .llen [(.v 0)] <|
 .pm (.sub .i64) [(.v 1), (.v 2)] <|
 .pm .lt [(.v 3), (.ki 0)] <|
 .ite (.v 4) (
  .out 1 [(.ki (-1))]) <|
 .lp 2 [(.v 3), (.ki 0)] <|
  .pm .llen [(.v 0)] <|
  .pm .lt [(.v 6), (.v 7)] <|
  .ite (.v 8) (
   .pm .lget [(.v 0), (.v 6)] <|
   .cl 86 [(.tc (.pj (.v 9) 0) (.tc (.pj (.v 9) 1) (.tc (.pj (.v 9) 2) (.tc (.pj (.v 9) 3) (.tc (.pj (.v 9) 4) (.tc (.pj (.v 9) 5) (.tc (.pj (.v 9) 6) (.tc (.pj (.v 9) 7) .tn)))))))), (.v 5)] 1 <|
   .pm .lt [(.v 10), (.ki 0)] <|
   .ite (.v 11) (
    .out 1 [(.ki (-1))]) <|
   .pm (.add .i64) [(.v 6), (.ki 1)] <|
   .out 2 [(.v 10), (.v 12)]) <|
  .out 1 [(.v 5)]
theorem c45 : compF B Try.f45 (look h45) [z55, z3] [z3] = some a45 := by kernel_rfl
theorem k45 : callable Try.prog 45 = true := by kernel_rfl
theorem s45 {vs us : List V} (h : a45.wp Cl (ans us) vs) : Cl 45 vs us := cc_of tabOk mixed Try.func45 c45 rfl k45 h
-- 125
def h125 : List (Nat × Tm) := []
def a125 : A :=
 .pm .llen [(.v 0)] <|
 .pm (.sub .i64) [(.v 1), (.v 2)] <|
 .pm .lt [(.v 3), (.ki 0)] <|
 .ite (.v 4) (
  .out 1 [(.ki (-1))]) <|
 .out 1 [(.v 3)]
theorem c125 : compF B Try.f125 (look h125) [z164, z3] [z3] = some a125 := by kernel_rfl
theorem k125 : callable Try.prog 125 = true := by kernel_rfl
theorem s125 {vs us : List V} (h : a125.wp Cl (ans us) vs) : Cl 125 vs us := cc_of tabOk mixed Try.func125 c125 rfl k125 h
-- 126
def h126 : List (Nat × Tm) := [(17, ⟨[0], fun n i => [(1, (.cv (.sc (.int .i64) (.v (n + 0))))), (5, (.cv (.sc (.int .i64) (.v (n + 1)))))], fun n i => [], 2, 0⟩)]
def a126 : A :=
 .pm .llen [(.v 0)] <|
 .pm (.sub .i64) [(.v 1), (.v 2)] <|
 .pm .lt [(.v 3), (.ki 0)] <|
 .ite (.v 4) (
  .out 1 [(.ki (-1))]) <|
 .lp 2 [(.v 3), (.ki 0)] <|
  .pm .llen [(.v 0)] <|
  .pm .lt [(.v 6), (.v 7)] <|
  .ite (.v 8) (
   .pm .lget [(.v 0), (.v 6)] <|
   .pm .slen [(.v 9)] <|
   .pm (.sub .i64) [(.v 5), (.v 10)] <|
   .pm .lt [(.v 11), (.ki 0)] <|
   .ite (.v 12) (
    .out 1 [(.ki (-1))]) <|
   .pm (.add .i64) [(.v 6), (.ki 1)] <|
   .out 2 [(.v 11), (.v 13)]) <|
  .out 1 [(.v 5)]
theorem c126 : compF B Try.f126 (look h126) [z95, z3] [z3] = some a126 := by kernel_rfl
theorem k126 : callable Try.prog 126 = true := by kernel_rfl
theorem s126 {vs us : List V} (h : a126.wp Cl (ans us) vs) : Cl 126 vs us := cc_of tabOk mixed Try.func126 c126 rfl k126 h
-- 127
def h127 : List (Nat × Tm) := [(17, ⟨[0], fun n i => [(1, (.cv (.sc (.int .i64) (.v (n + 0))))), (5, (.cv (.sc (.int .i64) (.v (n + 1)))))], fun n i => [], 2, 0⟩)]
def a127 : A :=
 .pm .llen [(.v 0)] <|
 .pm (.sub .i64) [(.v 1), (.v 2)] <|
 .pm .lt [(.v 3), (.ki 0)] <|
 .ite (.v 4) (
  .out 1 [(.ki (-1))]) <|
 .lp 2 [(.v 3), (.ki 0)] <|
  .pm .llen [(.v 0)] <|
  .pm .lt [(.v 6), (.v 7)] <|
  .ite (.v 8) (
   .pm .lget [(.v 0), (.v 6)] <|
   .cl 85 [(.tc (.pj (.v 9) 0) (.tc (.pj (.v 9) 1) (.tc (.pj (.v 9) 2) .tn))), (.v 5)] 1 <|
   .pm .lt [(.v 10), (.ki 0)] <|
   .ite (.v 11) (
    .out 1 [(.ki (-1))]) <|
   .pm (.add .i64) [(.v 6), (.ki 1)] <|
   .out 2 [(.v 10), (.v 12)]) <|
  .out 1 [(.v 5)]
theorem c127 : compF B Try.f127 (look h127) [z165, z3] [z3] = some a127 := by kernel_rfl
theorem k127 : callable Try.prog 127 = true := by kernel_rfl
theorem s127 {vs us : List V} (h : a127.wp Cl (ans us) vs) : Cl 127 vs us := cc_of tabOk mixed Try.func127 c127 rfl k127 h
-- 87
def h87 : List (Nat × Tm) := []
def a87 : A :=
 .cl 84 [(.tc (.pj (.v 0) 0) (.tc (.pj (.v 0) 1) (.tc (.pj (.v 0) 2) (.tc (.pj (.v 0) 3) .tn)))), (.v 1)] 1 <|
 .pm .lt [(.v 2), (.ki 0)] <|
 .ite (.v 3) (
  .out 1 [(.ki (-1))]) <|
 .cl 125 [(.pj (.v 0) 4), (.v 2)] 1 <|
 .pm .lt [(.v 4), (.ki 0)] <|
 .ite (.v 5) (
  .out 1 [(.ki (-1))]) <|
 .cl 126 [(.pj (.v 0) 5), (.v 4)] 1 <|
 .pm .lt [(.v 6), (.ki 0)] <|
 .ite (.v 7) (
  .out 1 [(.ki (-1))]) <|
 .cl 22 [(.pj (.v 0) 6), (.v 6)] 1 <|
 .pm .lt [(.v 8), (.ki 0)] <|
 .ite (.v 9) (
  .out 1 [(.ki (-1))]) <|
 .cl 127 [(.pj (.v 0) 7), (.v 8)] 1 <|
 .pm .lt [(.v 10), (.ki 0)] <|
 .ite (.v 11) (
  .out 1 [(.ki (-1))]) <|
 .out 1 [(.v 10)]
theorem c87 : compF B Try.f87 (look h87) [z167, z3] [z3] = some a87 := by kernel_rfl
theorem k87 : callable Try.prog 87 = true := by kernel_rfl
theorem s87 {vs us : List V} (h : a87.wp Cl (ans us) vs) : Cl 87 vs us := cc_of tabOk mixed Try.func87 c87 rfl k87 h
-- 46
def h46 : List (Nat × Tm) := [(17, ⟨[0], fun n i => [(1, (.cv (.sc (.int .i64) (.v (n + 0))))), (5, (.cv (.sc (.int .i64) (.v (n + 1)))))], fun n i => [], 2, 0⟩)]
def a46 : A :=
 .pm .llen [(.v 0)] <|
 .pm (.sub .i64) [(.v 1), (.v 2)] <|
 .pm .lt [(.v 3), (.ki 0)] <|
 .ite (.v 4) (
  .out 1 [(.ki (-1))]) <|
 .lp 2 [(.v 3), (.ki 0)] <|
  .pm .llen [(.v 0)] <|
  .pm .lt [(.v 6), (.v 7)] <|
  .ite (.v 8) (
   .pm .lget [(.v 0), (.v 6)] <|
   .cl 87 [(.tc (.pj (.v 9) 0) (.tc (.pj (.v 9) 1) (.tc (.pj (.v 9) 2) (.tc (.pj (.v 9) 3) (.tc (.pj (.v 9) 4) (.tc (.pj (.v 9) 5) (.tc (.pj (.v 9) 6) (.tc (.pj (.v 9) 7) .tn)))))))), (.v 5)] 1 <|
   .pm .lt [(.v 10), (.ki 0)] <|
   .ite (.v 11) (
    .out 1 [(.ki (-1))]) <|
   .pm (.add .i64) [(.v 6), (.ki 1)] <|
   .out 2 [(.v 10), (.v 12)]) <|
  .out 1 [(.v 5)]
theorem c46 : compF B Try.f46 (look h46) [z56, z3] [z3] = some a46 := by kernel_rfl
theorem k46 : callable Try.prog 46 = true := by kernel_rfl
theorem s46 {vs us : List V} (h : a46.wp Cl (ans us) vs) : Cl 46 vs us := cc_of tabOk mixed Try.func46 c46 rfl k46 h
-- 16
def h16 : List (Nat × Tm) := []
def a16 : A :=
 .cl 5 [(.tc (.pj (.v 0) 0) (.tc (.pj (.v 0) 1) (.tc (.pj (.v 0) 2) (.tc (.pj (.v 0) 3) (.tc (.pj (.v 0) 4) (.tc (.pj (.v 0) 5) (.tc (.pj (.v 0) 6) (.tc (.pj (.v 0) 7) (.tc (.pj (.v 0) 8) (.tc (.pj (.v 0) 9) (.tc (.pj (.v 0) 10) (.tc (.pj (.v 0) 11) (.tc (.pj (.v 0) 12) (.tc (.pj (.v 0) 13) (.tc (.pj (.v 0) 14) (.tc (.pj (.v 0) 15) (.tc (.pj (.v 0) 16) (.tc (.pj (.v 0) 17) .tn)))))))))))))))))), (.v 1)] 1 <|
 .pm .lt [(.v 2), (.ki 0)] <|
 .ite (.v 3) (
  .out 1 [(.ki (-1))]) <|
 .cl 41 [(.pj (.v 0) 18), (.v 2)] 1 <|
 .pm .lt [(.v 4), (.ki 0)] <|
 .ite (.v 5) (
  .out 1 [(.ki (-1))]) <|
 .cl 42 [(.pj (.v 0) 19), (.v 4)] 1 <|
 .pm .lt [(.v 6), (.ki 0)] <|
 .ite (.v 7) (
  .out 1 [(.ki (-1))]) <|
 .cl 43 [(.tc (.pj (.v 0) 20) (.tc (.pj (.v 0) 21) (.tc (.pj (.v 0) 22) (.tc (.pj (.v 0) 23) (.tc (.pj (.v 0) 24) (.tc (.pj (.v 0) 25) (.tc (.pj (.v 0) 26) (.tc (.pj (.v 0) 27) (.tc (.pj (.v 0) 28) (.tc (.pj (.v 0) 29) (.tc (.pj (.v 0) 30) (.tc (.pj (.v 0) 31) (.tc (.pj (.v 0) 32) (.tc (.pj (.v 0) 33) (.tc (.pj (.v 0) 34) (.tc (.pj (.v 0) 35) (.tc (.pj (.v 0) 36) (.tc (.pj (.v 0) 37) (.tc (.pj (.v 0) 38) .tn))))))))))))))))))), (.v 6)] 1 <|
 .pm .lt [(.v 8), (.ki 0)] <|
 .ite (.v 9) (
  .out 1 [(.ki (-1))]) <|
 .cl 44 [(.pj (.v 0) 39), (.v 8)] 1 <|
 .pm .lt [(.v 10), (.ki 0)] <|
 .ite (.v 11) (
  .out 1 [(.ki (-1))]) <|
 .cl 45 [(.pj (.v 0) 40), (.v 10)] 1 <|
 .pm .lt [(.v 12), (.ki 0)] <|
 .ite (.v 13) (
  .out 1 [(.ki (-1))]) <|
 .cl 46 [(.pj (.v 0) 41), (.v 12)] 1 <|
 .pm .lt [(.v 14), (.ki 0)] <|
 .ite (.v 15) (
  .out 1 [(.ki (-1))]) <|
 .cl 22 [(.pj (.v 0) 42), (.v 14)] 1 <|
 .pm .lt [(.v 16), (.ki 0)] <|
 .ite (.v 17) (
  .out 1 [(.ki (-1))]) <|
 .out 1 [(.v 16)]
theorem c16 : compF B Try.f16 (look h16) [z58, z3] [z3] = some a16 := by kernel_rfl
theorem k16 : callable Try.prog 16 = true := by kernel_rfl
theorem s16 {vs us : List V} (h : a16.wp Cl (ans us) vs) : Cl 16 vs us := cc_of tabOk mixed Try.func16 c16 rfl k16 h
-- 27
def h27 : List (Nat × Tm) := []
def a27 : A :=
 .out 1 [(.tc (.pj (.v 0) 0) (.tc (.pj (.v 0) 1) (.tc (.pj (.v 0) 2) (.tc (.pj (.v 0) 3) .tn))))]
theorem c27 : compF B Try.f27 (look h27) [z23] [z32] = some a27 := by kernel_rfl
theorem k27 : callable Try.prog 27 = true := by kernel_rfl
theorem s27 {vs us : List V} (h : a27.wp Cl (ans us) vs) : Cl 27 vs us := cc_of tabOk mixed Try.func27 c27 rfl k27 h
-- 29
def h29 : List (Nat × Tm) := [(11, ⟨[0], fun n i => [(3, (.cv (.own (i + 0)))), (4, (.cv (.sc (.int .i64) (.v (n + 0)))))], fun n i => [((i + 0), (.arr 1 (.int .i64) 3 (.v (n + 1))))], 2, 1⟩)]
def a29 : A :=
 .pm .llen [(.v 0)] <|
 .pm (.lmk 8) [(.v 1), (.v 1), (.ki 0)] <|
 .lp 2 [(.ki 0), (.v 2)] <|
  .pm .llen [(.v 0)] <|
  .pm .lt [(.v 3), (.v 5)] <|
  .ite (.v 6) (
   .pm .lget [(.v 0), (.v 3)] <|
   .pm .lget [(.v 4), (.v 3)] <|
   .pm .lset [(.v 4), (.v 3), (.v 7)] <|
   .pm (.add .i64) [(.v 3), (.ki 1)] <|
   .out 2 [(.v 10), (.v 9)]) <|
  .out 1 [(.v 4)]
theorem c29 : compF B Try.f29 (look h29) [z24] [z24] = some a29 := by kernel_rfl
theorem k29 : callable Try.prog 29 = true := by kernel_rfl
theorem s29 {vs us : List V} (h : a29.wp Cl (ans us) vs) : Cl 29 vs us := cc_of tabOk mixed Try.func29 c29 rfl k29 h
-- 9
def h9 : List (Nat × Tm) := []
def a9 : A :=
 .cl 29 [(.pj (.v 0) 0)] 1 <|
 .cl 29 [(.pj (.v 0) 1)] 1 <|
 .cl 29 [(.pj (.v 0) 2)] 1 <|
 .out 1 [(.tc (.v 1) (.tc (.v 2) (.tc (.v 3) .tn)))]
theorem c9 : compF B Try.f9 (look h9) [z26] [z33] = some a9 := by kernel_rfl
theorem k9 : callable Try.prog 9 = true := by kernel_rfl
theorem s9 {vs us : List V} (h : a9.wp Cl (ans us) vs) : Cl 9 vs us := cc_of tabOk mixed Try.func9 c9 rfl k9 h
-- 129
def h129 : List (Nat × Tm) := []
def a129 : A :=
 .out 1 [(.tc (.pj (.v 0) 0) (.tc (.pj (.v 0) 1) (.tc (.pj (.v 0) 2) (.tc (.pj (.v 0) 3) .tn))))]
theorem c129 : compF B Try.f129 (look h129) [z153] [z174] = some a129 := by kernel_rfl
theorem k129 : callable Try.prog 129 = true := by kernel_rfl
theorem s129 {vs us : List V} (h : a129.wp Cl (ans us) vs) : Cl 129 vs us := cc_of tabOk mixed Try.func129 c129 rfl k129 h
-- 150
def h150 : List (Nat × Tm) := [(11, ⟨[0], fun n i => [(3, (.cv (.own (i + 0)))), (4, (.cv (.sc (.int .i64) (.v (n + 0)))))], fun n i => [((i + 0), (.arr 1 (.cons (.int .i64) (.cons .bool (.cons .bool (.cons .str .nil)))) 174 (.v (n + 1))))], 2, 1⟩)]
def a150 : A :=
 .pm .llen [(.v 0)] <|
 .pm (.lmk 32) [(.v 1), (.v 1), (.tc (.ki 0) (.tc (.kb false) (.tc (.kb false) (.tc (.ks []) .tn))))] <|
 .lp 2 [(.ki 0), (.v 2)] <|
  .pm .llen [(.v 0)] <|
  .pm .lt [(.v 3), (.v 5)] <|
  .ite (.v 6) (
   .pm .lget [(.v 0), (.v 3)] <|
   .cl 129 [(.tc (.pj (.v 7) 0) (.tc (.pj (.v 7) 1) (.tc (.pj (.v 7) 2) (.tc (.pj (.v 7) 3) .tn))))] 1 <|
   .pm .lget [(.v 4), (.v 3)] <|
   .pm .lset [(.v 4), (.v 3), (.tc (.pj (.v 8) 0) (.tc (.pj (.v 8) 1) (.tc (.pj (.v 8) 2) (.tc (.pj (.v 8) 3) .tn))))] <|
   .pm (.add .i64) [(.v 3), (.ki 1)] <|
   .out 2 [(.v 11), (.v 10)]) <|
  .out 1 [(.v 4)]
theorem c150 : compF B Try.f150 (look h150) [z114] [z121] = some a150 := by kernel_rfl
theorem k150 : callable Try.prog 150 = true := by kernel_rfl
theorem s150 {vs us : List V} (h : a150.wp Cl (ans us) vs) : Cl 150 vs us := cc_of tabOk mixed Try.func150 c150 rfl k150 h
-- 108
def h108 : List (Nat × Tm) := []
def a108 : A :=
 .cl 150 [(.pj (.v 0) 3)] 1 <|
 .out 1 [(.tc (.pj (.v 0) 0) (.tc (.pj (.v 0) 1) (.tc (.pj (.v 0) 2) (.tc (.v 1) (.tc (.pj (.v 0) 4) (.tc (.pj (.v 0) 5) (.tc (.pj (.v 0) 6) (.tc (.pj (.v 0) 7) (.tc (.pj (.v 0) 8) .tn)))))))))]
theorem c108 : compF B Try.f108 (look h108) [z116] [z123] = some a108 := by kernel_rfl
theorem k108 : callable Try.prog 108 = true := by kernel_rfl
theorem s108 {vs us : List V} (h : a108.wp Cl (ans us) vs) : Cl 108 vs us := cc_of tabOk mixed Try.func108 c108 rfl k108 h
-- 90
def h90 : List (Nat × Tm) := []
def a90 : A :=
 .cl 29 [(.pj (.v 0) 2)] 1 <|
 .cl 29 [(.pj (.v 0) 3)] 1 <|
 .out 1 [(.tc (.pj (.v 0) 0) (.tc (.pj (.v 0) 1) (.tc (.v 1) (.tc (.v 2) .tn))))]
theorem c90 : compF B Try.f90 (look h90) [z49] [z63] = some a90 := by kernel_rfl
theorem k90 : callable Try.prog 90 = true := by kernel_rfl
theorem s90 {vs us : List V} (h : a90.wp Cl (ans us) vs) : Cl 90 vs us := cc_of tabOk mixed Try.func90 c90 rfl k90 h
-- 109
def h109 : List (Nat × Tm) := []
def a109 : A :=
 .cl 90 [(.tc (.pj (.v 0) 2) (.tc (.pj (.v 0) 3) (.tc (.pj (.v 0) 4) (.tc (.pj (.v 0) 5) .tn))))] 1 <|
 .cl 27 [(.tc (.pj (.v 0) 6) (.tc (.pj (.v 0) 7) (.tc (.pj (.v 0) 8) (.tc (.pj (.v 0) 9) .tn))))] 1 <|
 .out 1 [(.tc (.pj (.v 0) 0) (.tc (.pj (.v 0) 1) (.tc (.pj (.v 1) 0) (.tc (.pj (.v 1) 1) (.tc (.pj (.v 1) 2) (.tc (.pj (.v 1) 3) (.tc (.pj (.v 2) 0) (.tc (.pj (.v 2) 1) (.tc (.pj (.v 2) 2) (.tc (.pj (.v 2) 3) (.tc (.pj (.v 0) 10) (.tc (.pj (.v 0) 11) (.tc (.pj (.v 0) 12) .tn)))))))))))))]
theorem c109 : compF B Try.f109 (look h109) [z118] [z125] = some a109 := by kernel_rfl
theorem k109 : callable Try.prog 109 = true := by kernel_rfl
theorem s109 {vs us : List V} (h : a109.wp Cl (ans us) vs) : Cl 109 vs us := cc_of tabOk mixed Try.func109 c109 rfl k109 h
-- 66
def h66 : List (Nat × Tm) := []
def a66 : A :=
 .cl 108 [(.tc (.pj (.v 0) 0) (.tc (.pj (.v 0) 1) (.tc (.pj (.v 0) 2) (.tc (.pj (.v 0) 3) (.tc (.pj (.v 0) 4) (.tc (.pj (.v 0) 5) (.tc (.pj (.v 0) 6) (.tc (.pj (.v 0) 7) (.tc (.pj (.v 0) 8) .tn)))))))))] 1 <|
 .cl 109 [(.tc (.pj (.v 0) 9) (.tc (.pj (.v 0) 10) (.tc (.pj (.v 0) 11) (.tc (.pj (.v 0) 12) (.tc (.pj (.v 0) 13) (.tc (.pj (.v 0) 14) (.tc (.pj (.v 0) 15) (.tc (.pj (.v 0) 16) (.tc (.pj (.v 0) 17) (.tc (.pj (.v 0) 18) (.tc (.pj (.v 0) 19) (.tc (.pj (.v 0) 20) (.tc (.pj (.v 0) 21) .tn)))))))))))))] 1 <|
 .out 1 [(.tc (.pj (.v 1) 0) (.tc (.pj (.v 1) 1) (.tc (.pj (.v 1) 2) (.tc (.pj (.v 1) 3) (.tc (.pj (.v 1) 4) (.tc (.pj (.v 1) 5) (.tc (.pj (.v 1) 6) (.tc (.pj (.v 1) 7) (.tc (.pj (.v 1) 8) (.tc (.pj (.v 2) 0) (.tc (.pj (.v 2) 1) (.tc (.pj (.v 2) 2) (.tc (.pj (.v 2) 3) (.tc (.pj (.v 2) 4) (.tc (.pj (.v 2) 5) (.tc (.pj (.v 2) 6) (.tc (.pj (.v 2) 7) (.tc (.pj (.v 2) 8) (.tc (.pj (.v 2) 9) (.tc (.pj (.v 2) 10) (.tc (.pj (.v 2) 11) (.tc (.pj (.v 2) 12) (.tc (.pj (.v 0) 22) (.tc (.pj (.v 0) 23) .tn))))))))))))))))))))))))]
theorem c66 : compF B Try.f66 (look h66) [z120] [z127] = some a66 := by kernel_rfl
theorem k66 : callable Try.prog 66 = true := by kernel_rfl
theorem s66 {vs us : List V} (h : a66.wp Cl (ans us) vs) : Cl 66 vs us := cc_of tabOk mixed Try.func66 c66 rfl k66 h
-- 28
def h28 : List (Nat × Tm) := [(11, ⟨[0], fun n i => [(3, (.cv (.own (i + 0)))), (4, (.cv (.sc (.int .i64) (.v (n + 0)))))], fun n i => [((i + 0), (.arr 1 (.cons .bool (.cons (.int .i64) (.cons (.int .i64) (.cons (.sl (.cons (.int .i64) (.cons .bool (.cons .bool (.cons .str .nil)))) 174) (.cons (.int .i64) (.cons (.int .i64) (.cons (.int .i64) (.cons (.int .i64) (.cons (.int .i64) (.cons .bool (.cons .bool (.cons (.int .i64) (.cons (.int .i64) (.cons (.sl (.int .i64) 3) (.cons (.sl (.int .i64) 3) (.cons (.int .i64) (.cons .bool (.cons .bool (.cons .bool (.cons (.int .i64) (.cons (.int .i64) (.cons (.int .i64) (.cons .bool (.cons (.int .i64) .nil)))))))))))))))))))))))) 127 (.v (n + 1))))], 2, 1⟩)]
def a28 : A :=
 .pm .llen [(.v 0)] <|
 .pm (.lmk 216) [(.v 1), (.v 1), (.tc (.kb false) (.tc (.ki 0) (.tc (.ki 0) (.tc .kl (.tc (.ki 0) (.tc (.ki 0) (.tc (.ki 0) (.tc (.ki 0) (.tc (.ki 0) (.tc (.kb false) (.tc (.kb false) (.tc (.ki 0) (.tc (.ki 0) (.tc .kl (.tc .kl (.tc (.ki 0) (.tc (.kb false) (.tc (.kb false) (.tc (.kb false) (.tc (.ki 0) (.tc (.ki 0) (.tc (.ki 0) (.tc (.kb false) (.tc (.ki 0) .tn))))))))))))))))))))))))] <|
 .lp 2 [(.ki 0), (.v 2)] <|
  .pm .llen [(.v 0)] <|
  .pm .lt [(.v 3), (.v 5)] <|
  .ite (.v 6) (
   .pm .lget [(.v 0), (.v 3)] <|
   .cl 66 [(.tc (.pj (.v 7) 0) (.tc (.pj (.v 7) 1) (.tc (.pj (.v 7) 2) (.tc (.pj (.v 7) 3) (.tc (.pj (.v 7) 4) (.tc (.pj (.v 7) 5) (.tc (.pj (.v 7) 6) (.tc (.pj (.v 7) 7) (.tc (.pj (.v 7) 8) (.tc (.pj (.v 7) 9) (.tc (.pj (.v 7) 10) (.tc (.pj (.v 7) 11) (.tc (.pj (.v 7) 12) (.tc (.pj (.v 7) 13) (.tc (.pj (.v 7) 14) (.tc (.pj (.v 7) 15) (.tc (.pj (.v 7) 16) (.tc (.pj (.v 7) 17) (.tc (.pj (.v 7) 18) (.tc (.pj (.v 7) 19) (.tc (.pj (.v 7) 20) (.tc (.pj (.v 7) 21) (.tc (.pj (.v 7) 22) (.tc (.pj (.v 7) 23) .tn))))))))))))))))))))))))] 1 <|
   .pm .lget [(.v 4), (.v 3)] <|
   .pm .lset [(.v 4), (.v 3), (.tc (.pj (.v 8) 0) (.tc (.pj (.v 8) 1) (.tc (.pj (.v 8) 2) (.tc (.pj (.v 8) 3) (.tc (.pj (.v 8) 4) (.tc (.pj (.v 8) 5) (.tc (.pj (.v 8) 6) (.tc (.pj (.v 8) 7) (.tc (.pj (.v 8) 8) (.tc (.pj (.v 8) 9) (.tc (.pj (.v 8) 10) (.tc (.pj (.v 8) 11) (.tc (.pj (.v 8) 12) (.tc (.pj (.v 8) 13) (.tc (.pj (.v 8) 14) (.tc (.pj (.v 8) 15) (.tc (.pj (.v 8) 16) (.tc (.pj (.v 8) 17) (.tc (.pj (.v 8) 18) (.tc (.pj (.v 8) 19) (.tc (.pj (.v 8) 20) (.tc (.pj (.v 8) 21) (.tc (.pj (.v 8) 22) (.tc (.pj (.v 8) 23) .tn))))))))))))))))))))))))] <|
   .pm (.add .i64) [(.v 3), (.ki 1)] <|
   .out 2 [(.v 11), (.v 10)]) <|
  .out 1 [(.v 4)]
theorem c28 : compF B Try.f28 (look h28) [z27] [z34] = some a28 := by kernel_rfl
theorem k28 : callable Try.prog 28 = true := by kernel_rfl
theorem s28 {vs us : List V} (h : a28.wp Cl (ans us) vs) : Cl 28 vs us := cc_of tabOk mixed Try.func28 c28 rfl k28 h
-- 8
def h8 : List (Nat × Tm) := []
def a8 : A :=
 .cl 27 [(.tc (.pj (.v 0) 0) (.tc (.pj (.v 0) 1) (.tc (.pj (.v 0) 2) (.tc (.pj (.v 0) 3) .tn))))] 1 <|
 .cl 9 [(.tc (.pj (.v 0) 8) (.tc (.pj (.v 0) 9) (.tc (.pj (.v 0) 10) .tn)))] 1 <|
 .cl 9 [(.tc (.pj (.v 0) 11) (.tc (.pj (.v 0) 12) (.tc (.pj (.v 0) 13) .tn)))] 1 <|
 .cl 28 [(.pj (.v 0) 17)] 1 <|
 .out 1 [(.tc (.pj (.v 1) 0) (.tc (.pj (.v 1) 1) (.tc (.pj (.v 1) 2) (.tc (.pj (.v 1) 3) (.tc (.pj (.v 0) 4) (.tc (.pj (.v 0) 5) (.tc (.pj (.v 0) 6) (.tc (.pj (.v 0) 7) (.tc (.pj (.v 2) 0) (.tc (.pj (.v 2) 1) (.tc (.pj (.v 2) 2) (.tc (.pj (.v 3) 0) (.tc (.pj (.v 3) 1) (.tc (.pj (.v 3) 2) (.tc (.pj (.v 0) 14) (.tc (.pj (.v 0) 15) (.tc (.pj (.v 0) 16) (.tc (.v 4) .tn))))))))))))))))))]
theorem c8 : compF B Try.f8 (look h8) [z29] [z36] = some a8 := by kernel_rfl
theorem k8 : callable Try.prog 8 = true := by kernel_rfl
theorem s8 {vs us : List V} (h : a8.wp Cl (ans us) vs) : Cl 8 vs us := cc_of tabOk mixed Try.func8 c8 rfl k8 h
-- 155
def h155 : List (Nat × Tm) := []
def a155 : A :=
 .out 1 [(.tc (.pj (.v 0) 0) (.tc (.pj (.v 0) 1) (.tc (.pj (.v 0) 2) .tn)))]
theorem c155 : compF B Try.f155 (look h155) [z146] [z168] = some a155 := by kernel_rfl
theorem k155 : callable Try.prog 155 = true := by kernel_rfl
theorem s155 {vs us : List V} (h : a155.wp Cl (ans us) vs) : Cl 155 vs us := cc_of tabOk mixed Try.func155 c155 rfl k155 h
-- 91
def h91 : List (Nat × Tm) := []
def a91 : A :=
 .out 1 [(.tc (.pj (.v 0) 0) (.tc (.pj (.v 0) 1) (.tc (.pj (.v 0) 2) .tn)))]
theorem c91 : compF B Try.f91 (look h91) [z51] [z64] = some a91 := by kernel_rfl
theorem k91 : callable Try.prog 91 = true := by kernel_rfl
theorem s91 {vs us : List V} (h : a91.wp Cl (ans us) vs) : Cl 91 vs us := cc_of tabOk mixed Try.func91 c91 rfl k91 h
-- 128
def h128 : List (Nat × Tm) := []
def a128 : A :=
 .cl 90 [(.tc (.pj (.v 0) 0) (.tc (.pj (.v 0) 1) (.tc (.pj (.v 0) 2) (.tc (.pj (.v 0) 3) .tn))))] 1 <|
 .cl 27 [(.tc (.pj (.v 0) 4) (.tc (.pj (.v 0) 5) (.tc (.pj (.v 0) 6) (.tc (.pj (.v 0) 7) .tn))))] 1 <|
 .cl 155 [(.tc (.pj (.v 0) 8) (.tc (.pj (.v 0) 9) (.tc (.pj (.v 0) 10) .tn)))] 1 <|
 .cl 91 [(.tc (.pj (.v 0) 16) (.tc (.pj (.v 0) 17) (.tc (.pj (.v 0) 18) .tn)))] 1 <|
 .out 1 [(.tc (.pj (.v 1) 0) (.tc (.pj (.v 1) 1) (.tc (.pj (.v 1) 2) (.tc (.pj (.v 1) 3) (.tc (.pj (.v 2) 0) (.tc (.pj (.v 2) 1) (.tc (.pj (.v 2) 2) (.tc (.pj (.v 2) 3) (.tc (.pj (.v 3) 0) (.tc (.pj (.v 3) 1) (.tc (.pj (.v 3) 2) (.tc (.pj (.v 0) 11) (.tc (.pj (.v 0) 12) (.tc (.pj (.v 0) 13) (.tc (.pj (.v 0) 14) (.tc (.pj (.v 0) 15) (.tc (.pj (.v 4) 0) (.tc (.pj (.v 4) 1) (.tc (.pj (.v 4) 2) .tn)))))))))))))))))))]
theorem c128 : compF B Try.f128 (look h128) [z148] [z170] = some a128 := by kernel_rfl
theorem k128 : callable Try.prog 128 = true := by kernel_rfl
theorem s128 {vs us : List V} (h : a128.wp Cl (ans us) vs) : Cl 128 vs us := cc_of tabOk mixed Try.func128 c128 rfl k128 h
-- 88
def h88 : List (Nat × Tm) := []
def a88 : A :=
 .cl 128 [(.tc (.pj (.v 0) 0) (.tc (.pj (.v 0) 1) (.tc (.pj (.v 0) 2) (.tc (.pj (.v 0) 3) (.tc (.pj (.v 0) 4) (.tc (.pj (.v 0) 5) (.tc (.pj (.v 0) 6) (.tc (.pj (.v 0) 7) (.tc (.pj (.v 0) 8) (.tc (.pj (.v 0) 9) (.tc (.pj (.v 0) 10) (.tc (.pj (.v 0) 11) (.tc (.pj (.v 0) 12) (.tc (.pj (.v 0) 13) (.tc (.pj (.v 0) 14) (.tc (.pj (.v 0) 15) (.tc (.pj (.v 0) 16) (.tc (.pj (.v 0) 17) (.tc (.pj (.v 0) 18) .tn)))))))))))))))))))] 1 <|
 .out 1 [(.tc (.pj (.v 1) 0) (.tc (.pj (.v 1) 1) (.tc (.pj (.v 1) 2) (.tc (.pj (.v 1) 3) (.tc (.pj (.v 1) 4) (.tc (.pj (.v 1) 5) (.tc (.pj (.v 1) 6) (.tc (.pj (.v 1) 7) (.tc (.pj (.v 1) 8) (.tc (.pj (.v 1) 9) (.tc (.pj (.v 1) 10) (.tc (.pj (.v 1) 11) (.tc (.pj (.v 1) 12) (.tc (.pj (.v 1) 13) (.tc (.pj (.v 1) 14) (.tc (.pj (.v 1) 15) (.tc (.pj (.v 1) 16) (.tc (.pj (.v 1) 17) (.tc (.pj (.v 1) 18) (.tc (.pj (.v 0) 19) (.tc (.pj (.v 0) 20) .tn)))))))))))))))))))))]
theorem c88 : compF B Try.f88 (look h88) [z150] [z172] = some a88 := by kernel_rfl
theorem k88 : callable Try.prog 88 = true := by kernel_rfl
theorem s88 {vs us : List V} (h : a88.wp Cl (ans us) vs) : Cl 88 vs us := cc_of tabOk mixed Try.func88 c88 rfl k88 h
-- 47
def h47 : List (Nat × Tm) := [(11, ⟨[0], fun n i => [(3, (.cv (.own (i + 0)))), (4, (.cv (.sc (.int .i64) (.v (n + 0)))))], fun n i => [((i + 0), (.arr 1 (.cons (.int .i64) (.cons (.int .i64) (.cons (.sl (.int .i64) 3) (.cons (.sl (.int .i64) 3) (.cons (.int .i64) (.cons .bool (.cons .bool (.cons .bool (.cons (.int .i64) (.cons (.int .i64) (.cons (.int .i64) (.cons (.int .i64) (.cons (.int .i64) (.cons (.int .i64) (.cons (.int .i64) (.cons .bool (.cons (.int .i64) (.cons (.int .i64) (.cons .str (.cons (.int .i64) (.cons (.int .i64) .nil))))))))))))))))))))) 172 (.v (n + 1))))], 2, 1⟩)]
def a47 : A :=
 .pm .llen [(.v 0)] <|
 .pm (.lmk 192) [(.v 1), (.v 1), (.tc (.ki 0) (.tc (.ki 0) (.tc .kl (.tc .kl (.tc (.ki 0) (.tc (.kb false) (.tc (.kb false) (.tc (.kb false) (.tc (.ki 0) (.tc (.ki 0) (.tc (.ki 0) (.tc (.ki 0) (.tc (.ki 0) (.tc (.ki 0) (.tc (.ki 0) (.tc (.kb false) (.tc (.ki 0) (.tc (.ki 0) (.tc (.ks []) (.tc (.ki 0) (.tc (.ki 0) .tn)))))))))))))))))))))] <|
 .lp 2 [(.ki 0), (.v 2)] <|
  .pm .llen [(.v 0)] <|
  .pm .lt [(.v 3), (.v 5)] <|
  .ite (.v 6) (
   .pm .lget [(.v 0), (.v 3)] <|
   .cl 88 [(.tc (.pj (.v 7) 0) (.tc (.pj (.v 7) 1) (.tc (.pj (.v 7) 2) (.tc (.pj (.v 7) 3) (.tc (.pj (.v 7) 4) (.tc (.pj (.v 7) 5) (.tc (.pj (.v 7) 6) (.tc (.pj (.v 7) 7) (.tc (.pj (.v 7) 8) (.tc (.pj (.v 7) 9) (.tc (.pj (.v 7) 10) (.tc (.pj (.v 7) 11) (.tc (.pj (.v 7) 12) (.tc (.pj (.v 7) 13) (.tc (.pj (.v 7) 14) (.tc (.pj (.v 7) 15) (.tc (.pj (.v 7) 16) (.tc (.pj (.v 7) 17) (.tc (.pj (.v 7) 18) (.tc (.pj (.v 7) 19) (.tc (.pj (.v 7) 20) .tn)))))))))))))))))))))] 1 <|
   .pm .lget [(.v 4), (.v 3)] <|
   .pm .lset [(.v 4), (.v 3), (.tc (.pj (.v 8) 0) (.tc (.pj (.v 8) 1) (.tc (.pj (.v 8) 2) (.tc (.pj (.v 8) 3) (.tc (.pj (.v 8) 4) (.tc (.pj (.v 8) 5) (.tc (.pj (.v 8) 6) (.tc (.pj (.v 8) 7) (.tc (.pj (.v 8) 8) (.tc (.pj (.v 8) 9) (.tc (.pj (.v 8) 10) (.tc (.pj (.v 8) 11) (.tc (.pj (.v 8) 12) (.tc (.pj (.v 8) 13) (.tc (.pj (.v 8) 14) (.tc (.pj (.v 8) 15) (.tc (.pj (.v 8) 16) (.tc (.pj (.v 8) 17) (.tc (.pj (.v 8) 18) (.tc (.pj (.v 8) 19) (.tc (.pj (.v 8) 20) .tn)))))))))))))))))))))] <|
   .pm (.add .i64) [(.v 3), (.ki 1)] <|
   .out 2 [(.v 11), (.v 10)]) <|
  .out 1 [(.v 4)]
theorem c47 : compF B Try.f47 (look h47) [z46] [z61] = some a47 := by kernel_rfl
theorem k47 : callable Try.prog 47 = true := by kernel_rfl
theorem s47 {vs us : List V} (h : a47.wp Cl (ans us) vs) : Cl 47 vs us := cc_of tabOk mixed Try.func47 c47 rfl k47 h
-- 89
def h89 : List (Nat × Tm) := []
def a89 : A :=
 .cl 129 [(.tc (.pj (.v 0) 1) (.tc (.pj (.v 0) 2) (.tc (.pj (.v 0) 3) (.tc (.pj (.v 0) 4) .tn))))] 1 <|
 .out 1 [(.tc (.pj (.v 0) 0) (.tc (.pj (.v 1) 0) (.tc (.pj (.v 1) 1) (.tc (.pj (.v 1) 2) (.tc (.pj (.v 1) 3) .tn)))))]
theorem c89 : compF B Try.f89 (look h89) [z155] [z176] = some a89 := by kernel_rfl
theorem k89 : callable Try.prog 89 = true := by kernel_rfl
theorem s89 {vs us : List V} (h : a89.wp Cl (ans us) vs) : Cl 89 vs us := cc_of tabOk mixed Try.func89 c89 rfl k89 h
-- 48
def h48 : List (Nat × Tm) := [(11, ⟨[0], fun n i => [(3, (.cv (.own (i + 0)))), (4, (.cv (.sc (.int .i64) (.v (n + 0)))))], fun n i => [((i + 0), (.arr 1 (.cons (.int .i64) (.cons (.int .i64) (.cons .bool (.cons .bool (.cons .str .nil))))) 176 (.v (n + 1))))], 2, 1⟩)]
def a48 : A :=
 .pm .llen [(.v 0)] <|
 .pm (.lmk 40) [(.v 1), (.v 1), (.tc (.ki 0) (.tc (.ki 0) (.tc (.kb false) (.tc (.kb false) (.tc (.ks []) .tn)))))] <|
 .lp 2 [(.ki 0), (.v 2)] <|
  .pm .llen [(.v 0)] <|
  .pm .lt [(.v 3), (.v 5)] <|
  .ite (.v 6) (
   .pm .lget [(.v 0), (.v 3)] <|
   .cl 89 [(.tc (.pj (.v 7) 0) (.tc (.pj (.v 7) 1) (.tc (.pj (.v 7) 2) (.tc (.pj (.v 7) 3) (.tc (.pj (.v 7) 4) .tn)))))] 1 <|
   .pm .lget [(.v 4), (.v 3)] <|
   .pm .lset [(.v 4), (.v 3), (.tc (.pj (.v 8) 0) (.tc (.pj (.v 8) 1) (.tc (.pj (.v 8) 2) (.tc (.pj (.v 8) 3) (.tc (.pj (.v 8) 4) .tn)))))] <|
   .pm (.add .i64) [(.v 3), (.ki 1)] <|
   .out 2 [(.v 11), (.v 10)]) <|
  .out 1 [(.v 4)]
theorem c48 : compF B Try.f48 (look h48) [z47] [z62] = some a48 := by kernel_rfl
theorem k48 : callable Try.prog 48 = true := by kernel_rfl
theorem s48 {vs us : List V} (h : a48.wp Cl (ans us) vs) : Cl 48 vs us := cc_of tabOk mixed Try.func48 c48 rfl k48 h
-- 49
def h49 : List (Nat × Tm) := []
def a49 : A :=
 .cl 90 [(.tc (.pj (.v 0) 3) (.tc (.pj (.v 0) 4) (.tc (.pj (.v 0) 5) (.tc (.pj (.v 0) 6) .tn))))] 1 <|
 .cl 27 [(.tc (.pj (.v 0) 7) (.tc (.pj (.v 0) 8) (.tc (.pj (.v 0) 9) (.tc (.pj (.v 0) 10) .tn))))] 1 <|
 .cl 91 [(.tc (.pj (.v 0) 13) (.tc (.pj (.v 0) 14) (.tc (.pj (.v 0) 15) .tn)))] 1 <|
 .cl 91 [(.tc (.pj (.v 0) 16) (.tc (.pj (.v 0) 17) (.tc (.pj (.v 0) 18) .tn)))] 1 <|
 .out 1 [(.tc (.pj (.v 0) 0) (.tc (.pj (.v 0) 1) (.tc (.pj (.v 0) 2) (.tc (.pj (.v 1) 0) (.tc (.pj (.v 1) 1) (.tc (.pj (.v 1) 2) (.tc (.pj (.v 1) 3) (.tc (.pj (.v 2) 0) (.tc (.pj (.v 2) 1) (.tc (.pj (.v 2) 2) (.tc (.pj (.v 2) 3) (.tc (.pj (.v 0) 11) (.tc (.pj (.v 0) 12) (.tc (.pj (.v 3) 0) (.tc (.pj (.v 3) 1) (.tc (.pj (.v 3) 2) (.tc (.pj (.v 4) 0) (.tc (.pj (.v 4) 1) (.tc (.pj (.v 4) 2) .tn)))))))))))))))))))]
theorem c49 : compF B Try.f49 (look h49) [z53] [z66] = some a49 := by kernel_rfl
theorem k49 : callable Try.prog 49 = true := by kernel_rfl
theorem s49 {vs us : List V} (h : a49.wp Cl (ans us) vs) : Cl 49 vs us := cc_of tabOk mixed Try.func49 c49 rfl k49 h
-- 50
def h50 : List (Nat × Tm) := [(11, ⟨[0], fun n i => [(3, (.cv (.own (i + 0)))), (4, (.cv (.sc (.int .i64) (.v (n + 0)))))], fun n i => [((i + 0), (.arr 1 (.cons .bool (.cons .bool (.cons .bool (.cons (.int .i64) (.cons (.int .i64) (.cons (.sl (.int .i64) 3) (.cons (.sl (.int .i64) 3) (.cons (.int .i64) (.cons .bool (.cons .bool (.cons .bool (.cons (.int .i64) (.cons (.int .i64) (.cons (.int .i64) (.cons (.int .i64) (.cons .str (.cons (.int .i64) (.cons (.int .i64) (.cons .str .nil))))))))))))))))))) 66 (.v (n + 1))))], 2, 1⟩)]
def a50 : A :=
 .pm .llen [(.v 0)] <|
 .pm (.lmk 168) [(.v 1), (.v 1), (.tc (.kb false) (.tc (.kb false) (.tc (.kb false) (.tc (.ki 0) (.tc (.ki 0) (.tc .kl (.tc .kl (.tc (.ki 0) (.tc (.kb false) (.tc (.kb false) (.tc (.kb false) (.tc (.ki 0) (.tc (.ki 0) (.tc (.ki 0) (.tc (.ki 0) (.tc (.ks []) (.tc (.ki 0) (.tc (.ki 0) (.tc (.ks []) .tn)))))))))))))))))))] <|
 .lp 2 [(.ki 0), (.v 2)] <|
  .pm .llen [(.v 0)] <|
  .pm .lt [(.v 3), (.v 5)] <|
  .ite (.v 6) (
   .pm .lget [(.v 0), (.v 3)] <|
   .cl 49 [(.tc (.pj (.v 7) 0) (.tc (.pj (.v 7) 1) (.tc (.pj (.v 7) 2) (.tc (.pj (.v 7) 3) (.tc (.pj (.v 7) 4) (.tc (.pj (.v 7) 5) (.tc (.pj (.v 7) 6) (.tc (.pj (.v 7) 7) (.tc (.pj (.v 7) 8) (.tc (.pj (.v 7) 9) (.tc (.pj (.v 7) 10) (.tc (.pj (.v 7) 11) (.tc (.pj (.v 7) 12) (.tc (.pj (.v 7) 13) (.tc (.pj (.v 7) 14) (.tc (.pj (.v 7) 15) (.tc (.pj (.v 7) 16) (.tc (.pj (.v 7) 17) (.tc (.pj (.v 7) 18) .tn)))))))))))))))))))] 1 <|
   .pm .lget [(.v 4), (.v 3)] <|
   .pm .lset [(.v 4), (.v 3), (.tc (.pj (.v 8) 0) (.tc (.pj (.v 8) 1) (.tc (.pj (.v 8) 2) (.tc (.pj (.v 8) 3) (.tc (.pj (.v 8) 4) (.tc (.pj (.v 8) 5) (.tc (.pj (.v 8) 6) (.tc (.pj (.v 8) 7) (.tc (.pj (.v 8) 8) (.tc (.pj (.v 8) 9) (.tc (.pj (.v 8) 10) (.tc (.pj (.v 8) 11) (.tc (.pj (.v 8) 12) (.tc (.pj (.v 8) 13) (.tc (.pj (.v 8) 14) (.tc (.pj (.v 8) 15) (.tc (.pj (.v 8) 16) (.tc (.pj (.v 8) 17) (.tc (.pj (.v 8) 18) .tn)))))))))))))))))))] <|
   .pm (.add .i64) [(.v 3), (.ki 1)] <|
   .out 2 [(.v 11), (.v 10)]) <|
  .out 1 [(.v 4)]
theorem c50 : compF B Try.f50 (look h50) [z54] [z67] = some a50 := by kernel_rfl
theorem k50 : callable Try.prog 50 = true := by kernel_rfl
theorem s50 {vs us : List V} (h : a50.wp Cl (ans us) vs) : Cl 50 vs us := cc_of tabOk mixed Try.func50 c50 rfl k50 h
-- 130
def h130 : List (Nat × Tm) := []
def a130 : A :=
 .out 1 [(.tc (.pj (.v 0) 0) (.tc (.pj (.v 0) 1) (.tc (.pj (.v 0) 2) .tn)))]
theorem c130 : compF B Try.f130 (look h130) [z160] [z180] = some a130 := by kernel_rfl
theorem k130 : callable Try.prog 130 = true := by kernel_rfl
theorem s130 {vs us : List V} (h : a130.wp Cl (ans us) vs) : Cl 130 vs us := cc_of tabOk mixed Try.func130 c130 rfl k130 h
-- 92
def h92 : List (Nat × Tm) := []
def a92 : A :=
 .cl 130 [(.tc (.pj (.v 0) 2) (.tc (.pj (.v 0) 3) (.tc (.pj (.v 0) 4) .tn)))] 1 <|
 .cl 91 [(.tc (.pj (.v 0) 5) (.tc (.pj (.v 0) 6) (.tc (.pj (.v 0) 7) .tn)))] 1 <|
 .out 1 [(.tc (.pj (.v 0) 0) (.tc (.pj (.v 0) 1) (.tc (.pj (.v 1) 0) (.tc (.pj (.v 1) 1) (.tc (.pj (.v 1) 2) (.tc (.pj (.v 2) 0) (.tc (.pj (.v 2) 1) (.tc (.pj (.v 2) 2) .tn))))))))]
theorem c92 : compF B Try.f92 (look h92) [z162] [z182] = some a92 := by kernel_rfl
theorem k92 : callable Try.prog 92 = true := by kernel_rfl
theorem s92 {vs us : List V} (h : a92.wp Cl (ans us) vs) : Cl 92 vs us := cc_of tabOk mixed Try.func92 c92 rfl k92 h
-- 51
def h51 : List (Nat × Tm) := [(11, ⟨[0], fun n i => [(3, (.cv (.own (i + 0)))), (4, (.cv (.sc (.int .i64) (.v (n + 0)))))], fun n i => [((i + 0), (.arr 1 (.cons (.int .i64) (.cons (.int .i64) (.cons .bool (.cons (.int .i64) (.cons .str (.cons (.int .i64) (.cons (.int .i64) (.cons .str .nil)))))))) 182 (.v (n + 1))))], 2, 1⟩)]
def a51 : A :=
 .pm .llen [(.v 0)] <|
 .pm (.lmk 80) [(.v 1), (.v 1), (.tc (.ki 0) (.tc (.ki 0) (.tc (.kb false) (.tc (.ki 0) (.tc (.ks []) (.tc (.ki 0) (.tc (.ki 0) (.tc (.ks []) .tn))))))))] <|
 .lp 2 [(.ki 0), (.v 2)] <|
  .pm .llen [(.v 0)] <|
  .pm .lt [(.v 3), (.v 5)] <|
  .ite (.v 6) (
   .pm .lget [(.v 0), (.v 3)] <|
   .cl 92 [(.tc (.pj (.v 7) 0) (.tc (.pj (.v 7) 1) (.tc (.pj (.v 7) 2) (.tc (.pj (.v 7) 3) (.tc (.pj (.v 7) 4) (.tc (.pj (.v 7) 5) (.tc (.pj (.v 7) 6) (.tc (.pj (.v 7) 7) .tn))))))))] 1 <|
   .pm .lget [(.v 4), (.v 3)] <|
   .pm .lset [(.v 4), (.v 3), (.tc (.pj (.v 8) 0) (.tc (.pj (.v 8) 1) (.tc (.pj (.v 8) 2) (.tc (.pj (.v 8) 3) (.tc (.pj (.v 8) 4) (.tc (.pj (.v 8) 5) (.tc (.pj (.v 8) 6) (.tc (.pj (.v 8) 7) .tn))))))))] <|
   .pm (.add .i64) [(.v 3), (.ki 1)] <|
   .out 2 [(.v 11), (.v 10)]) <|
  .out 1 [(.v 4)]
theorem c51 : compF B Try.f51 (look h51) [z55] [z68] = some a51 := by kernel_rfl
theorem k51 : callable Try.prog 51 = true := by kernel_rfl
theorem s51 {vs us : List V} (h : a51.wp Cl (ans us) vs) : Cl 51 vs us := cc_of tabOk mixed Try.func51 c51 rfl k51 h
-- 156
def h156 : List (Nat × Tm) := []
def a156 : A :=
 .out 1 [(.tc (.pj (.v 0) 0) (.tc (.pj (.v 0) 1) (.tc (.pj (.v 0) 2) .tn)))]
theorem c156 : compF B Try.f156 (look h156) [z236] [z100] = some a156 := by kernel_rfl
theorem k156 : callable Try.prog 156 = true := by kernel_rfl
theorem s156 {vs us : List V} (h : a156.wp Cl (ans us) vs) : Cl 156 vs us := cc_of tabOk mixed Try.func156 c156 rfl k156 h
-- 131
def h131 : List (Nat × Tm) := [(11, ⟨[0], fun n i => [(3, (.cv (.own (i + 0)))), (4, (.cv (.sc (.int .i64) (.v (n + 0)))))], fun n i => [((i + 0), (.arr 1 (.cons (.int .i64) (.cons (.int .i64) (.cons (.int .i64) .nil))) 100 (.v (n + 1))))], 2, 1⟩)]
def a131 : A :=
 .pm .llen [(.v 0)] <|
 .pm (.lmk 24) [(.v 1), (.v 1), (.tc (.ki 0) (.tc (.ki 0) (.tc (.ki 0) .tn)))] <|
 .lp 2 [(.ki 0), (.v 2)] <|
  .pm .llen [(.v 0)] <|
  .pm .lt [(.v 3), (.v 5)] <|
  .ite (.v 6) (
   .pm .lget [(.v 0), (.v 3)] <|
   .cl 156 [(.tc (.pj (.v 7) 0) (.tc (.pj (.v 7) 1) (.tc (.pj (.v 7) 2) .tn)))] 1 <|
   .pm .lget [(.v 4), (.v 3)] <|
   .pm .lset [(.v 4), (.v 3), (.tc (.pj (.v 8) 0) (.tc (.pj (.v 8) 1) (.tc (.pj (.v 8) 2) .tn)))] <|
   .pm (.add .i64) [(.v 3), (.ki 1)] <|
   .out 2 [(.v 11), (.v 10)]) <|
  .out 1 [(.v 4)]
theorem c131 : compF B Try.f131 (look h131) [z164] [z94] = some a131 := by kernel_rfl
theorem k131 : callable Try.prog 131 = true := by kernel_rfl
theorem s131 {vs us : List V} (h : a131.wp Cl (ans us) vs) : Cl 131 vs us := cc_of tabOk mixed Try.func131 c131 rfl k131 h
-- 132
def h132 : List (Nat × Tm) := [(11, ⟨[0], fun n i => [(3, (.cv (.own (i + 0)))), (4, (.cv (.sc (.int .i64) (.v (n + 0)))))], fun n i => [((i + 0), (.arr 1 .str 9 (.v (n + 1))))], 2, 1⟩)]
def a132 : A :=
 .pm .llen [(.v 0)] <|
 .pm (.lmk 16) [(.v 1), (.v 1), (.ks [])] <|
 .lp 2 [(.ki 0), (.v 2)] <|
  .pm .llen [(.v 0)] <|
  .pm .lt [(.v 3), (.v 5)] <|
  .ite (.v 6) (
   .pm .lget [(.v 0), (.v 3)] <|
   .pm .lget [(.v 4), (.v 3)] <|
   .pm .lset [(.v 4), (.v 3), (.v 7)] <|
   .pm (.add .i64) [(.v 3), (.ki 1)] <|
   .out 2 [(.v 10), (.v 9)]) <|
  .out 1 [(.v 4)]
theorem c132 : compF B Try.f132 (look h132) [z95] [z95] = some a132 := by kernel_rfl
theorem k132 : callable Try.prog 132 = true := by kernel_rfl
theorem s132 {vs us : List V} (h : a132.wp Cl (ans us) vs) : Cl 132 vs us := cc_of tabOk mixed Try.func132 c132 rfl k132 h
-- 133
def h133 : List (Nat × Tm) := [(11, ⟨[0], fun n i => [(3, (.cv (.own (i + 0)))), (4, (.cv (.sc (.int .i64) (.v (n + 0)))))], fun n i => [((i + 0), (.arr 1 (.cons (.int .i64) (.cons (.int .i64) (.cons .str .nil))) 64 (.v (n + 1))))], 2, 1⟩)]
def a133 : A :=
 .pm .llen [(.v 0)] <|
 .pm (.lmk 32) [(.v 1), (.v 1), (.tc (.ki 0) (.tc (.ki 0) (.tc (.ks []) .tn)))] <|
 .lp 2 [(.ki 0), (.v 2)] <|
  .pm .llen [(.v 0)] <|
  .pm .lt [(.v 3), (.v 5)] <|
  .ite (.v 6) (
   .pm .lget [(.v 0), (.v 3)] <|
   .cl 91 [(.tc (.pj (.v 7) 0) (.tc (.pj (.v 7) 1) (.tc (.pj (.v 7) 2) .tn)))] 1 <|
   .pm .lget [(.v 4), (.v 3)] <|
   .pm .lset [(.v 4), (.v 3), (.tc (.pj (.v 8) 0) (.tc (.pj (.v 8) 1) (.tc (.pj (.v 8) 2) .tn)))] <|
   .pm (.add .i64) [(.v 3), (.ki 1)] <|
   .out 2 [(.v 11), (.v 10)]) <|
  .out 1 [(.v 4)]
theorem c133 : compF B Try.f133 (look h133) [z165] [z96] = some a133 := by kernel_rfl
theorem k133 : callable Try.prog 133 = true := by kernel_rfl
theorem s133 {vs us : List V} (h : a133.wp Cl (ans us) vs) : Cl 133 vs us := cc_of tabOk mixed Try.func133 c133 rfl k133 h
-- 93
def h93 : List (Nat × Tm) := []
def a93 : A :=
 .cl 90 [(.tc (.pj (.v 0) 0) (.tc (.pj (.v 0) 1) (.tc (.pj (.v 0) 2) (.tc (.pj (.v 0) 3) .tn))))] 1 <|
 .cl 131 [(.pj (.v 0) 4)] 1 <|
 .cl 132 [(.pj (.v 0) 5)] 1 <|
 .cl 29 [(.pj (.v 0) 6)] 1 <|
 .cl 133 [(.pj (.v 0) 7)] 1 <|
 .out 1 [(.tc (.pj (.v 1) 0) (.tc (.pj (.v 1) 1) (.tc (.pj (.v 1) 2) (.tc (.pj (.v 1) 3) (.tc (.v 2) (.tc (.v 3) (.tc (.v 4) (.tc (.v 5) .tn))))))))]
theorem c93 : compF B Try.f93 (look h93) [z167] [z98] = some a93 := by kernel_rfl
theorem k93 : callable Try.prog 93 = true := by kernel_rfl
theorem s93 {vs us : List V} (h : a93.wp Cl (ans us) vs) : Cl 93 vs us := cc_of tabOk mixed Try.func93 c93 rfl k93 h
-- 52
def h52 : List (Nat × Tm) := [(11, ⟨[0], fun n i => [(3, (.cv (.own (i + 0)))), (4, (.cv (.sc (.int .i64) (.v (n + 0)))))], fun n i => [((i + 0), (.arr 1 (.cons (.int .i64) (.cons (.int .i64) (.cons (.sl (.int .i64) 3) (.cons (.sl (.int .i64) 3) (.cons (.sl (.cons (.int .i64) (.cons (.int .i64) (.cons (.int .i64) .nil))) 100) (.cons (.sl .str 9) (.cons (.sl (.int .i64) 3) (.cons (.sl (.cons (.int .i64) (.cons (.int .i64) (.cons .str .nil))) 64) .nil)))))))) 98 (.v (n + 1))))], 2, 1⟩)]
def a52 : A :=
 .pm .llen [(.v 0)] <|
 .pm (.lmk 160) [(.v 1), (.v 1), (.tc (.ki 0) (.tc (.ki 0) (.tc .kl (.tc .kl (.tc .kl (.tc .kl (.tc .kl (.tc .kl .tn))))))))] <|
 .lp 2 [(.ki 0), (.v 2)] <|
  .pm .llen [(.v 0)] <|
  .pm .lt [(.v 3), (.v 5)] <|
  .ite (.v 6) (
   .pm .lget [(.v 0), (.v 3)] <|
   .cl 93 [(.tc (.pj (.v 7) 0) (.tc (.pj (.v 7) 1) (.tc (.pj (.v 7) 2) (.tc (.pj (.v 7) 3) (.tc (.pj (.v 7) 4) (.tc (.pj (.v 7) 5) (.tc (.pj (.v 7) 6) (.tc (.pj (.v 7) 7) .tn))))))))] 1 <|
   .pm .lget [(.v 4), (.v 3)] <|
   .pm .lset [(.v 4), (.v 3), (.tc (.pj (.v 8) 0) (.tc (.pj (.v 8) 1) (.tc (.pj (.v 8) 2) (.tc (.pj (.v 8) 3) (.tc (.pj (.v 8) 4) (.tc (.pj (.v 8) 5) (.tc (.pj (.v 8) 6) (.tc (.pj (.v 8) 7) .tn))))))))] <|
   .pm (.add .i64) [(.v 3), (.ki 1)] <|
   .out 2 [(.v 11), (.v 10)]) <|
  .out 1 [(.v 4)]
theorem c52 : compF B Try.f52 (look h52) [z56] [z69] = some a52 := by kernel_rfl
theorem k52 : callable Try.prog 52 = true := by kernel_rfl
theorem s52 {vs us : List V} (h : a52.wp Cl (ans us) vs) : Cl 52 vs us := cc_of tabOk mixed Try.func52 c52 rfl k52 h
-- 18
def h18 : List (Nat × Tm) := []
def a18 : A :=
 .cl 8 [(.tc (.pj (.v 0) 0) (.tc (.pj (.v 0) 1) (.tc (.pj (.v 0) 2) (.tc (.pj (.v 0) 3) (.tc (.pj (.v 0) 4) (.tc (.pj (.v 0) 5) (.tc (.pj (.v 0) 6) (.tc (.pj (.v 0) 7) (.tc (.pj (.v 0) 8) (.tc (.pj (.v 0) 9) (.tc (.pj (.v 0) 10) (.tc (.pj (.v 0) 11) (.tc (.pj (.v 0) 12) (.tc (.pj (.v 0) 13) (.tc (.pj (.v 0) 14) (.tc (.pj (.v 0) 15) (.tc (.pj (.v 0) 16) (.tc (.pj (.v 0) 17) .tn))))))))))))))))))] 1 <|
 .cl 47 [(.pj (.v 0) 18)] 1 <|
 .cl 48 [(.pj (.v 0) 19)] 1 <|
 .cl 49 [(.tc (.pj (.v 0) 20) (.tc (.pj (.v 0) 21) (.tc (.pj (.v 0) 22) (.tc (.pj (.v 0) 23) (.tc (.pj (.v 0) 24) (.tc (.pj (.v 0) 25) (.tc (.pj (.v 0) 26) (.tc (.pj (.v 0) 27) (.tc (.pj (.v 0) 28) (.tc (.pj (.v 0) 29) (.tc (.pj (.v 0) 30) (.tc (.pj (.v 0) 31) (.tc (.pj (.v 0) 32) (.tc (.pj (.v 0) 33) (.tc (.pj (.v 0) 34) (.tc (.pj (.v 0) 35) (.tc (.pj (.v 0) 36) (.tc (.pj (.v 0) 37) (.tc (.pj (.v 0) 38) .tn)))))))))))))))))))] 1 <|
 .cl 50 [(.pj (.v 0) 39)] 1 <|
 .cl 51 [(.pj (.v 0) 40)] 1 <|
 .cl 52 [(.pj (.v 0) 41)] 1 <|
 .cl 29 [(.pj (.v 0) 42)] 1 <|
 .out 1 [(.tc (.pj (.v 1) 0) (.tc (.pj (.v 1) 1) (.tc (.pj (.v 1) 2) (.tc (.pj (.v 1) 3) (.tc (.pj (.v 1) 4) (.tc (.pj (.v 1) 5) (.tc (.pj (.v 1) 6) (.tc (.pj (.v 1) 7) (.tc (.pj (.v 1) 8) (.tc (.pj (.v 1) 9) (.tc (.pj (.v 1) 10) (.tc (.pj (.v 1) 11) (.tc (.pj (.v 1) 12) (.tc (.pj (.v 1) 13) (.tc (.pj (.v 1) 14) (.tc (.pj (.v 1) 15) (.tc (.pj (.v 1) 16) (.tc (.pj (.v 1) 17) (.tc (.v 2) (.tc (.v 3) (.tc (.pj (.v 4) 0) (.tc (.pj (.v 4) 1) (.tc (.pj (.v 4) 2) (.tc (.pj (.v 4) 3) (.tc (.pj (.v 4) 4) (.tc (.pj (.v 4) 5) (.tc (.pj (.v 4) 6) (.tc (.pj (.v 4) 7) (.tc (.pj (.v 4) 8) (.tc (.pj (.v 4) 9) (.tc (.pj (.v 4) 10) (.tc (.pj (.v 4) 11) (.tc (.pj (.v 4) 12) (.tc (.pj (.v 4) 13) (.tc (.pj (.v 4) 14) (.tc (.pj (.v 4) 15) (.tc (.pj (.v 4) 16) (.tc (.pj (.v 4) 17) (.tc (.pj (.v 4) 18) (.tc (.v 5) (.tc (.v 6) (.tc (.v 7) (.tc (.v 8) .tn)))))))))))))))))))))))))))))))))))))))))))]
theorem c18 : compF B Try.f18 (look h18) [z58] [z71] = some a18 := by kernel_rfl
theorem k18 : callable Try.prog 18 = true := by kernel_rfl
theorem s18 {vs us : List V} (h : a18.wp Cl (ans us) vs) : Cl 18 vs us := cc_of tabOk mixed Try.func18 c18 rfl k18 h
-- 17
def h17 : List (Nat × Tm) := [(48, ⟨[1, 2, 7, 8, 9], fun n i => [(5, (.cv (.sc (.int .i64) (.v (n + 0))))), (6, (.cv (.sc .bool (.v (n + 1)))))], fun n i => [], 2, 0⟩), (51, ⟨[1, 2, 5, 6, 7, 8], fun n i => [(65, (.cv (.sc .bool (.v (n + 0)))))], fun n i => [], 1, 0⟩), (10, ⟨[1, 2, 7, 8], fun n i => [(5, (.cv (.sc (.int .i64) (.v (n + 0))))), (6, (.cv (.sc .bool (.v (n + 1)))))], fun n i => [], 2, 0⟩), (39, ⟨[1, 2, 7, 8, 9], fun n i => [(50, (.cv (.sc .bool (.v (n + 0)))))], fun n i => [], 1, 0⟩), (23, ⟨[1, 2, 7], fun n i => [(5, (.cv (.sc (.int .i64) (.v (n + 0))))), (6, (.cv (.sc .bool (.v (n + 1))))), (8, (.cv (.sc (.int .i64) (.v (n + 2)))))], fun n i => [], 3, 0⟩), (14, ⟨[1, 2], fun n i => [(5, (.cv (.sc (.int .i64) (.v (n + 0))))), (6, (.cv (.sc .bool (.v (n + 1))))), (7, (.cv (.sc (.int .i64) (.v (n + 2)))))], fun n i => [], 3, 0⟩)]
def a17 : A :=
 .lp 2 [(.ki 0), (.kb false), (.ki 0)] <|
  .pm .llen [(.pj (.v 0) 41)] <|
  .pm .lt [(.v 4), (.v 5)] <|
  .ite (.v 6) (
   .lp 3 [(.v 2), (.v 3), (.ki 0)] <|
    .pm .lget [(.pj (.v 0) 41), (.v 4)] <|
    .pm .llen [(.pj (.v 10) 4)] <|
    .pm .lt [(.v 9), (.v 11)] <|
    .ite (.v 12) (
     .jn 4 (
      .pm .lget [(.pj (.v 0) 41), (.v 4)] <|
      .pm .lget [(.pj (.v 13) 4), (.v 9)] <|
      .pm .ne [(.pj (.v 14) 1), (.v 1)] <|
      .ite (.v 15) (
       .out 4 [(.v 7), (.v 8)]) <|
      .jn 5 (
       .pm .eq [(.pj (.v 14) 0), (.ki 1)] <|
       .ite (.v 16) (
        .jn 6 (
         .ite (.v 8) (
          .pm .le [(.pj (.v 14) 2), (.v 7)] <|
          .out 6 [(.v 17)]) <|
         .out 6 [(.kb false)]) <|
        .ite (.v 17) (
         .out 1 [(.kb false)]) <|
        .out 5 [(.pj (.v 14) 2), (.kb true)]) <|
       .out 5 [(.v 7), (.v 8)]) <|
      .jn 5 (
       .pm .eq [(.pj (.v 14) 0), (.ki 2)] <|
       .ite (.v 18) (
        .pm .not [(.v 17)] <|
        .ite (.v 19) (
         .out 5 [(.kb true)]) <|
        .pm .ne [(.pj (.v 14) 2), (.v 16)] <|
        .out 5 [(.v 20)]) <|
       .out 5 [(.kb false)]) <|
      .ite (.v 18) (
       .out 1 [(.kb false)]) <|
      .out 4 [(.v 16), (.v 17)]) <|
     .pm (.add .i64) [(.v 9), (.ki 1)] <|
     .out 3 [(.v 13), (.v 14), (.v 15)]) <|
    .pm (.add .i64) [(.v 4), (.ki 1)] <|
    .out 2 [(.v 7), (.v 8), (.v 13)]) <|
  .out 1 [(.kb true)]
theorem c17 : compF B Try.f17 (look h17) [z71, z3] [z4] = some a17 := by kernel_rfl
theorem k17 : callable Try.prog 17 = true := by kernel_rfl
theorem s17 {vs us : List V} (h : a17.wp Cl (ans us) vs) : Cl 17 vs us := cc_of tabOk mixed Try.func17 c17 rfl k17 h
-- 19
def h19 : List (Nat × Tm) := [(13, ⟨[1, 12, 13, 14, 19, 20, 21], fun n i => [(5, (.cv (.sc .bool (.v (n + 0))))), (6, (.cv (.sc (.int .i64) (.v (n + 1)))))], fun n i => [], 2, 0⟩), (10, ⟨[1, 12, 13, 14, 19, 20, 21], fun n i => [(5, (.cv (.sc .bool (.v (n + 0))))), (6, (.cv (.sc (.int .i64) (.v (n + 1)))))], fun n i => [], 2, 0⟩), (36, ⟨[1, 10, 12, 13, 14, 19, 20, 21], fun n i => [(39, (.cv (.sc .bool (.v (n + 0)))))], fun n i => [], 1, 0⟩), (48, ⟨[1, 5, 6, 12, 13, 14, 19, 20, 21], fun n i => [(51, (.cv (.sc .bool (.v (n + 0)))))], fun n i => [], 1, 0⟩), (20, ⟨[1, 12, 13, 14, 19, 20], fun n i => [(5, (.cv (.sc .bool (.v (n + 0))))), (6, (.cv (.sc (.int .i64) (.v (n + 1))))), (21, (.cv (.sc (.int .i64) (.v (n + 2)))))], fun n i => [], 3, 0⟩), (11, ⟨[1, 12, 13], fun n i => [(5, (.cv (.sc .bool (.v (n + 0))))), (6, (.cv (.sc (.int .i64) (.v (n + 1))))), (14, (.cv (.sc (.int .i64) (.v (n + 2)))))], fun n i => [], 3, 0⟩)]
def a19 : A :=
 .pm .llen [(.pj (.v 0) 41)] <|
 .lp 2 [(.kb false), (.ki 0), (.ki 0)] <|
  .pm .lt [(.v 5), (.v 2)] <|
  .ite (.v 6) (
   .pm .lget [(.pj (.v 0) 41), (.v 5)] <|
   .pm .llen [(.pj (.v 7) 4)] <|
   .lp 3 [(.v 3), (.v 4), (.ki 0)] <|
    .pm .lt [(.v 11), (.v 8)] <|
    .ite (.v 12) (
     .jn 4 (
      .pm .lget [(.pj (.v 7) 4), (.v 11)] <|
      .pm .ne [(.pj (.v 13) 1), (.v 1)] <|
      .ite (.v 14) (
       .out 4 [(.v 9), (.v 10)]) <|
      .jn 5 (
       .pm .eq [(.pj (.v 13) 0), (.ki 1)] <|
       .ite (.v 15) (
        .jn 6 (
         .ite (.v 9) (
          .pm .le [(.pj (.v 13) 2), (.v 10)] <|
          .out 6 [(.v 16)]) <|
         .out 6 [(.kb false)]) <|
        .ite (.v 16) (
         .out 1 [(.kb false)]) <|
        .out 5 [(.kb true), (.pj (.v 13) 2)]) <|
       .pm .eq [(.pj (.v 13) 0), (.ki 2)] <|
       .ite (.v 16) (
        .jn 6 (
         .pm .not [(.v 9)] <|
         .ite (.v 17) (
          .out 6 [(.kb true)]) <|
         .pm .ne [(.pj (.v 13) 2), (.v 10)] <|
         .out 6 [(.v 18)]) <|
        .ite (.v 17) (
         .out 1 [(.kb false)]) <|
        .out 5 [(.v 9), (.v 10)]) <|
       .out 5 [(.v 9), (.v 10)]) <|
      .out 4 [(.v 15), (.v 16)]) <|
     .pm (.add .i64) [(.v 11), (.ki 1)] <|
     .out 3 [(.v 13), (.v 14), (.v 15)]) <|
    .pm (.add .i64) [(.v 5), (.ki 1)] <|
    .out 2 [(.v 9), (.v 10), (.v 13)]) <|
  .out 1 [(.kb true)]
theorem c19 : compF B Try.f19 (look h19) [z71, z3] [z4] = some a19 := by kernel_rfl
theorem k19 : callable Try.prog 19 = true := by kernel_rfl
theorem s19 {vs us : List V} (h : a19.wp Cl (ans us) vs) : Cl 19 vs us := cc_of tabOk mixed Try.func19 c19 rfl k19 h
-- 34
def h34 : List (Nat × Tm) := []
def a34 : A :=
 .pm .ne [(.pj (.v 0) 0), (.pj (.v 1) 0)] <|
 .ite (.v 2) (
  .out 1 [(.kb false)]) <|
 .pm .bne [(.pj (.v 0) 1), (.pj (.v 1) 1)] <|
 .ite (.v 3) (
  .out 1 [(.kb false)]) <|
 .pm .bne [(.pj (.v 0) 2), (.pj (.v 1) 2)] <|
 .ite (.v 4) (
  .out 1 [(.kb false)]) <|
 .pm .bne [(.pj (.v 0) 3), (.pj (.v 1) 3)] <|
 .ite (.v 5) (
  .out 1 [(.kb false)]) <|
 .out 1 [(.kb true)]
theorem c34 : compF B Try.f34 (look h34) [z32, z32] [z4] = some a34 := by kernel_rfl
theorem k34 : callable Try.prog 34 = true := by kernel_rfl
theorem s34 {vs us : List V} (h : a34.wp Cl (ans us) vs) : Cl 34 vs us := cc_of tabOk mixed Try.func34 c34 rfl k34 h
-- 36
def h36 : List (Nat × Tm) := [(14, ⟨[0, 1], fun n i => [(5, (.cv (.sc (.int .i64) (.v (n + 0)))))], fun n i => [], 1, 0⟩)]
def a36 : A :=
 .pm .llen [(.v 0)] <|
 .pm .llen [(.v 1)] <|
 .pm .ne [(.v 2), (.v 3)] <|
 .ite (.v 4) (
  .out 1 [(.kb false)]) <|
 .lp 2 [(.ki 0)] <|
  .pm .llen [(.v 0)] <|
  .pm .lt [(.v 5), (.v 6)] <|
  .ite (.v 7) (
   .pm .lget [(.v 0), (.v 5)] <|
   .pm .lget [(.v 1), (.v 5)] <|
   .pm .ne [(.v 8), (.v 9)] <|
   .ite (.v 10) (
    .out 1 [(.kb false)]) <|
   .pm (.add .i64) [(.v 5), (.ki 1)] <|
   .out 2 [(.v 11)]) <|
  .out 1 [(.kb true)]
theorem c36 : compF B Try.f36 (look h36) [z24, z24] [z4] = some a36 := by kernel_rfl
theorem k36 : callable Try.prog 36 = true := by kernel_rfl
theorem s36 {vs us : List V} (h : a36.wp Cl (ans us) vs) : Cl 36 vs us := cc_of tabOk mixed Try.func36 c36 rfl k36 h
-- 12
def h12 : List (Nat × Tm) := []
def a12 : A :=
 .cl 36 [(.pj (.v 0) 0), (.pj (.v 1) 0)] 1 <|
 .pm .not [(.v 2)] <|
 .ite (.v 3) (
  .out 1 [(.kb false)]) <|
 .cl 36 [(.pj (.v 0) 1), (.pj (.v 1) 1)] 1 <|
 .pm .not [(.v 4)] <|
 .ite (.v 5) (
  .out 1 [(.kb false)]) <|
 .cl 36 [(.pj (.v 0) 2), (.pj (.v 1) 2)] 1 <|
 .pm .not [(.v 6)] <|
 .ite (.v 7) (
  .out 1 [(.kb false)]) <|
 .out 1 [(.kb true)]
theorem c12 : compF B Try.f12 (look h12) [z33, z33] [z4] = some a12 := by kernel_rfl
theorem k12 : callable Try.prog 12 = true := by kernel_rfl
theorem s12 {vs us : List V} (h : a12.wp Cl (ans us) vs) : Cl 12 vs us := cc_of tabOk mixed Try.func12 c12 rfl k12 h
-- 135
def h135 : List (Nat × Tm) := []
def a135 : A :=
 .pm .ne [(.pj (.v 0) 0), (.pj (.v 1) 0)] <|
 .ite (.v 2) (
  .out 1 [(.kb false)]) <|
 .pm .bne [(.pj (.v 0) 1), (.pj (.v 1) 1)] <|
 .ite (.v 3) (
  .out 1 [(.kb false)]) <|
 .pm .bne [(.pj (.v 0) 2), (.pj (.v 1) 2)] <|
 .ite (.v 4) (
  .out 1 [(.kb false)]) <|
 .pm .sne [(.pj (.v 0) 3), (.pj (.v 1) 3)] <|
 .ite (.v 5) (
  .out 1 [(.kb false)]) <|
 .out 1 [(.kb true)]
theorem c135 : compF B Try.f135 (look h135) [z174, z174] [z4] = some a135 := by kernel_rfl
theorem k135 : callable Try.prog 135 = true := by kernel_rfl
theorem s135 {vs us : List V} (h : a135.wp Cl (ans us) vs) : Cl 135 vs us := cc_of tabOk mixed Try.func135 c135 rfl k135 h
-- 154
def h154 : List (Nat × Tm) := [(14, ⟨[0, 1], fun n i => [(5, (.cv (.sc (.int .i64) (.v (n + 0)))))], fun n i => [], 1, 0⟩)]
def a154 : A :=
 .pm .llen [(.v 0)] <|
 .pm .llen [(.v 1)] <|
 .pm .ne [(.v 2), (.v 3)] <|
 .ite (.v 4) (
  .out 1 [(.kb false)]) <|
 .lp 2 [(.ki 0)] <|
  .pm .llen [(.v 0)] <|
  .pm .lt [(.v 5), (.v 6)] <|
  .ite (.v 7) (
   .pm .lget [(.v 0), (.v 5)] <|
   .pm .lget [(.v 1), (.v 5)] <|
   .cl 135 [(.tc (.pj (.v 8) 0) (.tc (.pj (.v 8) 1) (.tc (.pj (.v 8) 2) (.tc (.pj (.v 8) 3) .tn)))), (.tc (.pj (.v 9) 0) (.tc (.pj (.v 9) 1) (.tc (.pj (.v 9) 2) (.tc (.pj (.v 9) 3) .tn))))] 1 <|
   .pm .not [(.v 10)] <|
   .ite (.v 11) (
    .out 1 [(.kb false)]) <|
   .pm (.add .i64) [(.v 5), (.ki 1)] <|
   .out 2 [(.v 12)]) <|
  .out 1 [(.kb true)]
theorem c154 : compF B Try.f154 (look h154) [z121, z121] [z4] = some a154 := by kernel_rfl
theorem k154 : callable Try.prog 154 = true := by kernel_rfl
theorem s154 {vs us : List V} (h : a154.wp Cl (ans us) vs) : Cl 154 vs us := cc_of tabOk mixed Try.func154 c154 rfl k154 h
-- 119
def h119 : List (Nat × Tm) := []
def a119 : A :=
 .pm .bne [(.pj (.v 0) 0), (.pj (.v 1) 0)] <|
 .ite (.v 2) (
  .out 1 [(.kb false)]) <|
 .pm .ne [(.pj (.v 0) 1), (.pj (.v 1) 1)] <|
 .ite (.v 3) (
  .out 1 [(.kb false)]) <|
 .pm .ne [(.pj (.v 0) 2), (.pj (.v 1) 2)] <|
 .ite (.v 4) (
  .out 1 [(.kb false)]) <|
 .cl 154 [(.pj (.v 0) 3), (.pj (.v 1) 3)] 1 <|
 .pm .not [(.v 5)] <|
 .ite (.v 6) (
  .out 1 [(.kb false)]) <|
 .pm .ne [(.pj (.v 0) 4), (.pj (.v 1) 4)] <|
 .ite (.v 7) (
  .out 1 [(.kb false)]) <|
 .pm .ne [(.pj (.v 0) 5), (.pj (.v 1) 5)] <|
 .ite (.v 8) (
  .out 1 [(.kb false)]) <|
 .pm .ne [(.pj (.v 0) 6), (.pj (.v 1) 6)] <|
 .ite (.v 9) (
  .out 1 [(.kb false)]) <|
 .pm .ne [(.pj (.v 0) 7), (.pj (.v 1) 7)] <|
 .ite (.v 10) (
  .out 1 [(.kb false)]) <|
 .pm .ne [(.pj (.v 0) 8), (.pj (.v 1) 8)] <|
 .ite (.v 11) (
  .out 1 [(.kb false)]) <|
 .out 1 [(.kb true)]
theorem c119 : compF B Try.f119 (look h119) [z123, z123] [z4] = some a119 := by kernel_rfl
theorem k119 : callable Try.prog 119 = true := by kernel_rfl
theorem s119 {vs us : List V} (h : a119.wp Cl (ans us) vs) : Cl 119 vs us := cc_of tabOk mixed Try.func119 c119 rfl k119 h
-- 96
def h96 : List (Nat × Tm) := []
def a96 : A :=
 .pm .ne [(.pj (.v 0) 0), (.pj (.v 1) 0)] <|
 .ite (.v 2) (
  .out 1 [(.kb false)]) <|
 .pm .ne [(.pj (.v 0) 1), (.pj (.v 1) 1)] <|
 .ite (.v 3) (
  .out 1 [(.kb false)]) <|
 .cl 36 [(.pj (.v 0) 2), (.pj (.v 1) 2)] 1 <|
 .pm .not [(.v 4)] <|
 .ite (.v 5) (
  .out 1 [(.kb false)]) <|
 .cl 36 [(.pj (.v 0) 3), (.pj (.v 1) 3)] 1 <|
 .pm .not [(.v 6)] <|
 .ite (.v 7) (
  .out 1 [(.kb false)]) <|
 .out 1 [(.kb true)]
theorem c96 : compF B Try.f96 (look h96) [z63, z63] [z4] = some a96 := by kernel_rfl
theorem k96 : callable Try.prog 96 = true := by kernel_rfl
theorem s96 {vs us : List V} (h : a96.wp Cl (ans us) vs) : Cl 96 vs us := cc_of tabOk mixed Try.func96 c96 rfl k96 h
-- 120
def h120 : List (Nat × Tm) := []
def a120 : A :=
 .pm .bne [(.pj (.v 0) 0), (.pj (.v 1) 0)] <|
 .ite (.v 2) (
  .out 1 [(.kb false)]) <|
 .pm .bne [(.pj (.v 0) 1), (.pj (.v 1) 1)] <|
 .ite (.v 3) (
  .out 1 [(.kb false)]) <|
 .cl 96 [(.tc (.pj (.v 0) 2) (.tc (.pj (.v 0) 3) (.tc (.pj (.v 0) 4) (.tc (.pj (.v 0) 5) .tn)))), (.tc (.pj (.v 1) 2) (.tc (.pj (.v 1) 3) (.tc (.pj (.v 1) 4) (.tc (.pj (.v 1) 5) .tn))))] 1 <|
 .pm .not [(.v 4)] <|
 .ite (.v 5) (
  .out 1 [(.kb false)]) <|
 .cl 34 [(.tc (.pj (.v 0) 6) (.tc (.pj (.v 0) 7) (.tc (.pj (.v 0) 8) (.tc (.pj (.v 0) 9) .tn)))), (.tc (.pj (.v 1) 6) (.tc (.pj (.v 1) 7) (.tc (.pj (.v 1) 8) (.tc (.pj (.v 1) 9) .tn))))] 1 <|
 .pm .not [(.v 6)] <|
 .ite (.v 7) (
  .out 1 [(.kb false)]) <|
 .pm .ne [(.pj (.v 0) 10), (.pj (.v 1) 10)] <|
 .ite (.v 8) (
  .out 1 [(.kb false)]) <|
 .pm .ne [(.pj (.v 0) 11), (.pj (.v 1) 11)] <|
 .ite (.v 9) (
  .out 1 [(.kb false)]) <|
 .pm .ne [(.pj (.v 0) 12), (.pj (.v 1) 12)] <|
 .ite (.v 10) (
  .out 1 [(.kb false)]) <|
 .out 1 [(.kb true)]
theorem c120 : compF B Try.f120 (look h120) [z125, z125] [z4] = some a120 := by kernel_rfl
theorem k120 : callable Try.prog 120 = true := by kernel_rfl
theorem s120 {vs us : List V} (h : a120.wp Cl (ans us) vs) : Cl 120 vs us := cc_of tabOk mixed Try.func120 c120 rfl k120 h
-- 78
def h78 : List (Nat × Tm) := []
def a78 : A :=
 .cl 119 [(.tc (.pj (.v 0) 0) (.tc (.pj (.v 0) 1) (.tc (.pj (.v 0) 2) (.tc (.pj (.v 0) 3) (.tc (.pj (.v 0) 4) (.tc (.pj (.v 0) 5) (.tc (.pj (.v 0) 6) (.tc (.pj (.v 0) 7) (.tc (.pj (.v 0) 8) .tn))))))))), (.tc (.pj (.v 1) 0) (.tc (.pj (.v 1) 1) (.tc (.pj (.v 1) 2) (.tc (.pj (.v 1) 3) (.tc (.pj (.v 1) 4) (.tc (.pj (.v 1) 5) (.tc (.pj (.v 1) 6) (.tc (.pj (.v 1) 7) (.tc (.pj (.v 1) 8) .tn)))))))))] 1 <|
 .pm .not [(.v 2)] <|
 .ite (.v 3) (
  .out 1 [(.kb false)]) <|
 .cl 120 [(.tc (.pj (.v 0) 9) (.tc (.pj (.v 0) 10) (.tc (.pj (.v 0) 11) (.tc (.pj (.v 0) 12) (.tc (.pj (.v 0) 13) (.tc (.pj (.v 0) 14) (.tc (.pj (.v 0) 15) (.tc (.pj (.v 0) 16) (.tc (.pj (.v 0) 17) (.tc (.pj (.v 0) 18) (.tc (.pj (.v 0) 19) (.tc (.pj (.v 0) 20) (.tc (.pj (.v 0) 21) .tn))))))))))))), (.tc (.pj (.v 1) 9) (.tc (.pj (.v 1) 10) (.tc (.pj (.v 1) 11) (.tc (.pj (.v 1) 12) (.tc (.pj (.v 1) 13) (.tc (.pj (.v 1) 14) (.tc (.pj (.v 1) 15) (.tc (.pj (.v 1) 16) (.tc (.pj (.v 1) 17) (.tc (.pj (.v 1) 18) (.tc (.pj (.v 1) 19) (.tc (.pj (.v 1) 20) (.tc (.pj (.v 1) 21) .tn)))))))))))))] 1 <|
 .pm .not [(.v 4)] <|
 .ite (.v 5) (
  .out 1 [(.kb false)]) <|
 .pm .bne [(.pj (.v 0) 22), (.pj (.v 1) 22)] <|
 .ite (.v 6) (
  .out 1 [(.kb false)]) <|
 .pm .ne [(.pj (.v 0) 23), (.pj (.v 1) 23)] <|
 .ite (.v 7) (
  .out 1 [(.kb false)]) <|
 .out 1 [(.kb true)]
theorem c78 : compF B Try.f78 (look h78) [z127, z127] [z4] = some a78 := by kernel_rfl
theorem k78 : callable Try.prog 78 = true := by kernel_rfl
theorem s78 {vs us : List V} (h : a78.wp Cl (ans us) vs) : Cl 78 vs us := cc_of tabOk mixed Try.func78 c78 rfl k78 h
-- 35
def h35 : List (Nat × Tm) := [(14, ⟨[0, 1], fun n i => [(5, (.cv (.sc (.int .i64) (.v (n + 0)))))], fun n i => [], 1, 0⟩)]
def a35 : A :=
 .pm .llen [(.v 0)] <|
 .pm .llen [(.v 1)] <|
 .pm .ne [(.v 2), (.v 3)] <|
 .ite (.v 4) (
  .out 1 [(.kb false)]) <|
 .lp 2 [(.ki 0)] <|
  .pm .llen [(.v 0)] <|
  .pm .lt [(.v 5), (.v 6)] <|
  .ite (.v 7) (
   .pm .lget [(.v 0), (.v 5)] <|
   .pm .lget [(.v 1), (.v 5)] <|
   .cl 78 [(.tc (.pj (.v 8) 0) (.tc (.pj (.v 8) 1) (.tc (.pj (.v 8) 2) (.tc (.pj (.v 8) 3) (.tc (.pj (.v 8) 4) (.tc (.pj (.v 8) 5) (.tc (.pj (.v 8) 6) (.tc (.pj (.v 8) 7) (.tc (.pj (.v 8) 8) (.tc (.pj (.v 8) 9) (.tc (.pj (.v 8) 10) (.tc (.pj (.v 8) 11) (.tc (.pj (.v 8) 12) (.tc (.pj (.v 8) 13) (.tc (.pj (.v 8) 14) (.tc (.pj (.v 8) 15) (.tc (.pj (.v 8) 16) (.tc (.pj (.v 8) 17) (.tc (.pj (.v 8) 18) (.tc (.pj (.v 8) 19) (.tc (.pj (.v 8) 20) (.tc (.pj (.v 8) 21) (.tc (.pj (.v 8) 22) (.tc (.pj (.v 8) 23) .tn)))))))))))))))))))))))), (.tc (.pj (.v 9) 0) (.tc (.pj (.v 9) 1) (.tc (.pj (.v 9) 2) (.tc (.pj (.v 9) 3) (.tc (.pj (.v 9) 4) (.tc (.pj (.v 9) 5) (.tc (.pj (.v 9) 6) (.tc (.pj (.v 9) 7) (.tc (.pj (.v 9) 8) (.tc (.pj (.v 9) 9) (.tc (.pj (.v 9) 10) (.tc (.pj (.v 9) 11) (.tc (.pj (.v 9) 12) (.tc (.pj (.v 9) 13) (.tc (.pj (.v 9) 14) (.tc (.pj (.v 9) 15) (.tc (.pj (.v 9) 16) (.tc (.pj (.v 9) 17) (.tc (.pj (.v 9) 18) (.tc (.pj (.v 9) 19) (.tc (.pj (.v 9) 20) (.tc (.pj (.v 9) 21) (.tc (.pj (.v 9) 22) (.tc (.pj (.v 9) 23) .tn))))))))))))))))))))))))] 1 <|
   .pm .not [(.v 10)] <|
   .ite (.v 11) (
    .out 1 [(.kb false)]) <|
   .pm (.add .i64) [(.v 5), (.ki 1)] <|
   .out 2 [(.v 12)]) <|
  .out 1 [(.kb true)]
theorem c35 : compF B Try.f35 (look h35) [z34, z34] [z4] = some a35 := by kernel_rfl
theorem k35 : callable Try.prog 35 = true := by kernel_rfl
theorem s35 {vs us : List V} (h : a35.wp Cl (ans us) vs) : Cl 35 vs us := cc_of tabOk mixed Try.func35 c35 rfl k35 h
-- 11
def h11 : List (Nat × Tm) := []
def a11 : A :=
 .cl 34 [(.tc (.pj (.v 0) 0) (.tc (.pj (.v 0) 1) (.tc (.pj (.v 0) 2) (.tc (.pj (.v 0) 3) .tn)))), (.tc (.pj (.v 1) 0) (.tc (.pj (.v 1) 1) (.tc (.pj (.v 1) 2) (.tc (.pj (.v 1) 3) .tn))))] 1 <|
 .pm .not [(.v 2)] <|
 .ite (.v 3) (
  .out 1 [(.kb false)]) <|
 .pm .ne [(.pj (.v 0) 4), (.pj (.v 1) 4)] <|
 .ite (.v 4) (
  .out 1 [(.kb false)]) <|
 .pm .ne [(.pj (.v 0) 5), (.pj (.v 1) 5)] <|
 .ite (.v 5) (
  .out 1 [(.kb false)]) <|
 .pm .ne [(.pj (.v 0) 6), (.pj (.v 1) 6)] <|
 .ite (.v 6) (
  .out 1 [(.kb false)]) <|
 .pm .ne [(.pj (.v 0) 7), (.pj (.v 1) 7)] <|
 .ite (.v 7) (
  .out 1 [(.kb false)]) <|
 .cl 12 [(.tc (.pj (.v 0) 8) (.tc (.pj (.v 0) 9) (.tc (.pj (.v 0) 10) .tn))), (.tc (.pj (.v 1) 8) (.tc (.pj (.v 1) 9) (.tc (.pj (.v 1) 10) .tn)))] 1 <|
 .pm .not [(.v 8)] <|
 .ite (.v 9) (
  .out 1 [(.kb false)]) <|
 .cl 12 [(.tc (.pj (.v 0) 11) (.tc (.pj (.v 0) 12) (.tc (.pj (.v 0) 13) .tn))), (.tc (.pj (.v 1) 11) (.tc (.pj (.v 1) 12) (.tc (.pj (.v 1) 13) .tn)))] 1 <|
 .pm .not [(.v 10)] <|
 .ite (.v 11) (
  .out 1 [(.kb false)]) <|
 .pm .ne [(.pj (.v 0) 14), (.pj (.v 1) 14)] <|
 .ite (.v 12) (
  .out 1 [(.kb false)]) <|
 .pm .ne [(.pj (.v 0) 15), (.pj (.v 1) 15)] <|
 .ite (.v 13) (
  .out 1 [(.kb false)]) <|
 .pm .bne [(.pj (.v 0) 16), (.pj (.v 1) 16)] <|
 .ite (.v 14) (
  .out 1 [(.kb false)]) <|
 .cl 35 [(.pj (.v 0) 17), (.pj (.v 1) 17)] 1 <|
 .pm .not [(.v 15)] <|
 .ite (.v 16) (
  .out 1 [(.kb false)]) <|
 .out 1 [(.kb true)]
theorem c11 : compF B Try.f11 (look h11) [z36, z36] [z4] = some a11 := by kernel_rfl
theorem k11 : callable Try.prog 11 = true := by kernel_rfl
theorem s11 {vs us : List V} (h : a11.wp Cl (ans us) vs) : Cl 11 vs us := cc_of tabOk mixed Try.func11 c11 rfl k11 h
-- 157
def h157 : List (Nat × Tm) := []
def a157 : A :=
 .pm .ne [(.pj (.v 0) 0), (.pj (.v 1) 0)] <|
 .ite (.v 2) (
  .out 1 [(.kb false)]) <|
 .pm .ne [(.pj (.v 0) 1), (.pj (.v 1) 1)] <|
 .ite (.v 3) (
  .out 1 [(.kb false)]) <|
 .pm .ne [(.pj (.v 0) 2), (.pj (.v 1) 2)] <|
 .ite (.v 4) (
  .out 1 [(.kb false)]) <|
 .out 1 [(.kb true)]
theorem c157 : compF B Try.f157 (look h157) [z168, z168] [z4] = some a157 := by kernel_rfl
theorem k157 : callable Try.prog 157 = true := by kernel_rfl
theorem s157 {vs us : List V} (h : a157.wp Cl (ans us) vs) : Cl 157 vs us := cc_of tabOk mixed Try.func157 c157 rfl k157 h
-- 97
def h97 : List (Nat × Tm) := []
def a97 : A :=
 .pm .ne [(.pj (.v 0) 0), (.pj (.v 1) 0)] <|
 .ite (.v 2) (
  .out 1 [(.kb false)]) <|
 .pm .ne [(.pj (.v 0) 1), (.pj (.v 1) 1)] <|
 .ite (.v 3) (
  .out 1 [(.kb false)]) <|
 .pm .sne [(.pj (.v 0) 2), (.pj (.v 1) 2)] <|
 .ite (.v 4) (
  .out 1 [(.kb false)]) <|
 .out 1 [(.kb true)]
theorem c97 : compF B Try.f97 (look h97) [z64, z64] [z4] = some a97 := by kernel_rfl
theorem k97 : callable Try.prog 97 = true := by kernel_rfl
theorem s97 {vs us : List V} (h : a97.wp Cl (ans us) vs) : Cl 97 vs us := cc_of tabOk mixed Try.func97 c97 rfl k97 h
-- 134
def h134 : List (Nat × Tm) := []
def a134 : A :=
 .cl 96 [(.tc (.pj (.v 0) 0) (.tc (.pj (.v 0) 1) (.tc (.pj (.v 0) 2) (.tc (.pj (.v 0) 3) .tn)))), (.tc (.pj (.v 1) 0) (.tc (.pj (.v 1) 1) (.tc (.pj (.v 1) 2) (.tc (.pj (.v 1) 3) .tn))))] 1 <|
 .pm .not [(.v 2)] <|
 .ite (.v 3) (
  .out 1 [(.kb false)]) <|
 .cl 34 [(.tc (.pj (.v 0) 4) (.tc (.pj (.v 0) 5) (.tc (.pj (.v 0) 6) (.tc (.pj (.v 0) 7) .tn)))), (.tc (.pj (.v 1) 4) (.tc (.pj (.v 1) 5) (.tc (.pj (.v 1) 6) (.tc (.pj (.v 1) 7) .tn))))] 1 <|
 .pm .not [(.v 4)] <|
 .ite (.v 5) (
  .out 1 [(.kb false)]) <|
 .cl 157 [(.tc (.pj (.v 0) 8) (.tc (.pj (.v 0) 9) (.tc (.pj (.v 0) 10) .tn))), (.tc (.pj (.v 1) 8) (.tc (.pj (.v 1) 9) (.tc (.pj (.v 1) 10) .tn)))] 1 <|
 .pm .not [(.v 6)] <|
 .ite (.v 7) (
  .out 1 [(.kb false)]) <|
 .pm .ne [(.pj (.v 0) 11), (.pj (.v 1) 11)] <|
 .ite (.v 8) (
  .out 1 [(.kb false)]) <|
 .pm .ne [(.pj (.v 0) 12), (.pj (.v 1) 12)] <|
 .ite (.v 9) (
  .out 1 [(.kb false)]) <|
 .pm .ne [(.pj (.v 0) 13), (.pj (.v 1) 13)] <|
 .ite (.v 10) (
  .out 1 [(.kb false)]) <|
 .pm .ne [(.pj (.v 0) 14), (.pj (.v 1) 14)] <|
 .ite (.v 11) (
  .out 1 [(.kb false)]) <|
 .pm .bne [(.pj (.v 0) 15), (.pj (.v 1) 15)] <|
 .ite (.v 12) (
  .out 1 [(.kb false)]) <|
 .cl 97 [(.tc (.pj (.v 0) 16) (.tc (.pj (.v 0) 17) (.tc (.pj (.v 0) 18) .tn))), (.tc (.pj (.v 1) 16) (.tc (.pj (.v 1) 17) (.tc (.pj (.v 1) 18) .tn)))] 1 <|
 .pm .not [(.v 13)] <|
 .ite (.v 14) (
  .out 1 [(.kb false)]) <|
 .out 1 [(.kb true)]
theorem c134 : compF B Try.f134 (look h134) [z170, z170] [z4] = some a134 := by kernel_rfl
theorem k134 : callable Try.prog 134 = true := by kernel_rfl
theorem s134 {vs us : List V} (h : a134.wp Cl (ans us) vs) : Cl 134 vs us := cc_of tabOk mixed Try.func134 c134 rfl k134 h
-- 94
def h94 : List (Nat × Tm) := []
def a94 : A :=
 .cl 134 [(.tc (.pj (.v 0) 0) (.tc (.pj (.v 0) 1) (.tc (.pj (.v 0) 2) (.tc (.pj (.v 0) 3) (.tc (.pj (.v 0) 4) (.tc (.pj (.v 0) 5) (.tc (.pj (.v 0) 6) (.tc (.pj (.v 0) 7) (.tc (.pj (.v 0) 8) (.tc (.pj (.v 0) 9) (.tc (.pj (.v 0) 10) (.tc (.pj (.v 0) 11) (.tc (.pj (.v 0) 12) (.tc (.pj (.v 0) 13) (.tc (.pj (.v 0) 14) (.tc (.pj (.v 0) 15) (.tc (.pj (.v 0) 16) (.tc (.pj (.v 0) 17) (.tc (.pj (.v 0) 18) .tn))))))))))))))))))), (.tc (.pj (.v 1) 0) (.tc (.pj (.v 1) 1) (.tc (.pj (.v 1) 2) (.tc (.pj (.v 1) 3) (.tc (.pj (.v 1) 4) (.tc (.pj (.v 1) 5) (.tc (.pj (.v 1) 6) (.tc (.pj (.v 1) 7) (.tc (.pj (.v 1) 8) (.tc (.pj (.v 1) 9) (.tc (.pj (.v 1) 10) (.tc (.pj (.v 1) 11) (.tc (.pj (.v 1) 12) (.tc (.pj (.v 1) 13) (.tc (.pj (.v 1) 14) (.tc (.pj (.v 1) 15) (.tc (.pj (.v 1) 16) (.tc (.pj (.v 1) 17) (.tc (.pj (.v 1) 18) .tn)))))))))))))))))))] 1 <|
 .pm .not [(.v 2)] <|
 .ite (.v 3) (
  .out 1 [(.kb false)]) <|
 .pm .ne [(.pj (.v 0) 19), (.pj (.v 1) 19)] <|
 .ite (.v 4) (
  .out 1 [(.kb false)]) <|
 .pm .ne [(.pj (.v 0) 20), (.pj (.v 1) 20)] <|
 .ite (.v 5) (
  .out 1 [(.kb false)]) <|
 .out 1 [(.kb true)]
theorem c94 : compF B Try.f94 (look h94) [z172, z172] [z4] = some a94 := by kernel_rfl
theorem k94 : callable Try.prog 94 = true := by kernel_rfl
theorem s94 {vs us : List V} (h : a94.wp Cl (ans us) vs) : Cl 94 vs us := cc_of tabOk mixed Try.func94 c94 rfl k94 h
-- 53
def h53 : List (Nat × Tm) := [(14, ⟨[0, 1], fun n i => [(5, (.cv (.sc (.int .i64) (.v (n + 0)))))], fun n i => [], 1, 0⟩)]
def a53 : A :=
 .pm .llen [(.v 0)] <|
 .pm .llen [(.v 1)] <|
 .pm .ne [(.v 2), (.v 3)] <|
 .ite (.v 4) (
  .out 1 [(.kb false)]) <|
 .lp 2 [(.ki 0)] <|
  .pm .llen [(.v 0)] <|
  .pm .lt [(.v 5), (.v 6)] <|
  .ite (.v 7) (
   .pm .lget [(.v 0), (.v 5)] <|
   .pm .lget [(.v 1), (.v 5)] <|
   .cl 94 [(.tc (.pj (.v 8) 0) (.tc (.pj (.v 8) 1) (.tc (.pj (.v 8) 2) (.tc (.pj (.v 8) 3) (.tc (.pj (.v 8) 4) (.tc (.pj (.v 8) 5) (.tc (.pj (.v 8) 6) (.tc (.pj (.v 8) 7) (.tc (.pj (.v 8) 8) (.tc (.pj (.v 8) 9) (.tc (.pj (.v 8) 10) (.tc (.pj (.v 8) 11) (.tc (.pj (.v 8) 12) (.tc (.pj (.v 8) 13) (.tc (.pj (.v 8) 14) (.tc (.pj (.v 8) 15) (.tc (.pj (.v 8) 16) (.tc (.pj (.v 8) 17) (.tc (.pj (.v 8) 18) (.tc (.pj (.v 8) 19) (.tc (.pj (.v 8) 20) .tn))))))))))))))))))))), (.tc (.pj (.v 9) 0) (.tc (.pj (.v 9) 1) (.tc (.pj (.v 9) 2) (.tc (.pj (.v 9) 3) (.tc (.pj (.v 9) 4) (.tc (.pj (.v 9) 5) (.tc (.pj (.v 9) 6) (.tc (.pj (.v 9) 7) (.tc (.pj (.v 9) 8) (.tc (.pj (.v 9) 9) (.tc (.pj (.v 9) 10) (.tc (.pj (.v 9) 11) (.tc (.pj (.v 9) 12) (.tc (.pj (.v 9) 13) (.tc (.pj (.v 9) 14) (.tc (.pj (.v 9) 15) (.tc (.pj (.v 9) 16) (.tc (.pj (.v 9) 17) (.tc (.pj (.v 9) 18) (.tc (.pj (.v 9) 19) (.tc (.pj (.v 9) 20) .tn)))))))))))))))))))))] 1 <|
   .pm .not [(.v 10)] <|
   .ite (.v 11) (
    .out 1 [(.kb false)]) <|
   .pm (.add .i64) [(.v 5), (.ki 1)] <|
   .out 2 [(.v 12)]) <|
  .out 1 [(.kb true)]
theorem c53 : compF B Try.f53 (look h53) [z61, z61] [z4] = some a53 := by kernel_rfl
theorem k53 : callable Try.prog 53 = true := by kernel_rfl
theorem s53 {vs us : List V} (h : a53.wp Cl (ans us) vs) : Cl 53 vs us := cc_of tabOk mixed Try.func53 c53 rfl k53 h
-- 95
def h95 : List (Nat × Tm) := []
def a95 : A :=
 .pm .ne [(.pj (.v 0) 0), (.pj (.v 1) 0)] <|
 .ite (.v 2) (
  .out 1 [(.kb false)]) <|
 .cl 135 [(.tc (.pj (.v 0) 1) (.tc (.pj (.v 0) 2) (.tc (.pj (.v 0) 3) (.tc (.pj (.v 0) 4) .tn)))), (.tc (.pj (.v 1) 1) (.tc (.pj (.v 1) 2) (.tc (.pj (.v 1) 3) (.tc (.pj (.v 1) 4) .tn))))] 1 <|
 .pm .not [(.v 3)] <|
 .ite (.v 4) (
  .out 1 [(.kb false)]) <|
 .out 1 [(.kb true)]
theorem c95 : compF B Try.f95 (look h95) [z176, z176] [z4] = some a95 := by kernel_rfl
theorem k95 : callable Try.prog 95 = true := by kernel_rfl
theorem s95 {vs us : List V} (h : a95.wp Cl (ans us) vs) : Cl 95 vs us := cc_of tabOk mixed Try.func95 c95 rfl k95 h
-- 54
def h54 : List (Nat × Tm) := [(14, ⟨[0, 1], fun n i => [(5, (.cv (.sc (.int .i64) (.v (n + 0)))))], fun n i => [], 1, 0⟩)]
def a54 : A :=
 .pm .llen [(.v 0)] <|
 .pm .llen [(.v 1)] <|
 .pm .ne [(.v 2), (.v 3)] <|
 .ite (.v 4) (
  .out 1 [(.kb false)]) <|
 .lp 2 [(.ki 0)] <|
  .pm .llen [(.v 0)] <|
  .pm .lt [(.v 5), (.v 6)] <|
  .ite (.v 7) (
   .pm .lget [(.v 0), (.v 5)] <|
   .pm .lget [(.v 1), (.v 5)] <|
   .cl 95 [(.tc (.pj (.v 8) 0) (.tc (.pj (.v 8) 1) (.tc (.pj (.v 8) 2) (.tc (.pj (.v 8) 3) (.tc (.pj (.v 8) 4) .tn))))), (.tc (.pj (.v 9) 0) (.tc (.pj (.v 9) 1) (.tc (.pj (.v 9) 2) (.tc (.pj (.v 9) 3) (.tc (.pj (.v 9) 4) .tn)))))] 1 <|
   .pm .not [(.v 10)] <|
   .ite (.v 11) (
    .out 1 [(.kb false)]) <|
   .pm (.add .i64) [(.v 5), (.ki 1)] <|
   .out 2 [(.v 12)]) <|
  .out 1 [(.kb true)]
theorem c54 : compF B Try.f54 (look h54) [z62, z62] [z4] = some a54 := by kernel_rfl
theorem k54 : callable Try.prog 54 = true := by kernel_rfl
theorem s54 {vs us : List V} (h : a54.wp Cl (ans us) vs) : Cl 54 vs us := cc_of tabOk mixed Try.func54 c54 rfl k54 h
-- 55
def h55 : List (Nat × Tm) := []
def a55 : A :=
 .pm .bne [(.pj (.v 0) 0), (.pj (.v 1) 0)] <|
 .ite (.v 2) (
  .out 1 [(.kb false)]) <|
 .pm .bne [(.pj (.v 0) 1), (.pj (.v 1) 1)] <|
 .ite (.v 3) (
  .out 1 [(.kb false)]) <|
 .pm .bne [(.pj (.v 0) 2), (.pj (.v 1) 2)] <|
 .ite (.v 4) (
  .out 1 [(.kb false)]) <|
 .cl 96 [(.tc (.pj (.v 0) 3) (.tc (.pj (.v 0) 4) (.tc (.pj (.v 0) 5) (.tc (.pj (.v 0) 6) .tn)))), (.tc (.pj (.v 1) 3) (.tc (.pj (.v 1) 4) (.tc (.pj (.v 1) 5) (.tc (.pj (.v 1) 6) .tn))))] 1 <|
 .pm .not [(.v 5)] <|
 .ite (.v 6) (
  .out 1 [(.kb false)]) <|
 .cl 34 [(.tc (.pj (.v 0) 7) (.tc (.pj (.v 0) 8) (.tc (.pj (.v 0) 9) (.tc (.pj (.v 0) 10) .tn)))), (.tc (.pj (.v 1) 7) (.tc (.pj (.v 1) 8) (.tc (.pj (.v 1) 9) (.tc (.pj (.v 1) 10) .tn))))] 1 <|
 .pm .not [(.v 7)] <|
 .ite (.v 8) (
  .out 1 [(.kb false)]) <|
 .pm .ne [(.pj (.v 0) 11), (.pj (.v 1) 11)] <|
 .ite (.v 9) (
  .out 1 [(.kb false)]) <|
 .pm .ne [(.pj (.v 0) 12), (.pj (.v 1) 12)] <|
 .ite (.v 10) (
  .out 1 [(.kb false)]) <|
 .cl 97 [(.tc (.pj (.v 0) 13) (.tc (.pj (.v 0) 14) (.tc (.pj (.v 0) 15) .tn))), (.tc (.pj (.v 1) 13) (.tc (.pj (.v 1) 14) (.tc (.pj (.v 1) 15) .tn)))] 1 <|
 .pm .not [(.v 11)] <|
 .ite (.v 12) (
  .out 1 [(.kb false)]) <|
 .cl 97 [(.tc (.pj (.v 0) 16) (.tc (.pj (.v 0) 17) (.tc (.pj (.v 0) 18) .tn))), (.tc (.pj (.v 1) 16) (.tc (.pj (.v 1) 17) (.tc (.pj (.v 1) 18) .tn)))] 1 <|
 .pm .not [(.v 13)] <|
 .ite (.v 14) (
  .out 1 [(.kb false)]) <|
 .out 1 [(.kb true)]
theorem c55 : compF B Try.f55 (look h55) [z66, z66] [z4] = some a55 := by kernel_rfl
theorem k55 : callable Try.prog 55 = true := by kernel_rfl
theorem s55 {vs us : List V} (h : a55.wp Cl (ans us) vs) : Cl 55 vs us := cc_of tabOk mixed Try.func55 c55 rfl k55 h
-- 56
def h56 : List (Nat × Tm) := [(14, ⟨[0, 1], fun n i => [(5, (.cv (.sc (.int .i64) (.v (n + 0)))))], fun n i => [], 1, 0⟩)]
def a56 : A :=
 .pm .llen [(.v 0)] <|
 .pm .llen [(.v 1)] <|
 .pm .ne [(.v 2), (.v 3)] <|
 .ite (.v 4) (
  .out 1 [(.kb false)]) <|
 .lp 2 [(.ki 0)] <|
  .pm .llen [(.v 0)] <|
  .pm .lt [(.v 5), (.v 6)] <|
  .ite (.v 7) (
   .pm .lget [(.v 0), (.v 5)] <|
   .pm .lget [(.v 1), (.v 5)] <|
   .cl 55 [(.tc (.pj (.v 8) 0) (.tc (.pj (.v 8) 1) (.tc (.pj (.v 8) 2) (.tc (.pj (.v 8) 3) (.tc (.pj (.v 8) 4) (.tc (.pj (.v 8) 5) (.tc (.pj (.v 8) 6) (.tc (.pj (.v 8) 7) (.tc (.pj (.v 8) 8) (.tc (.pj (.v 8) 9) (.tc (.pj (.v 8) 10) (.tc (.pj (.v 8) 11) (.tc (.pj (.v 8) 12) (.tc (.pj (.v 8) 13) (.tc (.pj (.v 8) 14) (.tc (.pj (.v 8) 15) (.tc (.pj (.v 8) 16) (.tc (.pj (.v 8) 17) (.tc (.pj (.v 8) 18) .tn))))))))))))))))))), (.tc (.pj (.v 9) 0) (.tc (.pj (.v 9) 1) (.tc (.pj (.v 9) 2) (.tc (.pj (.v 9) 3) (.tc (.pj (.v 9) 4) (.tc (.pj (.v 9) 5) (.tc (.pj (.v 9) 6) (.tc (.pj (.v 9) 7) (.tc (.pj (.v 9) 8) (.tc (.pj (.v 9) 9) (.tc (.pj (.v 9) 10) (.tc (.pj (.v 9) 11) (.tc (.pj (.v 9) 12) (.tc (.pj (.v 9) 13) (.tc (.pj (.v 9) 14) (.tc (.pj (.v 9) 15) (.tc (.pj (.v 9) 16) (.tc (.pj (.v 9) 17) (.tc (.pj (.v 9) 18) .tn)))))))))))))))))))] 1 <|
   .pm .not [(.v 10)] <|
   .ite (.v 11) (
    .out 1 [(.kb false)]) <|
   .pm (.add .i64) [(.v 5), (.ki 1)] <|
   .out 2 [(.v 12)]) <|
  .out 1 [(.kb true)]
theorem c56 : compF B Try.f56 (look h56) [z67, z67] [z4] = some a56 := by kernel_rfl
theorem k56 : callable Try.prog 56 = true := by kernel_rfl
theorem s56 {vs us : List V} (h : a56.wp Cl (ans us) vs) : Cl 56 vs us := cc_of tabOk mixed Try.func56 c56 rfl k56 h
-- 136
def h136 : List (Nat × Tm) := []
def a136 : A :=
 .pm .bne [(.pj (.v 0) 0), (.pj (.v 1) 0)] <|
 .ite (.v 2) (
  .out 1 [(.kb false)]) <|
 .pm .ne [(.pj (.v 0) 1), (.pj (.v 1) 1)] <|
 .ite (.v 3) (
  .out 1 [(.kb false)]) <|
 .pm .sne [(.pj (.v 0) 2), (.pj (.v 1) 2)] <|
 .ite (.v 4) (
  .out 1 [(.kb false)]) <|
 .out 1 [(.kb true)]
theorem c136 : compF B Try.f136 (look h136) [z180, z180] [z4] = some a136 := by kernel_rfl
theorem k136 : callable Try.prog 136 = true := by kernel_rfl
theorem s136 {vs us : List V} (h : a136.wp Cl (ans us) vs) : Cl 136 vs us := cc_of tabOk mixed Try.func136 c136 rfl k136 h
-- 98
def h98 : List (Nat × Tm) := []
def a98 : A :=
 .pm .ne [(.pj (.v 0) 0), (.pj (.v 1) 0)] <|
 .ite (.v 2) (
  .out 1 [(.kb false)]) <|
 .pm .ne [(.pj (.v 0) 1), (.pj (.v 1) 1)] <|
 .ite (.v 3) (
  .out 1 [(.kb false)]) <|
 .cl 136 [(.tc (.pj (.v 0) 2) (.tc (.pj (.v 0) 3) (.tc (.pj (.v 0) 4) .tn))), (.tc (.pj (.v 1) 2) (.tc (.pj (.v 1) 3) (.tc (.pj (.v 1) 4) .tn)))] 1 <|
 .pm .not [(.v 4)] <|
 .ite (.v 5) (
  .out 1 [(.kb false)]) <|
 .cl 97 [(.tc (.pj (.v 0) 5) (.tc (.pj (.v 0) 6) (.tc (.pj (.v 0) 7) .tn))), (.tc (.pj (.v 1) 5) (.tc (.pj (.v 1) 6) (.tc (.pj (.v 1) 7) .tn)))] 1 <|
 .pm .not [(.v 6)] <|
 .ite (.v 7) (
  .out 1 [(.kb false)]) <|
 .out 1 [(.kb true)]
theorem c98 : compF B Try.f98 (look h98) [z182, z182] [z4] = some a98 := by kernel_rfl
theorem k98 : callable Try.prog 98 = true := by kernel_rfl
theorem s98 {vs us : List V} (h : a98.wp Cl (ans us) vs) : Cl 98 vs us := cc_of tabOk mixed Try.func98 c98 rfl k98 h
-- 57
def h57 : List (Nat × Tm) := [(14, ⟨[0, 1], fun n i => [(5, (.cv (.sc (.int .i64) (.v (n + 0)))))], fun n i => [], 1, 0⟩)]
def a57 : A :=
 .pm .llen [(.v 0)] <|
 .pm .llen [(.v 1)] <|
 .pm .ne [(.v 2), (.v 3)] <|
 .ite (.v 4) (
  .out 1 [(.kb false)]) <|
 .lp 2 [(.ki 0)] <|
  .pm .llen [(.v 0)] <|
  .pm .lt [(.v 5), (.v 6)] <|
  .ite (.v 7) (
   .pm .lget [(.v 0), (.v 5)] <|
   .pm .lget [(.v 1), (.v 5)] <|
   .cl 98 [(.tc (.pj (.v 8) 0) (.tc (.pj (.v 8) 1) (.tc (.pj (.v 8) 2) (.tc (.pj (.v 8) 3) (.tc (.pj (.v 8) 4) (.tc (.pj (.v 8) 5) (.tc (.pj (.v 8) 6) (.tc (.pj (.v 8) 7) .tn)))))))), (.tc (.pj (.v 9) 0) (.tc (.pj (.v 9) 1) (.tc (.pj (.v 9) 2) (.tc (.pj (.v 9) 3) (.tc (.pj (.v 9) 4) (.tc (.pj (.v 9) 5) (.tc (.pj (.v 9) 6) (.tc (.pj (.v 9) 7) .tn))))))))] 1 <|
   .pm .not [(.v 10)] <|
   .ite (.v 11) (
    .out 1 [(.kb false)]) <|
   .pm (.add .i64) [(.v 5), (.ki 1)] <|
   .out 2 [(.v 12)]) <|
  .out 1 [(.kb true)]
theorem c57 : compF B Try.f57 (look h57) [z68, z68] [z4] = some a57 := by kernel_rfl
theorem k57 : callable Try.prog 57 = true := by kernel_rfl
theorem s57 {vs us : List V} (h : a57.wp Cl (ans us) vs) : Cl 57 vs us := cc_of tabOk mixed Try.func57 c57 rfl k57 h
-- 158
def h158 : List (Nat × Tm) := []
def a158 : A :=
 .pm .ne [(.pj (.v 0) 0), (.pj (.v 1) 0)] <|
 .ite (.v 2) (
  .out 1 [(.kb false)]) <|
 .pm .ne [(.pj (.v 0) 1), (.pj (.v 1) 1)] <|
 .ite (.v 3) (
  .out 1 [(.kb false)]) <|
 .pm .ne [(.pj (.v 0) 2), (.pj (.v 1) 2)] <|
 .ite (.v 4) (
  .out 1 [(.kb false)]) <|
 .out 1 [(.kb true)]
theorem c158 : compF B Try.f158 (look h158) [z100, z100] [z4] = some a158 := by kernel_rfl
theorem k158 : callable Try.prog 158 = true := by kernel_rfl
theorem s158 {vs us : List V} (h : a158.wp Cl (ans us) vs) : Cl 158 vs us := cc_of tabOk mixed Try.func158 c158 rfl k158 h
-- 137
def h137 : List (Nat × Tm) := [(14, ⟨[0, 1], fun n i => [(5, (.cv (.sc (.int .i64) (.v (n + 0)))))], fun n i => [], 1, 0⟩)]
def a137 : A :=
 .pm .llen [(.v 0)] <|
 .pm .llen [(.v 1)] <|
 .pm .ne [(.v 2), (.v 3)] <|
 .ite (.v 4) (
  .out 1 [(.kb false)]) <|
 .lp 2 [(.ki 0)] <|
  .pm .llen [(.v 0)] <|
  .pm .lt [(.v 5), (.v 6)] <|
  .ite (.v 7) (
   .pm .lget [(.v 0), (.v 5)] <|
   .pm .lget [(.v 1), (.v 5)] <|
   .cl 158 [(.tc (.pj (.v 8) 0) (.tc (.pj (.v 8) 1) (.tc (.pj (.v 8) 2) .tn))), (.tc (.pj (.v 9) 0) (.tc (.pj (.v 9) 1) (.tc (.pj (.v 9) 2) .tn)))] 1 <|
   .pm .not [(.v 10)] <|
   .ite (.v 11) (
    .out 1 [(.kb false)]) <|
   .pm (.add .i64) [(.v 5), (.ki 1)] <|
   .out 2 [(.v 12)]) <|
  .out 1 [(.kb true)]
theorem c137 : compF B Try.f137 (look h137) [z94, z94] [z4] = some a137 := by kernel_rfl
theorem k137 : callable Try.prog 137 = true := by kernel_rfl
theorem s137 {vs us : List V} (h : a137.wp Cl (ans us) vs) : Cl 137 vs us := cc_of tabOk mixed Try.func137 c137 rfl k137 h
-- 138
def h138 : List (Nat × Tm) := [(14, ⟨[0, 1], fun n i => [(5, (.cv (.sc (.int .i64) (.v (n + 0)))))], fun n i => [], 1, 0⟩)]
def a138 : A :=
 .pm .llen [(.v 0)] <|
 .pm .llen [(.v 1)] <|
 .pm .ne [(.v 2), (.v 3)] <|
 .ite (.v 4) (
  .out 1 [(.kb false)]) <|
 .lp 2 [(.ki 0)] <|
  .pm .llen [(.v 0)] <|
  .pm .lt [(.v 5), (.v 6)] <|
  .ite (.v 7) (
   .pm .lget [(.v 0), (.v 5)] <|
   .pm .lget [(.v 1), (.v 5)] <|
   .pm .sne [(.v 8), (.v 9)] <|
   .ite (.v 10) (
    .out 1 [(.kb false)]) <|
   .pm (.add .i64) [(.v 5), (.ki 1)] <|
   .out 2 [(.v 11)]) <|
  .out 1 [(.kb true)]
theorem c138 : compF B Try.f138 (look h138) [z95, z95] [z4] = some a138 := by kernel_rfl
theorem k138 : callable Try.prog 138 = true := by kernel_rfl
theorem s138 {vs us : List V} (h : a138.wp Cl (ans us) vs) : Cl 138 vs us := cc_of tabOk mixed Try.func138 c138 rfl k138 h
-- 139
def h139 : List (Nat × Tm) := [(14, ⟨[0, 1], fun n i => [(5, (.cv (.sc (.int .i64) (.v (n + 0)))))], fun n i => [], 1, 0⟩)]
def a139 : A :=
 .pm .llen [(.v 0)] <|
 .pm .llen [(.v 1)] <|
 .pm .ne [(.v 2), (.v 3)] <|
 .ite (.v 4) (
  .out 1 [(.kb false)]) <|
 .lp 2 [(.ki 0)] <|
  .pm .llen [(.v 0)] <|
  .pm .lt [(.v 5), (.v 6)] <|
  .ite (.v 7) (
   .pm .lget [(.v 0), (.v 5)] <|
   .pm .lget [(.v 1), (.v 5)] <|
   .cl 97 [(.tc (.pj (.v 8) 0) (.tc (.pj (.v 8) 1) (.tc (.pj (.v 8) 2) .tn))), (.tc (.pj (.v 9) 0) (.tc (.pj (.v 9) 1) (.tc (.pj (.v 9) 2) .tn)))] 1 <|
   .pm .not [(.v 10)] <|
   .ite (.v 11) (
    .out 1 [(.kb false)]) <|
   .pm (.add .i64) [(.v 5), (.ki 1)] <|
   .out 2 [(.v 12)]) <|
  .out 1 [(.kb true)]
theorem c139 : compF B Try.f139 (look h139) [z96, z96] [z4] = some a139 := by kernel_rfl
theorem k139 : callable Try.prog 139 = true := by kernel_rfl
theorem s139 {vs us : List V} (h : a139.wp Cl (ans us) vs) : Cl 139 vs us := cc_of tabOk mixed Try.func139 c139 rfl k139 h
-- 99
def h99 : List (Nat × Tm) := []
def a99 : A :=
 .cl 96 [(.tc (.pj (.v 0) 0) (.tc (.pj (.v 0) 1) (.tc (.pj (.v 0) 2) (.tc (.pj (.v 0) 3) .tn)))), (.tc (.pj (.v 1) 0) (.tc (.pj (.v 1) 1) (.tc (.pj (.v 1) 2) (.tc (.pj (.v 1) 3) .tn))))] 1 <|
 .pm .not [(.v 2)] <|
 .ite (.v 3) (
  .out 1 [(.kb false)]) <|
 .cl 137 [(.pj (.v 0) 4), (.pj (.v 1) 4)] 1 <|
 .pm .not [(.v 4)] <|
 .ite (.v 5) (
  .out 1 [(.kb false)]) <|
 .cl 138 [(.pj (.v 0) 5), (.pj (.v 1) 5)] 1 <|
 .pm .not [(.v 6)] <|
 .ite (.v 7) (
  .out 1 [(.kb false)]) <|
 .cl 36 [(.pj (.v 0) 6), (.pj (.v 1) 6)] 1 <|
 .pm .not [(.v 8)] <|
 .ite (.v 9) (
  .out 1 [(.kb false)]) <|
 .cl 139 [(.pj (.v 0) 7), (.pj (.v 1) 7)] 1 <|
 .pm .not [(.v 10)] <|
 .ite (.v 11) (
  .out 1 [(.kb false)]) <|
 .out 1 [(.kb true)]
theorem c99 : compF B Try.f99 (look h99) [z98, z98] [z4] = some a99 := by kernel_rfl
theorem k99 : callable Try.prog 99 = true := by kernel_rfl
theorem s99 {vs us : List V} (h : a99.wp Cl (ans us) vs) : Cl 99 vs us := cc_of tabOk mixed Try.func99 c99 rfl k99 h
-- 58
def h58 : List (Nat × Tm) := [(14, ⟨[0, 1], fun n i => [(5, (.cv (.sc (.int .i64) (.v (n + 0)))))], fun n i => [], 1, 0⟩)]
def a58 : A :=
 .pm .llen [(.v 0)] <|
 .pm .llen [(.v 1)] <|
 .pm .ne [(.v 2), (.v 3)] <|
 .ite (.v 4) (
  .out 1 [(.kb false)]) <|
 .lp 2 [(.ki 0)] <|
  .pm .llen [(.v 0)] <|
  .pm .lt [(.v 5), (.v 6)] <|
  .ite (.v 7) (
   .pm .lget [(.v 0), (.v 5)] <|
   .pm .lget [(.v 1), (.v 5)] <|
   .cl 99 [(.tc (.pj (.v 8) 0) (.tc (.pj (.v 8) 1) (.tc (.pj (.v 8) 2) (.tc (.pj (.v 8) 3) (.tc (.pj (.v 8) 4) (.tc (.pj (.v 8) 5) (.tc (.pj (.v 8) 6) (.tc (.pj (.v 8) 7) .tn)))))))), (.tc (.pj (.v 9) 0) (.tc (.pj (.v 9) 1) (.tc (.pj (.v 9) 2) (.tc (.pj (.v 9) 3) (.tc (.pj (.v 9) 4) (.tc (.pj (.v 9) 5) (.tc (.pj (.v 9) 6) (.tc (.pj (.v 9) 7) .tn))))))))] 1 <|
   .pm .not [(.v 10)] <|
   .ite (.v 11) (
    .out 1 [(.kb false)]) <|
   .pm (.add .i64) [(.v 5), (.ki 1)] <|
   .out 2 [(.v 12)]) <|
  .out 1 [(.kb true)]
theorem c58 : compF B Try.f58 (look h58) [z69, z69] [z4] = some a58 := by kernel_rfl
theorem k58 : callable Try.prog 58 = true := by kernel_rfl
theorem s58 {vs us : List V} (h : a58.wp Cl (ans us) vs) : Cl 58 vs us := cc_of tabOk mixed Try.func58 c58 rfl k58 h
-- 20
def h20 : List (Nat × Tm) := []
def a20 : A :=
 .cl 11 [(.tc (.pj (.v 0) 0) (.tc (.pj (.v 0) 1) (.tc (.pj (.v 0) 2) (.tc (.pj (.v 0) 3) (.tc (.pj (.v 0) 4) (.tc (.pj (.v 0) 5) (.tc (.pj (.v 0) 6) (.tc (.pj (.v 0) 7) (.tc (.pj (.v 0) 8) (.tc (.pj (.v 0) 9) (.tc (.pj (.v 0) 10) (.tc (.pj (.v 0) 11) (.tc (.pj (.v 0) 12) (.tc (.pj (.v 0) 13) (.tc (.pj (.v 0) 14) (.tc (.pj (.v 0) 15) (.tc (.pj (.v 0) 16) (.tc (.pj (.v 0) 17) .tn)))))))))))))))))), (.tc (.pj (.v 1) 0) (.tc (.pj (.v 1) 1) (.tc (.pj (.v 1) 2) (.tc (.pj (.v 1) 3) (.tc (.pj (.v 1) 4) (.tc (.pj (.v 1) 5) (.tc (.pj (.v 1) 6) (.tc (.pj (.v 1) 7) (.tc (.pj (.v 1) 8) (.tc (.pj (.v 1) 9) (.tc (.pj (.v 1) 10) (.tc (.pj (.v 1) 11) (.tc (.pj (.v 1) 12) (.tc (.pj (.v 1) 13) (.tc (.pj (.v 1) 14) (.tc (.pj (.v 1) 15) (.tc (.pj (.v 1) 16) (.tc (.pj (.v 1) 17) .tn))))))))))))))))))] 1 <|
 .pm .not [(.v 2)] <|
 .ite (.v 3) (
  .out 1 [(.kb false)]) <|
 .cl 53 [(.pj (.v 0) 18), (.pj (.v 1) 18)] 1 <|
 .pm .not [(.v 4)] <|
 .ite (.v 5) (
  .out 1 [(.kb false)]) <|
 .cl 54 [(.pj (.v 0) 19), (.pj (.v 1) 19)] 1 <|
 .pm .not [(.v 6)] <|
 .ite (.v 7) (
  .out 1 [(.kb false)]) <|
 .cl 55 [(.tc (.pj (.v 0) 20) (.tc (.pj (.v 0) 21) (.tc (.pj (.v 0) 22) (.tc (.pj (.v 0) 23) (.tc (.pj (.v 0) 24) (.tc (.pj (.v 0) 25) (.tc (.pj (.v 0) 26) (.tc (.pj (.v 0) 27) (.tc (.pj (.v 0) 28) (.tc (.pj (.v 0) 29) (.tc (.pj (.v 0) 30) (.tc (.pj (.v 0) 31) (.tc (.pj (.v 0) 32) (.tc (.pj (.v 0) 33) (.tc (.pj (.v 0) 34) (.tc (.pj (.v 0) 35) (.tc (.pj (.v 0) 36) (.tc (.pj (.v 0) 37) (.tc (.pj (.v 0) 38) .tn))))))))))))))))))), (.tc (.pj (.v 1) 20) (.tc (.pj (.v 1) 21) (.tc (.pj (.v 1) 22) (.tc (.pj (.v 1) 23) (.tc (.pj (.v 1) 24) (.tc (.pj (.v 1) 25) (.tc (.pj (.v 1) 26) (.tc (.pj (.v 1) 27) (.tc (.pj (.v 1) 28) (.tc (.pj (.v 1) 29) (.tc (.pj (.v 1) 30) (.tc (.pj (.v 1) 31) (.tc (.pj (.v 1) 32) (.tc (.pj (.v 1) 33) (.tc (.pj (.v 1) 34) (.tc (.pj (.v 1) 35) (.tc (.pj (.v 1) 36) (.tc (.pj (.v 1) 37) (.tc (.pj (.v 1) 38) .tn)))))))))))))))))))] 1 <|
 .pm .not [(.v 8)] <|
 .ite (.v 9) (
  .out 1 [(.kb false)]) <|
 .cl 56 [(.pj (.v 0) 39), (.pj (.v 1) 39)] 1 <|
 .pm .not [(.v 10)] <|
 .ite (.v 11) (
  .out 1 [(.kb false)]) <|
 .cl 57 [(.pj (.v 0) 40), (.pj (.v 1) 40)] 1 <|
 .pm .not [(.v 12)] <|
 .ite (.v 13) (
  .out 1 [(.kb false)]) <|
 .cl 58 [(.pj (.v 0) 41), (.pj (.v 1) 41)] 1 <|
 .pm .not [(.v 14)] <|
 .ite (.v 15) (
  .out 1 [(.kb false)]) <|
 .cl 36 [(.pj (.v 0) 42), (.pj (.v 1) 42)] 1 <|
 .pm .not [(.v 16)] <|
 .ite (.v 17) (
  .out 1 [(.kb false)]) <|
 .out 1 [(.kb true)]
theorem c20 : compF B Try.f20 (look h20) [z71, z71] [z4] = some a20 := by kernel_rfl
theorem k20 : callable Try.prog 20 = true := by kernel_rfl
theorem s20 {vs us : List V} (h : a20.wp Cl (ans us) vs) : Cl 20 vs us := cc_of tabOk mixed Try.func20 c20 rfl k20 h
-- 4
def h4 : List (Nat × Tm) := []
def a4 : A :=
 .cl 16 [(.tc (.pj (.v 0) 0) (.tc (.pj (.v 0) 1) (.tc (.pj (.v 0) 2) (.tc (.pj (.v 0) 3) (.tc (.pj (.v 0) 4) (.tc (.pj (.v 0) 5) (.tc (.pj (.v 0) 6) (.tc (.pj (.v 0) 7) (.tc (.pj (.v 0) 8) (.tc (.pj (.v 0) 9) (.tc (.pj (.v 0) 10) (.tc (.pj (.v 0) 11) (.tc (.pj (.v 0) 12) (.tc (.pj (.v 0) 13) (.tc (.pj (.v 0) 14) (.tc (.pj (.v 0) 15) (.tc (.pj (.v 0) 16) (.tc (.pj (.v 0) 17) (.tc (.pj (.v 0) 18) (.tc (.pj (.v 0) 19) (.tc (.pj (.v 0) 20) (.tc (.pj (.v 0) 21) (.tc (.pj (.v 0) 22) (.tc (.pj (.v 0) 23) (.tc (.pj (.v 0) 24) (.tc (.pj (.v 0) 25) (.tc (.pj (.v 0) 26) (.tc (.pj (.v 0) 27) (.tc (.pj (.v 0) 28) (.tc (.pj (.v 0) 29) (.tc (.pj (.v 0) 30) (.tc (.pj (.v 0) 31) (.tc (.pj (.v 0) 32) (.tc (.pj (.v 0) 33) (.tc (.pj (.v 0) 34) (.tc (.pj (.v 0) 35) (.tc (.pj (.v 0) 36) (.tc (.pj (.v 0) 37) (.tc (.pj (.v 0) 38) (.tc (.pj (.v 0) 39) (.tc (.pj (.v 0) 40) (.tc (.pj (.v 0) 41) (.tc (.pj (.v 0) 42) .tn))))))))))))))))))))))))))))))))))))))))))), (.ki 1048576)] 1 <|
 .pm .lt [(.v 2), (.ki 0)] <|
 .ite (.v 3) (
  .out 1 [(.kb true)]) <|
 .cl 18 [(.tc (.pj (.v 0) 0) (.tc (.pj (.v 0) 1) (.tc (.pj (.v 0) 2) (.tc (.pj (.v 0) 3) (.tc (.pj (.v 0) 4) (.tc (.pj (.v 0) 5) (.tc (.pj (.v 0) 6) (.tc (.pj (.v 0) 7) (.tc (.pj (.v 0) 8) (.tc (.pj (.v 0) 9) (.tc (.pj (.v 0) 10) (.tc (.pj (.v 0) 11) (.tc (.pj (.v 0) 12) (.tc (.pj (.v 0) 13) (.tc (.pj (.v 0) 14) (.tc (.pj (.v 0) 15) (.tc (.pj (.v 0) 16) (.tc (.pj (.v 0) 17) (.tc (.pj (.v 0) 18) (.tc (.pj (.v 0) 19) (.tc (.pj (.v 0) 20) (.tc (.pj (.v 0) 21) (.tc (.pj (.v 0) 22) (.tc (.pj (.v 0) 23) (.tc (.pj (.v 0) 24) (.tc (.pj (.v 0) 25) (.tc (.pj (.v 0) 26) (.tc (.pj (.v 0) 27) (.tc (.pj (.v 0) 28) (.tc (.pj (.v 0) 29) (.tc (.pj (.v 0) 30) (.tc (.pj (.v 0) 31) (.tc (.pj (.v 0) 32) (.tc (.pj (.v 0) 33) (.tc (.pj (.v 0) 34) (.tc (.pj (.v 0) 35) (.tc (.pj (.v 0) 36) (.tc (.pj (.v 0) 37) (.tc (.pj (.v 0) 38) (.tc (.pj (.v 0) 39) (.tc (.pj (.v 0) 40) (.tc (.pj (.v 0) 41) (.tc (.pj (.v 0) 42) .tn)))))))))))))))))))))))))))))))))))))))))))] 1 <|
 .cl 17 [(.tc (.pj (.v 4) 0) (.tc (.pj (.v 4) 1) (.tc (.pj (.v 4) 2) (.tc (.pj (.v 4) 3) (.tc (.pj (.v 4) 4) (.tc (.pj (.v 4) 5) (.tc (.pj (.v 4) 6) (.tc (.pj (.v 4) 7) (.tc (.pj (.v 4) 8) (.tc (.pj (.v 4) 9) (.tc (.pj (.v 4) 10) (.tc (.pj (.v 4) 11) (.tc (.pj (.v 4) 12) (.tc (.pj (.v 4) 13) (.tc (.pj (.v 4) 14) (.tc (.pj (.v 4) 15) (.tc (.pj (.v 4) 16) (.tc (.pj (.v 4) 17) (.tc (.pj (.v 4) 18) (.tc (.pj (.v 4) 19) (.tc (.pj (.v 4) 20) (.tc (.pj (.v 4) 21) (.tc (.pj (.v 4) 22) (.tc (.pj (.v 4) 23) (.tc (.pj (.v 4) 24) (.tc (.pj (.v 4) 25) (.tc (.pj (.v 4) 26) (.tc (.pj (.v 4) 27) (.tc (.pj (.v 4) 28) (.tc (.pj (.v 4) 29) (.tc (.pj (.v 4) 30) (.tc (.pj (.v 4) 31) (.tc (.pj (.v 4) 32) (.tc (.pj (.v 4) 33) (.tc (.pj (.v 4) 34) (.tc (.pj (.v 4) 35) (.tc (.pj (.v 4) 36) (.tc (.pj (.v 4) 37) (.tc (.pj (.v 4) 38) (.tc (.pj (.v 4) 39) (.tc (.pj (.v 4) 40) (.tc (.pj (.v 4) 41) (.tc (.pj (.v 4) 42) .tn))))))))))))))))))))))))))))))))))))))))))), (.v 1)] 1 <|
 .cl 18 [(.tc (.pj (.v 0) 0) (.tc (.pj (.v 0) 1) (.tc (.pj (.v 0) 2) (.tc (.pj (.v 0) 3) (.tc (.pj (.v 0) 4) (.tc (.pj (.v 0) 5) (.tc (.pj (.v 0) 6) (.tc (.pj (.v 0) 7) (.tc (.pj (.v 0) 8) (.tc (.pj (.v 0) 9) (.tc (.pj (.v 0) 10) (.tc (.pj (.v 0) 11) (.tc (.pj (.v 0) 12) (.tc (.pj (.v 0) 13) (.tc (.pj (.v 0) 14) (.tc (.pj (.v 0) 15) (.tc (.pj (.v 0) 16) (.tc (.pj (.v 0) 17) (.tc (.pj (.v 0) 18) (.tc (.pj (.v 0) 19) (.tc (.pj (.v 0) 20) (.tc (.pj (.v 0) 21) (.tc (.pj (.v 0) 22) (.tc (.pj (.v 0) 23) (.tc (.pj (.v 0) 24) (.tc (.pj (.v 0) 25) (.tc (.pj (.v 0) 26) (.tc (.pj (.v 0) 27) (.tc (.pj (.v 0) 28) (.tc (.pj (.v 0) 29) (.tc (.pj (.v 0) 30) (.tc (.pj (.v 0) 31) (.tc (.pj (.v 0) 32) (.tc (.pj (.v 0) 33) (.tc (.pj (.v 0) 34) (.tc (.pj (.v 0) 35) (.tc (.pj (.v 0) 36) (.tc (.pj (.v 0) 37) (.tc (.pj (.v 0) 38) (.tc (.pj (.v 0) 39) (.tc (.pj (.v 0) 40) (.tc (.pj (.v 0) 41) (.tc (.pj (.v 0) 42) .tn)))))))))))))))))))))))))))))))))))))))))))] 1 <|
 .cl 19 [(.tc (.pj (.v 6) 0) (.tc (.pj (.v 6) 1) (.tc (.pj (.v 6) 2) (.tc (.pj (.v 6) 3) (.tc (.pj (.v 6) 4) (.tc (.pj (.v 6) 5) (.tc (.pj (.v 6) 6) (.tc (.pj (.v 6) 7) (.tc (.pj (.v 6) 8) (.tc (.pj (.v 6) 9) (.tc (.pj (.v 6) 10) (.tc (.pj (.v 6) 11) (.tc (.pj (.v 6) 12) (.tc (.pj (.v 6) 13) (.tc (.pj (.v 6) 14) (.tc (.pj (.v 6) 15) (.tc (.pj (.v 6) 16) (.tc (.pj (.v 6) 17) (.tc (.pj (.v 6) 18) (.tc (.pj (.v 6) 19) (.tc (.pj (.v 6) 20) (.tc (.pj (.v 6) 21) (.tc (.pj (.v 6) 22) (.tc (.pj (.v 6) 23) (.tc (.pj (.v 6) 24) (.tc (.pj (.v 6) 25) (.tc (.pj (.v 6) 26) (.tc (.pj (.v 6) 27) (.tc (.pj (.v 6) 28) (.tc (.pj (.v 6) 29) (.tc (.pj (.v 6) 30) (.tc (.pj (.v 6) 31) (.tc (.pj (.v 6) 32) (.tc (.pj (.v 6) 33) (.tc (.pj (.v 6) 34) (.tc (.pj (.v 6) 35) (.tc (.pj (.v 6) 36) (.tc (.pj (.v 6) 37) (.tc (.pj (.v 6) 38) (.tc (.pj (.v 6) 39) (.tc (.pj (.v 6) 40) (.tc (.pj (.v 6) 41) (.tc (.pj (.v 6) 42) .tn))))))))))))))))))))))))))))))))))))))))))), (.v 1)] 1 <|
 .pm .bne [(.v 7), (.v 5)] <|
 .ite (.v 8) (
  .out 1 [(.kb false)]) <|
 .cl 18 [(.tc (.pj (.v 0) 0) (.tc (.pj (.v 0) 1) (.tc (.pj (.v 0) 2) (.tc (.pj (.v 0) 3) (.tc (.pj (.v 0) 4) (.tc (.pj (.v 0) 5) (.tc (.pj (.v 0) 6) (.tc (.pj (.v 0) 7) (.tc (.pj (.v 0) 8) (.tc (.pj (.v 0) 9) (.tc (.pj (.v 0) 10) (.tc (.pj (.v 0) 11) (.tc (.pj (.v 0) 12) (.tc (.pj (.v 0) 13) (.tc (.pj (.v 0) 14) (.tc (.pj (.v 0) 15) (.tc (.pj (.v 0) 16) (.tc (.pj (.v 0) 17) (.tc (.pj (.v 0) 18) (.tc (.pj (.v 0) 19) (.tc (.pj (.v 0) 20) (.tc (.pj (.v 0) 21) (.tc (.pj (.v 0) 22) (.tc (.pj (.v 0) 23) (.tc (.pj (.v 0) 24) (.tc (.pj (.v 0) 25) (.tc (.pj (.v 0) 26) (.tc (.pj (.v 0) 27) (.tc (.pj (.v 0) 28) (.tc (.pj (.v 0) 29) (.tc (.pj (.v 0) 30) (.tc (.pj (.v 0) 31) (.tc (.pj (.v 0) 32) (.tc (.pj (.v 0) 33) (.tc (.pj (.v 0) 34) (.tc (.pj (.v 0) 35) (.tc (.pj (.v 0) 36) (.tc (.pj (.v 0) 37) (.tc (.pj (.v 0) 38) (.tc (.pj (.v 0) 39) (.tc (.pj (.v 0) 40) (.tc (.pj (.v 0) 41) (.tc (.pj (.v 0) 42) .tn)))))))))))))))))))))))))))))))))))))))))))] 1 <|
 .cl 20 [(.tc (.pj (.v 6) 0) (.tc (.pj (.v 6) 1) (.tc (.pj (.v 6) 2) (.tc (.pj (.v 6) 3) (.tc (.pj (.v 6) 4) (.tc (.pj (.v 6) 5) (.tc (.pj (.v 6) 6) (.tc (.pj (.v 6) 7) (.tc (.pj (.v 6) 8) (.tc (.pj (.v 6) 9) (.tc (.pj (.v 6) 10) (.tc (.pj (.v 6) 11) (.tc (.pj (.v 6) 12) (.tc (.pj (.v 6) 13) (.tc (.pj (.v 6) 14) (.tc (.pj (.v 6) 15) (.tc (.pj (.v 6) 16) (.tc (.pj (.v 6) 17) (.tc (.pj (.v 6) 18) (.tc (.pj (.v 6) 19) (.tc (.pj (.v 6) 20) (.tc (.pj (.v 6) 21) (.tc (.pj (.v 6) 22) (.tc (.pj (.v 6) 23) (.tc (.pj (.v 6) 24) (.tc (.pj (.v 6) 25) (.tc (.pj (.v 6) 26) (.tc (.pj (.v 6) 27) (.tc (.pj (.v 6) 28) (.tc (.pj (.v 6) 29) (.tc (.pj (.v 6) 30) (.tc (.pj (.v 6) 31) (.tc (.pj (.v 6) 32) (.tc (.pj (.v 6) 33) (.tc (.pj (.v 6) 34) (.tc (.pj (.v 6) 35) (.tc (.pj (.v 6) 36) (.tc (.pj (.v 6) 37) (.tc (.pj (.v 6) 38) (.tc (.pj (.v 6) 39) (.tc (.pj (.v 6) 40) (.tc (.pj (.v 6) 41) (.tc (.pj (.v 6) 42) .tn))))))))))))))))))))))))))))))))))))))))))), (.tc (.pj (.v 9) 0) (.tc (.pj (.v 9) 1) (.tc (.pj (.v 9) 2) (.tc (.pj (.v 9) 3) (.tc (.pj (.v 9) 4) (.tc (.pj (.v 9) 5) (.tc (.pj (.v 9) 6) (.tc (.pj (.v 9) 7) (.tc (.pj (.v 9) 8) (.tc (.pj (.v 9) 9) (.tc (.pj (.v 9) 10) (.tc (.pj (.v 9) 11) (.tc (.pj (.v 9) 12) (.tc (.pj (.v 9) 13) (.tc (.pj (.v 9) 14) (.tc (.pj (.v 9) 15) (.tc (.pj (.v 9) 16) (.tc (.pj (.v 9) 17) (.tc (.pj (.v 9) 18) (.tc (.pj (.v 9) 19) (.tc (.pj (.v 9) 20) (.tc (.pj (.v 9) 21) (.tc (.pj (.v 9) 22) (.tc (.pj (.v 9) 23) (.tc (.pj (.v 9) 24) (.tc (.pj (.v 9) 25) (.tc (.pj (.v 9) 26) (.tc (.pj (.v 9) 27) (.tc (.pj (.v 9) 28) (.tc (.pj (.v 9) 29) (.tc (.pj (.v 9) 30) (.tc (.pj (.v 9) 31) (.tc (.pj (.v 9) 32) (.tc (.pj (.v 9) 33) (.tc (.pj (.v 9) 34) (.tc (.pj (.v 9) 35) (.tc (.pj (.v 9) 36) (.tc (.pj (.v 9) 37) (.tc (.pj (.v 9) 38) (.tc (.pj (.v 9) 39) (.tc (.pj (.v 9) 40) (.tc (.pj (.v 9) 41) (.tc (.pj (.v 9) 42) .tn)))))))))))))))))))))))))))))))))))))))))))] 1 <|
 .pm .not [(.v 10)] <|
 .ite (.v 11) (
  .out 1 [(.kb false)]) <|
 .out 1 [(.kb true)]
theorem c4 : compF B Try.f4 (look h4) [z58, z3] [z4] = some a4 := by kernel_rfl
theorem k4 : callable Try.prog 4 = true := by kernel_rfl
theorem s4 {vs us : List V} (h : a4.wp Cl (ans us) vs) : Cl 4 vs us := cc_of tabOk mixed Try.func4 c4 rfl k4 h
end Go.Proofs.Ytbgmehmigckhdaa.Fw
