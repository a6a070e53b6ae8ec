/- By a program of ours: of each function below the predicate that its code comes to, and that it is sound. No conditions. -/
import Derived.Test.YtmfplfaeibehiaaKE
import Derived.Test.YtmfplfaeibehiaaKM
namespace Go.Proofs.Ytmfplfaeibehiaa
open Go Go.K
/-- rubric/rubriclaw12.BlocksJoin -/
def S3 (v0 v1 : Value) (K : Cont) (w : World) : Prop :=
  JoinK (fun _vs w1 => ∀ _h : Env,
  rowK 26 2 0 [] [] (fun t18 w2 =>
  runK Try.prog (Builtin.append_ #[22, 22] 22 [t18, v0].toArray) (fun t20 w3 =>
  runK Try.prog (Builtin.append_ #[22, 22] 22 [t20, v1].toArray) (fun t22 w4 =>
  lenK t22 fun t24 =>
  LoopK [(.int .i64 0)] (fun vs_1 again w5 => ∀ _h_1 : Env,
  ltK .i64 (nth vs_1 0) t24 fun t26 =>
  condK t26
  (ixK 2 t22 (nth vs_1 0) fun t30 =>
  faK 1 t30 fun t31 =>
  ld1K t31 (fun t32 w6 =>
  lenK t32 fun t33 =>
  gtK .i64 t33 (.int .i64 30) fun t34 =>
  condK t34
  (callK Try.prog 14 [] (fun t35 w7 =>
  K t35 w7) w6)
  (addK .i64 (nth vs_1 0) (.int .i64 1) fun t36 =>
  again [t36] w6)) w5)
  (callK Try.prog 15 [v0] (fun t38 w8 =>
  callK Try.prog 15 [v1] (fun t40 w9 =>
  callK Try.prog 15 [t22] (fun t42 w10 =>
  runK Try.prog (Builtin.append_ #[27, 27] 27 [t38, t40].toArray) (fun t45 w11 =>
  callK Try.prog 17 [t45] (fun t46 w12 =>
  callK Try.prog 16 [t42, t46] (fun t47 w13 =>
  condK t47
  (callK Try.prog 14 [] (fun t49 w14 =>
  K t49 w14) w13)
  (K (.bool false) w13)) w12) w11) w10) w9) w8) w5)) w4) w3) w2) w1) (fun J =>
  lenK v0 fun t10 =>
  gtK .i64 t10 (.int .i64 250) fun t11 =>
  condK t11
  (callK Try.prog 14 [] (fun t17 w15 =>
  K t17 w15) w)
  (lenK v1 fun t14 =>
  gtK .i64 t14 (.int .i64 250) fun t15 =>
  condK t15
  (callK Try.prog 14 [] (fun t17_1 w16 =>
  K t17_1 w16) w)
  (J [] w)))
theorem S3_eq (v0 v1 : Value) (K : Cont) (w : World) : S3 v0 v1 K w = D Try.prog okf 51 (bodyOf Try.f3) (.node [] [] .nil (.cut [] [(4, 4), (9, 17)] (.node [] [] .nil (.node [] [] (.node [] [] .nil .nil) .nil)) (.node [] [] .nil (.node [] [] (.node [] [] .nil (.node [25] [(4, 4), (6, 6), (25, 36)] (.node [] [] .nil (.node [] [] (.node [] [] .nil .nil) (.node [] [] (.node [] [] .nil (.node [] [] .nil (.node [] [] (.node [] [] .nil .nil) .nil))) .nil))) .nil)) (.node [] [] .nil (.node [] [] .nil .nil)))))) (retK Try.prog [.tmp 4] K) (nth [v0, v1]) w := by kernel_rfl
theorem S3_ok {v0 v1 : Value} {K : Cont} {w : World} (h : S3 v0 v1 K w) : callK Try.prog 3 [v0, v1] K w :=
  callK_of (P := Try.prog) (ok := okf) (n := 51) (fn := Try.f3) (c := bodyOf Try.f3) (rs := [.tmp 4]) (an := (.node [] [] .nil (.cut [] [(4, 4), (9, 17)] (.node [] [] .nil (.node [] [] (.node [] [] .nil .nil) .nil)) (.node [] [] .nil (.node [] [] (.node [] [] .nil (.node [25] [(4, 4), (6, 6), (25, 36)] (.node [] [] .nil (.node [] [] (.node [] [] .nil .nil) (.node [] [] (.node [] [] .nil (.node [] [] .nil (.node [] [] (.node [] [] .nil .nil) .nil))) .nil))) .nil)) (.node [] [] .nil (.node [] [] .nil .nil))))))) good mixed Try.func3 (by kernel_rfl) (by kernel_rfl) (by kernel_rfl) (by kernel_rfl) (Eq.mp (S3_eq v0 v1 K w) h)

/-- rubric/rubriclaw12.BlocksPlaces -/
def S4 (v0 v1 : Value) (K : Cont) (w : World) : Prop :=
  JoinK (fun _vs w1 => ∀ _h : Env,
  lenK v0 fun t37 =>
  LoopK [(.int .i64 0)] (fun vs_1 again w2 => ∀ _h_1 : Env,
  ltK .i64 (nth vs_1 0) t37 fun t39 =>
  condK t39
  (ixK 2 v0 (nth vs_1 0) fun t43 =>
  faK 0 t43 fun t44 =>
  ld1K t44 (fun t45 w3 =>
  gtK .i64 t45 (.int .i64 20) fun t46 =>
  condK t46
  (callK Try.prog 14 [] (fun t47 w4 =>
  K t47 w4) w3)
  (addK .i64 (nth vs_1 0) (.int .i64 1) fun t48 =>
  again [t48] w3)) w2)
  (lenK v1 fun t50 =>
  LoopK [(.int .i64 0)] (fun vs_2 again_1 w5 => ∀ _h_2 : Env,
  ltK .i64 (nth vs_2 0) t50 fun t52 =>
  condK t52
  (ixK 2 v1 (nth vs_2 0) fun t56 =>
  faK 0 t56 fun t57 =>
  ld1K t57 (fun t58 w6 =>
  gtK .i64 t58 (.int .i64 20) fun t59 =>
  condK t59
  (callK Try.prog 14 [] (fun t60 w7 =>
  K t60 w7) w6)
  (addK .i64 (nth vs_2 0) (.int .i64 1) fun t61 =>
  again_1 [t61] w6)) w5)
  (callK Try.prog 17 [v0] (fun t63 w8 =>
  callK Try.prog 17 [v1] (fun t65 w9 =>
  callK Try.prog 19 [v0] (fun t67 w10 =>
  callK Try.prog 19 [v1] (fun t69 w11 =>
  eqK .i64 t67 t69 fun t70 =>
  LoopK [t70, (.int .i64 0)] (fun vs_3 again_2 w12 => ∀ _h_3 : Env,
  callK Try.prog 19 [v0] (fun t73 w13 =>
  ltK .i64 (nth vs_3 1) t73 fun t74 =>
  condK t74
  (JoinK (fun vs_4 w14 => ∀ _h_4 : Env,
  addK .i64 (nth vs_3 1) (.int .i64 1) fun t76 =>
  again_2 [(nth vs_4 0), t76] w14) (fun J_1 =>
  callK Try.prog 20 [v0, (nth vs_3 1)] (fun t80 w15 =>
  extK 0 t80 fun t81 =>
  extK 1 t80 fun t82 =>
  callK Try.prog 20 [t63, (nth vs_3 1)] (fun t86 w16 =>
  extK 0 t86 fun t87 =>
  extK 1 t86 fun t88 =>
  JoinK (fun _vs_5 w17 => ∀ _h_5 : Env,
  callK Try.prog 20 [v1, (nth vs_3 1)] (fun t104 w18 =>
  extK 0 t104 fun t105 =>
  extK 1 t104 fun t106 =>
  condK (nth vs_3 0)
  (condK t106
  (callK Try.prog 21 [t81, t105] (fun t114 w19 =>
  J_1 [t114] w19) w18)
  (J_1 [(.bool false)] w18))
  (J_1 [(.bool false)] w18)) w17) (fun J_2 =>
  notK t82 fun t90 =>
  condK t90
  (K (.bool false) w16)
  (notK t88 fun t93 =>
  condK t93
  (K (.bool false) w16)
  (callK Try.prog 21 [t81, t87] (fun t98 w20 =>
  notK t98 fun t99 =>
  condK t99
  (K (.bool false) w20)
  (J_2 [] w20)) w16)))) w15) w13))
  (callK Try.prog 16 [t63, t65] (fun t118 w21 =>
  beqK t118 (nth vs_3 0) fun t120 =>
  condK t120
  (callK Try.prog 14 [] (fun t122 w22 =>
  K t122 w22) w21)
  (K (.bool false) w21)) w13)) w12) w11) w10) w9) w8) w5)) w2)) w1) (fun J =>
  lenK v0 fun t18 =>
  gtK .i64 t18 (.int .i64 60) fun t19 =>
  condK t19
  (callK Try.prog 14 [] (fun t35 w23 =>
  K t35 w23) w)
  (lenK v1 fun t22 =>
  gtK .i64 t22 (.int .i64 60) fun t23 =>
  condK t23
  (callK Try.prog 14 [] (fun t35_1 w24 =>
  K t35_1 w24) w)
  (callK Try.prog 18 [v0] (fun t27 w25 =>
  notK t27 fun t28 =>
  condK t28
  (callK Try.prog 14 [] (fun t35_2 w26 =>
  K t35_2 w26) w25)
  (callK Try.prog 18 [v1] (fun t32 w27 =>
  notK t32 fun t33 =>
  condK t33
  (callK Try.prog 14 [] (fun t35_3 w28 =>
  K t35_3 w28) w27)
  (J [] w27)) w25)) w)))
theorem S4_eq (v0 v1 : Value) (K : Cont) (w : World) : S4 v0 v1 K w = D Try.prog okf 124 (bodyOf Try.f4) (.node [] [] .nil (.cut [] [(4, 4), (17, 35)] (.node [] [] .nil (.node [] [] (.node [] [] .nil .nil) .nil)) (.node [] [] (.node [] [] .nil (.node [38] [(4, 5), (38, 48)] (.node [] [] .nil (.node [] [] (.node [] [] .nil .nil) (.node [] [] (.node [] [] .nil (.node [] [] .nil (.node [] [] (.node [] [] .nil .nil) .nil))) .nil))) .nil)) (.node [] [] (.node [] [] .nil (.node [51] [(4, 4), (6, 6), (51, 61)] (.node [] [] .nil (.node [] [] (.node [] [] .nil .nil) (.node [] [] (.node [] [] .nil (.node [] [] .nil (.node [] [] (.node [] [] .nil .nil) .nil))) .nil))) .nil)) (.node [] [] .nil (.node [] [] .nil (.node [] [] (.node [] [] .nil (.node [9, 10] [(4, 4), (9, 16), (71, 115)] (.node [] [] (.node [] [] .nil (.node [] [] .nil .nil)) (.cut [9] [(4, 4), (9, 9), (11, 16), (77, 115)] (.node [] [] .nil (.node [] [] .nil (.cut [] [(4, 4), (89, 100)] (.node [] [] .nil (.node [] [] (.node [] [] .nil .nil) .nil)) (.node [] [] .nil .nil)))) .nil)) .nil)) (.node [] [] .nil .nil)))))))) (retK Try.prog [.tmp 4] K) (nth [v0, v1]) w := by kernel_rfl
theorem S4_ok {v0 v1 : Value} {K : Cont} {w : World} (h : S4 v0 v1 K w) : callK Try.prog 4 [v0, v1] K w :=
  callK_of (P := Try.prog) (ok := okf) (n := 124) (fn := Try.f4) (c := bodyOf Try.f4) (rs := [.tmp 4]) (an := (.node [] [] .nil (.cut [] [(4, 4), (17, 35)] (.node [] [] .nil (.node [] [] (.node [] [] .nil .nil) .nil)) (.node [] [] (.node [] [] .nil (.node [38] [(4, 5), (38, 48)] (.node [] [] .nil (.node [] [] (.node [] [] .nil .nil) (.node [] [] (.node [] [] .nil (.node [] [] .nil (.node [] [] (.node [] [] .nil .nil) .nil))) .nil))) .nil)) (.node [] [] (.node [] [] .nil (.node [51] [(4, 4), (6, 6), (51, 61)] (.node [] [] .nil (.node [] [] (.node [] [] .nil .nil) (.node [] [] (.node [] [] .nil (.node [] [] .nil (.node [] [] (.node [] [] .nil .nil) .nil))) .nil))) .nil)) (.node [] [] .nil (.node [] [] .nil (.node [] [] (.node [] [] .nil (.node [9, 10] [(4, 4), (9, 16), (71, 115)] (.node [] [] (.node [] [] .nil (.node [] [] .nil .nil)) (.cut [9] [(4, 4), (9, 9), (11, 16), (77, 115)] (.node [] [] .nil (.node [] [] .nil (.cut [] [(4, 4), (89, 100)] (.node [] [] .nil (.node [] [] (.node [] [] .nil .nil) .nil)) (.node [] [] .nil .nil)))) .nil)) .nil)) (.node [] [] .nil .nil))))))))) good mixed Try.func4 (by kernel_rfl) (by kernel_rfl) (by kernel_rfl) (by kernel_rfl) (Eq.mp (S4_eq v0 v1 K w) h)

/-- rubric/rubriclaw12.BlocksCells -/
def S5 (v0 : Value) (K : Cont) (w : World) : Prop :=
  lenK v0 fun t9 =>
  gtK .i64 t9 (.int .i64 500) fun t10 =>
  condK t10
  (callK Try.prog 14 [] (fun t11 w1 =>
  K t11 w1) w)
  (lenK v0 fun t13 =>
  LoopK [(.int .i64 0)] (fun vs again w2 => ∀ _h : Env,
  ltK .i64 (nth vs 0) t13 fun t15 =>
  condK t15
  (ixK 2 v0 (nth vs 0) fun t19 =>
  faK 1 t19 fun t20 =>
  ld1K t20 (fun t21 w3 =>
  lenK t21 fun t22 =>
  gtK .i64 t22 (.int .i64 30) fun t23 =>
  condK t23
  (callK Try.prog 14 [] (fun t24 w4 =>
  K t24 w4) w3)
  (addK .i64 (nth vs 0) (.int .i64 1) fun t25 =>
  again [t25] w3)) w2)
  (callK Try.prog 15 [v0] (fun t27 w5 =>
  JoinK (fun _vs_1 w6 => ∀ _h_1 : Env,
  lenK v0 fun t46 =>
  LoopK [(.int .i64 0)] (fun vs_2 again_1 w7 => ∀ _h_2 : Env,
  ltK .i64 (nth vs_2 0) t46 fun t48 =>
  condK t48
  (JoinK (fun _vs_3 w8 => ∀ _h_3 : Env,
  addK .i64 (nth vs_2 0) (.int .i64 1) fun t89 =>
  again_1 [t89] w8) (fun J_1 =>
  callK Try.prog 20 [t27, (nth vs_2 0)] (fun t53 w9 =>
  extK 0 t53 fun t54 =>
  extK 1 t53 fun t55 =>
  notK t55 fun t57 =>
  condK t57
  (K (.bool false) w9)
  (ixK 2 v0 (nth vs_2 0) fun t61 =>
  faK 0 t61 fun t62 =>
  ld1K t62 (fun t63 w10 =>
  eqK .i32 t63 (.int .i32 10) fun t64 =>
  condK t64
  (lenK t54 fun t67 =>
  neK .i64 t67 (.int .i64 0) fun t68 =>
  condK t68
  (K (.bool false) w10)
  (ixK 2 v0 (nth vs_2 0) fun t74 =>
  faK 0 t74 fun t75 =>
  ld1K t75 (fun t76 w11 =>
  neK .i32 t76 (.int .i32 10) fun t77 =>
  condK t77
  (ixK 2 v0 (nth vs_2 0) fun t82 =>
  faK 1 t82 fun t83 =>
  ld1K t83 (fun t84 w12 =>
  callK Try.prog 21 [t54, t84] (fun t85 w13 =>
  notK t85 fun t86 =>
  condK t86
  (K (.bool false) w13)
  (J_1 [] w13)) w12) w11)
  (J_1 [] w11)) w10))
  (ixK 2 v0 (nth vs_2 0) fun t74_1 =>
  faK 0 t74_1 fun t75_1 =>
  ld1K t75_1 (fun t76_1 w14 =>
  neK .i32 t76_1 (.int .i32 10) fun t77_1 =>
  condK t77_1
  (ixK 2 v0 (nth vs_2 0) fun t82_1 =>
  faK 1 t82_1 fun t83_1 =>
  ld1K t83_1 (fun t84_1 w15 =>
  callK Try.prog 21 [t54, t84_1] (fun t85_1 w16 =>
  notK t85_1 fun t86_1 =>
  condK t86_1
  (K (.bool false) w16)
  (J_1 [] w16)) w15) w14)
  (J_1 [] w14)) w10)) w9)) w7))
  (callK Try.prog 14 [] (fun t90 w17 =>
  K t90 w17) w7)) w6) (fun J =>
  callK Try.prog 22 [v0] (fun t30 w18 =>
  callK Try.prog 16 [t27, t30] (fun t31 w19 =>
  notK t31 fun t32 =>
  condK t32
  (K (.bool false) w19)
  (callK Try.prog 23 [t27] (fun t35 w20 =>
  notK t35 fun t36 =>
  condK t36
  (K (.bool false) w20)
  (callK Try.prog 19 [t27] (fun t40 w21 =>
  lenK v0 fun t42 =>
  neK .i64 t40 t42 fun t43 =>
  condK t43
  (K (.bool false) w21)
  (J [] w21)) w20)) w19)) w18) w5)) w2)) w)
theorem S5_eq (v0 : Value) (K : Cont) (w : World) : S5 v0 K w = D Try.prog okf 91 (bodyOf Try.f5) (.node [] [] .nil (.node [] [] (.node [] [] .nil (.node [] [] (.node [] [] .nil .nil) .nil)) (.node [] [] (.node [] [] .nil (.node [14] [(2, 3), (14, 25)] (.node [] [] .nil (.node [] [] (.node [] [] .nil .nil) (.node [] [] (.node [] [] .nil (.node [] [] .nil (.node [] [] (.node [] [] .nil .nil) .nil))) .nil))) .nil)) (.node [] [] .nil (.cut [] [(2, 2), (28, 44)] (.node [] [] .nil (.node [] [] (.node [] [] .nil .nil) .nil)) (.node [] [] (.node [] [] .nil (.node [47] [(2, 2), (5, 7), (47, 89)] (.node [] [] .nil (.node [] [] (.node [] [] .nil .nil) (.cut [] [(2, 2), (5, 7), (49, 88)] (.node [] [] .nil (.node [] [] .nil (.node [] [] .nil (.node [] [] (.node [] [] .nil .nil) .nil)))) .nil))) .nil)) (.node [] [] .nil .nil))))))) (retK Try.prog [.tmp 2] K) (nth [v0]) w := by kernel_rfl
theorem S5_ok {v0 : Value} {K : Cont} {w : World} (h : S5 v0 K w) : callK Try.prog 5 [v0] K w :=
  callK_of (P := Try.prog) (ok := okf) (n := 91) (fn := Try.f5) (c := bodyOf Try.f5) (rs := [.tmp 2]) (an := (.node [] [] .nil (.node [] [] (.node [] [] .nil (.node [] [] (.node [] [] .nil .nil) .nil)) (.node [] [] (.node [] [] .nil (.node [14] [(2, 3), (14, 25)] (.node [] [] .nil (.node [] [] (.node [] [] .nil .nil) (.node [] [] (.node [] [] .nil (.node [] [] .nil (.node [] [] (.node [] [] .nil .nil) .nil))) .nil))) .nil)) (.node [] [] .nil (.cut [] [(2, 2), (28, 44)] (.node [] [] .nil (.node [] [] (.node [] [] .nil .nil) .nil)) (.node [] [] (.node [] [] .nil (.node [47] [(2, 2), (5, 7), (47, 89)] (.node [] [] .nil (.node [] [] (.node [] [] .nil .nil) (.cut [] [(2, 2), (5, 7), (49, 88)] (.node [] [] .nil (.node [] [] .nil (.node [] [] .nil (.node [] [] (.node [] [] .nil .nil) .nil)))) .nil))) .nil)) (.node [] [] .nil .nil)))))))) good mixed Try.func5 (by kernel_rfl) (by kernel_rfl) (by kernel_rfl) (by kernel_rfl) (Eq.mp (S5_eq v0 K w) h)

/-- rubric/rubriclaw12.BlocksCuts -/
def S6 (v0 v1 v2 v3 : Value) (K : Cont) (w : World) : Prop :=
  callK Try.prog 18 [v0] (fun t14 w1 =>
  notK t14 fun t15 =>
  condK t15
  (callK Try.prog 14 [] (fun t16 w2 =>
  K t16 w2) w1)
  (callK Try.prog 19 [v0] (fun t18 w3 =>
  ltK .i64 t18 (.int .i64 0) fun t20 =>
  condK t20
  (K (.bool false) w3)
  (maxK .i64 v1 (.int .i64 0) fun t22 =>
  minK .i64 t22 t18 fun t24 =>
  maxK .i64 v2 (.int .i64 0) fun t26 =>
  minK .i64 t26 t18 fun t28 =>
  maxK .i64 v3 (.int .i64 0) fun t30 =>
  minK .i64 t30 t18 fun t32 =>
  callK Try.prog 17 [v0] (fun t34 w4 =>
  callK Try.prog 24 [v0, (.int .i64 0), t24] (fun t37 w5 =>
  callK Try.prog 24 [v0, t24, t18] (fun t41 w6 =>
  runK Try.prog (Builtin.append_ #[27, 27] 27 [t37, t41].toArray) (fun t42 w7 =>
  JoinK (fun _vs w8 => ∀ _h : Env,
  JoinK (fun vs_1 w9 => ∀ _h_1 : Env,
  callK Try.prog 24 [v0, (nth vs_1 0), (nth vs_1 1)] (fun t68 w10 =>
  callK Try.prog 19 [t68] (fun t70 w11 =>
  subK .i64 (nth vs_1 1) (nth vs_1 0) fun t73 =>
  eqK .i64 t70 t73 fun t74 =>
  condK t74
  (callK Try.prog 24 [t68, (.int .i64 0), t32] (fun t78 w12 =>
  addK .i64 (nth vs_1 0) t32 fun t83 =>
  minK .i64 t83 (nth vs_1 1) fun t85 =>
  callK Try.prog 24 [v0, (nth vs_1 0), t85] (fun t86 w13 =>
  callK Try.prog 16 [t78, t86] (fun t87 w14 =>
  condK t87
  (callK Try.prog 14 [] (fun t90 w15 =>
  K t90 w15) w14)
  (K (.bool false) w14)) w13) w12) w11)
  (K (.bool false) w11)) w10) w9) (fun J_1 =>
  gtK .i64 t24 t28 fun t62 =>
  condK t62
  (J_1 [t28, t24] w8)
  (J_1 [t24, t28] w8))) (fun J =>
  callK Try.prog 17 [t42] (fun t44 w16 =>
  callK Try.prog 16 [t44, t34] (fun t46 w17 =>
  notK t46 fun t47 =>
  condK t47
  (K (.bool false) w17)
  (callK Try.prog 17 [t34] (fun t50 w18 =>
  callK Try.prog 16 [t50, t34] (fun t52 w19 =>
  notK t52 fun t53 =>
  condK t53
  (K (.bool false) w19)
  (callK Try.prog 23 [t34] (fun t57 w20 =>
  notK t57 fun t58 =>
  condK t58
  (K (.bool false) w20)
  (J [] w20)) w19)) w18) w17)) w16) w7)) w6) w5) w4) w3)) w1)) w
theorem S6_eq (v0 v1 v2 v3 : Value) (K : Cont) (w : World) : S6 v0 v1 v2 v3 K w = D Try.prog okf 92 (bodyOf Try.f6) (.node [] [] .nil (.node [] [] (.node [] [] .nil (.node [] [] (.node [] [] .nil .nil) .nil)) (.node [] [] .nil (.node [] [] (.node [] [] .nil (.node [] [] (.node [] [] .nil .nil) .nil)) (.node [] [] .nil (.node [] [] .nil (.node [] [] .nil (.cut [] [(8, 8), (43, 59)] (.node [] [] .nil (.node [] [] (.node [] [] .nil .nil) .nil)) (.cut [1, 2] [(1, 2), (60, 64)] (.node [] [] .nil (.node [] [] .nil .nil)) (.node [] [] .nil (.node [] [] .nil .nil))))))))))) (retK Try.prog [.tmp 8] K) (nth [v0, v1, v2, v3]) w := by kernel_rfl
theorem S6_ok {v0 v1 v2 v3 : Value} {K : Cont} {w : World} (h : S6 v0 v1 v2 v3 K w) : callK Try.prog 6 [v0, v1, v2, v3] K w :=
  callK_of (P := Try.prog) (ok := okf) (n := 92) (fn := Try.f6) (c := bodyOf Try.f6) (rs := [.tmp 8]) (an := (.node [] [] .nil (.node [] [] (.node [] [] .nil (.node [] [] (.node [] [] .nil .nil) .nil)) (.node [] [] .nil (.node [] [] (.node [] [] .nil (.node [] [] (.node [] [] .nil .nil) .nil)) (.node [] [] .nil (.node [] [] .nil (.node [] [] .nil (.cut [] [(8, 8), (43, 59)] (.node [] [] .nil (.node [] [] (.node [] [] .nil .nil) .nil)) (.cut [1, 2] [(1, 2), (60, 64)] (.node [] [] .nil (.node [] [] .nil .nil)) (.node [] [] .nil (.node [] [] .nil .nil)))))))))))) good mixed Try.func6 (by kernel_rfl) (by kernel_rfl) (by kernel_rfl) (by kernel_rfl) (Eq.mp (S6_eq v0 v1 v2 v3 K w) h)

/-- rubric/rubriclaw12.BlocksRows -/
def S7 (v0 v1 v2 : Value) (K : Cont) (w : World) : Prop :=
  callK Try.prog 18 [v0] (fun t21 w1 =>
  notK t21 fun t22 =>
  condK t22
  (lenK v0 fun t24 =>
  ltK .i64 t24 (.int .i64 1000) fun t25 =>
  condK t25
  (callK Try.prog 23 [v0] (fun _t27 w2 =>
  callK Try.prog 20 [v0, v1] (fun _t30 w3 =>
  callK Try.prog 19 [v0] (fun _t32 w4 =>
  callK Try.prog 14 [] (fun t33 w5 =>
  K t33 w5) w4) w3) w2) w1)
  (callK Try.prog 14 [] (fun t33_1 w6 =>
  K t33_1 w6) w1))
  (callK Try.prog 25 [v0] (fun t35 w7 =>
  callK Try.prog 17 [t35] (fun t37 w8 =>
  callK Try.prog 24 [t35, v1, v2] (fun t41 w9 =>
  callK Try.prog 26 [v0] (fun t43 w10 =>
  callK Try.prog 27 [v0, v1, v2] (fun t47 w11 =>
  JoinK (fun _vs w12 => ∀ _h : Env,
  callK Try.prog 20 [t35, v1] (fun t75 w13 =>
  extK 0 t75 fun t76 =>
  extK 1 t75 fun t77 =>
  addK .i64 v1 (.int .i64 1) fun t81 =>
  callK Try.prog 27 [v0, v1, t81] (fun t82 w14 =>
  JoinK (fun vs_1 w15 => ∀ _h_1 : Env,
  JoinK (fun _vs_2 w16 => ∀ _h_2 : Env,
  lenK t76 fun t112 =>
  LoopK [(.int .i64 0)] (fun vs_3 again w17 => ∀ _h_3 : Env,
  ltK .i64 (nth vs_3 0) t112 fun t114 =>
  condK t114
  (ixK 5 t76 (nth vs_3 0) fun t118 =>
  faK 0 t118 fun t119 =>
  st1K t119 (.int .i64 (-3)) (fun w18 =>
  addK .i64 (nth vs_3 0) (.int .i64 1) fun t120 =>
  again [t120] w18) w17)
  (runK Try.prog (Instr.build 47 [(0, t37), (1, t41)].toArray) (fun t123 w19 =>
  LoopK [(.int .i64 0)] (fun vs_4 again_1 w20 => ∀ _h_4 : Env,
  ltK .i64 (nth vs_4 0) (.int .i64 2) fun t125 =>
  condK t125
  (runK Try.prog (Instr.index 47 t123 (nth vs_4 0)) (fun t126 w21 =>
  lenK t126 fun t128 =>
  LoopK [(.int .i64 0)] (fun vs_5 again_2 w22 => ∀ _h_5 : Env,
  ltK .i64 (nth vs_5 0) t128 fun t130 =>
  condK t130
  (ixK 2 t126 (nth vs_5 0) fun t134 =>
  faK 1 t134 fun t135 =>
  ld1K t135 (fun t136 w23 =>
  lenK t136 fun t137 =>
  LoopK [(.int .i64 0)] (fun vs_6 again_3 w24 => ∀ _h_6 : Env,
  ltK .i64 (nth vs_6 0) t137 fun t139 =>
  condK t139
  (ixK 2 t126 (nth vs_5 0) fun t143 =>
  faK 1 t143 fun t144 =>
  ld1K t144 (fun t145 w25 =>
  ixK 5 t145 (nth vs_6 0) fun t147 =>
  faK 0 t147 fun t148 =>
  st1K t148 (.int .i64 (-4)) (fun w26 =>
  addK .i64 (nth vs_6 0) (.int .i64 1) fun t149 =>
  again_3 [t149] w26) w25) w24)
  (ixK 2 t126 (nth vs_5 0) fun t152 =>
  faK 0 t152 fun t153 =>
  st1K t153 (.int .i64 (-1)) (fun w27 =>
  addK .i64 (nth vs_5 0) (.int .i64 1) fun t154 =>
  again_2 [t154] w27) w24)) w23) w22)
  (addK .i64 (nth vs_4 0) (.int .i64 1) fun t155 =>
  again_1 [t155] w22)) w21) w20)
  (callK Try.prog 16 [t35, v0] (fun t158 w28 =>
  condK t158
  (callK Try.prog 14 [] (fun t160 w29 =>
  K t160 w29) w28)
  (K (.bool false) w28)) w20)) w19) w17)) w16) (fun J_2 =>
  lenK (nth vs_1 0) fun t87 =>
  eqK .i64 t87 (.int .i64 1) fun t88 =>
  bneK t77 t88 fun t89 =>
  condK t89
  (K (.bool false) w15)
  (condK t77
  (ixK 2 (nth vs_1 0) (.int .i64 0) fun t95 =>
  faK 1 t95 fun t96 =>
  ld1K t96 (fun t97 w30 =>
  callK Try.prog 21 [t76, t97] (fun t98 w31 =>
  notK t98 fun t99 =>
  condK t99
  (K (.bool false) w31)
  (notK t77 fun t104 =>
  condK t104
  (lenK t76 fun t107 =>
  neK .i64 t107 (.int .i64 0) fun t108 =>
  condK t108
  (K (.bool false) w31)
  (J_2 [] w31))
  (J_2 [] w31))) w30) w15)
  (notK t77 fun t104_1 =>
  condK t104_1
  (lenK t76 fun t107_1 =>
  neK .i64 t107_1 (.int .i64 0) fun t108_1 =>
  condK t108_1
  (K (.bool false) w15)
  (J_2 [] w15))
  (J_2 [] w15))))) (fun J_1 =>
  eqK .i64 v1 (.int .i64 9223372036854775807) fun t84 =>
  condK t84
  (J_1 [(.slice none 0 0)] w14)
  (J_1 [t82] w14))) w13) w12) (fun J =>
  callK Try.prog 16 [t37, t43] (fun t50 w32 =>
  notK t50 fun t51 =>
  condK t51
  (K (.bool false) w32)
  (callK Try.prog 16 [t41, t47] (fun t55 w33 =>
  notK t55 fun t56 =>
  condK t56
  (K (.bool false) w33)
  (callK Try.prog 23 [t35] (fun t60 w34 =>
  callK Try.prog 28 [v0] (fun t62 w35 =>
  bneK t60 t62 fun t63 =>
  condK t63
  (K (.bool false) w35)
  (callK Try.prog 19 [t35] (fun t67 w36 =>
  callK Try.prog 29 [v0] (fun t69 w37 =>
  neK .i64 t67 t69 fun t70 =>
  condK t70
  (K (.bool false) w37)
  (J [] w37)) w36) w35)) w34) w33)) w32)) w11)) w10) w9) w8) w7) w1)) w
theorem S7_eq (v0 v1 v2 : Value) (K : Cont) (w : World) : S7 v0 v1 v2 K w = D Try.prog okf 162 (bodyOf Try.f7) (.node [] [] .nil (.node [] [] (.node [] [] .nil (.node [] [] (.node [] [] (.node [] [] .nil (.node [] [] (.node [] [] .nil (.node [] [] .nil .nil)) .nil)) (.node [] [] .nil .nil)) .nil)) (.node [] [] .nil (.node [] [] .nil (.node [] [] .nil (.cut [] [(6, 6), (48, 71)] (.node [] [] .nil (.node [] [] (.node [] [] .nil .nil) .nil)) (.node [] [] .nil (.node [] [] .nil (.cut [14] [(14, 14), (83, 84)] (.node [] [] .nil (.node [] [] .nil .nil)) (.cut [] [(6, 6), (85, 110)] (.node [] [] .nil (.node [] [] (.node [] [] .nil .nil) .nil)) (.node [] [] (.node [] [] .nil (.node [113] [(15, 15), (113, 120)] (.node [] [] .nil (.node [] [] (.node [] [] .nil .nil) (.node [] [] (.node [] [] .nil .nil) .nil))) .nil)) (.node [] [] (.node [] [] .nil (.node [124] [(17, 19), (124, 155)] (.node [] [] .nil (.node [] [] (.node [] [] .nil .nil) (.node [] [] (.node [] [] .nil (.node [] [] .nil (.node [129] [(18, 19), (129, 154)] (.node [] [] .nil (.node [] [] (.node [] [] .nil .nil) (.node [] [] (.node [] [] .nil (.node [] [] (.node [] [] .nil (.node [138] [(19, 19), (138, 149)] (.node [] [] .nil (.node [] [] (.node [] [] .nil .nil) (.node [] [] (.node [] [] .nil .nil) .nil))) .nil)) .nil)) .nil))) .nil))) .nil))) .nil)) (.node [] [] .nil .nil))))))))))))) (retK Try.prog [.tmp 6] K) (nth [v0, v1, v2]) w := by kernel_rfl
theorem S7_ok {v0 v1 v2 : Value} {K : Cont} {w : World} (h : S7 v0 v1 v2 K w) : callK Try.prog 7 [v0, v1, v2] K w :=
  callK_of (P := Try.prog) (ok := okf) (n := 162) (fn := Try.f7) (c := bodyOf Try.f7) (rs := [.tmp 6]) (an := (.node [] [] .nil (.node [] [] (.node [] [] .nil (.node [] [] (.node [] [] (.node [] [] .nil (.node [] [] (.node [] [] .nil (.node [] [] .nil .nil)) .nil)) (.node [] [] .nil .nil)) .nil)) (.node [] [] .nil (.node [] [] .nil (.node [] [] .nil (.cut [] [(6, 6), (48, 71)] (.node [] [] .nil (.node [] [] (.node [] [] .nil .nil) .nil)) (.node [] [] .nil (.node [] [] .nil (.cut [14] [(14, 14), (83, 84)] (.node [] [] .nil (.node [] [] .nil .nil)) (.cut [] [(6, 6), (85, 110)] (.node [] [] .nil (.node [] [] (.node [] [] .nil .nil) .nil)) (.node [] [] (.node [] [] .nil (.node [113] [(15, 15), (113, 120)] (.node [] [] .nil (.node [] [] (.node [] [] .nil .nil) (.node [] [] (.node [] [] .nil .nil) .nil))) .nil)) (.node [] [] (.node [] [] .nil (.node [124] [(17, 19), (124, 155)] (.node [] [] .nil (.node [] [] (.node [] [] .nil .nil) (.node [] [] (.node [] [] .nil (.node [] [] .nil (.node [129] [(18, 19), (129, 154)] (.node [] [] .nil (.node [] [] (.node [] [] .nil .nil) (.node [] [] (.node [] [] .nil (.node [] [] (.node [] [] .nil (.node [138] [(19, 19), (138, 149)] (.node [] [] .nil (.node [] [] (.node [] [] .nil .nil) (.node [] [] (.node [] [] .nil .nil) .nil))) .nil)) .nil)) .nil))) .nil))) .nil))) .nil)) (.node [] [] .nil .nil)))))))))))))) good mixed Try.func7 (by kernel_rfl) (by kernel_rfl) (by kernel_rfl) (by kernel_rfl) (Eq.mp (S7_eq v0 v1 v2 K w) h)

/-- rubric/rubriclaw12.known -/
def S14 (K : Cont) (w : World) : Prop :=
  buildK [(0, 1), (1, 1), (2, 1), (3, 1)] [(.int .u8 0), (.int .i64 0), (.int .u64 0), (.string (ByteArray.mk #[]))] [(0, (.int .u8 1)), (1, (.int .i64 1))] fun t4 =>
  buildK [(0, 1), (1, 4)] [(.int .i64 0), (.int .u8 0), (.int .i64 0), (.int .u64 0), (.string (ByteArray.mk #[]))] [(0, (.int .i64 1)), (1, t4)] fun t5 =>
  rowK 46 5 1 [(.int .i64 0), (.int .u8 0), (.int .i64 0), (.int .u64 0), (.string (ByteArray.mk #[]))] [(0, t5)] (fun t6 w1 =>
  buildK [(0, 1), (1, 1)] [(.int .i64 0), (.slice none 0 0)] [(0, (.int .i64 2)), (1, t6)] fun t8 =>
  buildK [(0, 1), (1, 1)] [(.int .i64 0), (.slice none 0 0)] [(0, (.int .i64 0))] fun t9 =>
  buildK [(0, 1), (1, 1)] [(.int .i64 0), (.slice none 0 0)] [(0, (.int .i64 3)), (1, t6)] fun t11 =>
  rowK 34 2 3 [(.int .i64 0), (.slice none 0 0)] [(0, t8), (1, t9), (2, t11)] (fun t12 w2 =>
  callK Try.prog 17 [t12] (fun t13 w3 =>
  buildK [(0, 1), (1, 1)] [(.int .i32 0), (.slice none 0 0)] [(0, (.int .i32 97)), (1, t6)] fun t15 =>
  buildK [(0, 1), (1, 1)] [(.int .i32 0), (.slice none 0 0)] [(0, (.int .i32 98)), (1, t6)] fun t17 =>
  buildK [(0, 1), (1, 1)] [(.int .i32 0), (.slice none 0 0)] [(0, (.int .i32 10))] fun t18 =>
  buildK [(0, 1), (1, 1)] [(.int .i32 0), (.slice none 0 0)] [(0, (.int .i32 99))] fun t19 =>
  rowK 26 2 4 [(.int .i32 0), (.slice none 0 0)] [(0, t15), (1, t17), (2, t18), (3, t19)] (fun t20 w4 =>
  callK Try.prog 15 [t20] (fun t21 w5 =>
  lenK t13 fun t23 =>
  eqK .i64 t23 (.int .i64 1) fun t24 =>
  condK t24
  (ixK 2 t13 (.int .i64 0) fun t27 =>
  faK 0 t27 fun t28 =>
  ld1K t28 (fun t29 w6 =>
  eqK .i64 t29 (.int .i64 5) fun t30 =>
  condK t30
  (lenK t21 fun t34 =>
  eqK .i64 t34 (.int .i64 2) fun t35 =>
  condK t35
  (ixK 2 t21 (.int .i64 1) fun t39 =>
  faK 0 t39 fun t40 =>
  ld1K t40 (fun t41 w7 =>
  eqK .i64 t41 (.int .i64 2) fun t42 =>
  condK t42
  (callK Try.prog 19 [t21] (fun t46 w8 =>
  eqK .i64 t46 (.int .i64 4) fun t47 =>
  K t47 w8) w7)
  (K (.bool false) w7)) w6)
  (K (.bool false) w6))
  (K (.bool false) w6)) w5)
  (K (.bool false) w5)) w4) w3) w2) w1) w
theorem S14_eq (K : Cont) (w : World) : S14  K w = D Try.prog okf 49 (bodyOf Try.f14) (.node [] [] .nil (.node [] [] .nil (.node [] [] .nil (.node [] [] .nil (.node [] [] .nil .nil))))) (retK Try.prog [.tmp 0] K) (nth []) w := by kernel_rfl
theorem S14_ok {K : Cont} {w : World} (h : S14  K w) : callK Try.prog 14 [] K w :=
  callK_of (P := Try.prog) (ok := okf) (n := 49) (fn := Try.f14) (c := bodyOf Try.f14) (rs := [.tmp 0]) (an := (.node [] [] .nil (.node [] [] .nil (.node [] [] .nil (.node [] [] .nil (.node [] [] .nil .nil)))))) good mixed Try.func14 (by kernel_rfl) (by kernel_rfl) (by kernel_rfl) (by kernel_rfl) (Eq.mp (S14_eq  K w) h)

/-- rubric/blocks.Of -/
def S15 (v0 : Value) (K : Cont) (w : World) : Prop :=
  lenK v0 fun t8 =>
  LoopK [(.slice none 0 0), (.int .i64 0)] (fun vs again w1 => ∀ _h : Env,
  ltK .i64 (nth vs 1) t8 fun t10 =>
  condK t10
  (ixK 2 v0 (nth vs 1) fun t11 =>
  ldnK 2 t11 (fun t12 w2 =>
  newK 26 [(.int .i32 0), (.slice none 0 0)] (fun t5 w3 =>
  stnK 2 t5 t12 (fun w4 =>
  faK 1 t5 fun t13 =>
  ld1K t13 (fun t14 w5 =>
  faK 0 t5 fun t15 =>
  ld1K t15 (fun t16 w6 =>
  eqK .i32 t16 (.int .i32 10) fun t17 =>
  condK t17
  (callK Try.prog 51 [(nth vs 0), (.int .i64 1), (.slice none 0 0)] (fun t20 w7 =>
  addK .i64 (nth vs 1) (.int .i64 1) fun t21 =>
  again [t20, t21] w7) w6)
  (callK Try.prog 51 [(nth vs 0), (.int .i64 1), t14] (fun t20_1 w8 =>
  addK .i64 (nth vs 1) (.int .i64 1) fun t21_1 =>
  again [t20_1, t21_1] w8) w6)) w5) w4) w3) w2) w1)
  (K (nth vs 0) w1)) w
theorem S15_eq (v0 : Value) (K : Cont) (w : World) : S15 v0 K w = D Try.prog okf 23 (bodyOf Try.f15) (.node [] [] .nil (.node [] [] .nil (.node [] [] (.node [] [] .nil (.node [3, 9] [(3, 3), (5, 6), (9, 21)] (.node [] [] .nil (.node [] [] (.node [] [] .nil .nil) (.node [] [] (.node [] [] .nil (.node [] [] .nil (.node [] [] (.node [] [] .nil (.node [] [] .nil .nil)) .nil))) .nil))) .nil)) (.node [] [] .nil .nil)))) (retK Try.prog [.tmp 2] K) (nth [v0]) w := by kernel_rfl
theorem S15_ok {v0 : Value} {K : Cont} {w : World} (h : S15 v0 K w) : callK Try.prog 15 [v0] K w :=
  callK_of (P := Try.prog) (ok := okf) (n := 23) (fn := Try.f15) (c := bodyOf Try.f15) (rs := [.tmp 2]) (an := (.node [] [] .nil (.node [] [] .nil (.node [] [] (.node [] [] .nil (.node [3, 9] [(3, 3), (5, 6), (9, 21)] (.node [] [] .nil (.node [] [] (.node [] [] .nil .nil) (.node [] [] (.node [] [] .nil (.node [] [] .nil (.node [] [] (.node [] [] .nil (.node [] [] .nil .nil)) .nil))) .nil))) .nil)) (.node [] [] .nil .nil))))) good mixed Try.func15 (by kernel_rfl) (by kernel_rfl) (by kernel_rfl) (by kernel_rfl) (Eq.mp (S15_eq v0 K w) h)

/-- rubric/rubricref12.Same -/
def S16 (v0 v1 : Value) (K : Cont) (w : World) : Prop :=
  lenK v0 fun t7 =>
  lenK v1 fun t9 =>
  neK .i64 t7 t9 fun t10 =>
  condK t10
  (K (.bool false) w)
  (LoopK [(.int .i64 0)] (fun vs again w1 => ∀ _h : Env,
  lenK v0 fun t13 =>
  ltK .i64 (nth vs 0) t13 fun t14 =>
  condK t14
  (DrawK w1 (fun C =>
  ixK 2 v0 (nth vs 0) fun t19 =>
  faK 0 t19 fun t20 =>
  qld1K C t20 fun t21 =>
  ixK 2 v1 (nth vs 0) fun t24 =>
  faK 0 t24 fun t25 =>
  qld1K C t25 fun t26 =>
  neK .i64 t21 t26 fun t27 =>
  condK t27
  (∀ w2 : World, C w2 →
  K (.bool false) w2)
  (ixK 2 v0 (nth vs 0) fun t31 =>
  faK 1 t31 fun t32 =>
  qld1K C t32 fun t33 =>
  ixK 2 v1 (nth vs 0) fun t36 =>
  faK 1 t36 fun t37 =>
  qld1K C t37 fun t38 =>
  qcallK Try.prog C 21 [t33, t38] fun t39 =>
  notK t39 fun t40 =>
  ∀ w3 : World, C w3 →
  condK t40
  (K (.bool false) w3)
  (addK .i64 (nth vs 0) (.int .i64 1) fun t16_1 =>
  again [t16_1] w3))))
  (K (.bool true) w1)) w)
theorem S16_eq (v0 v1 : Value) (K : Cont) (w : World) : S16 v0 v1 K w = D Try.prog okf 42 (bodyOf Try.f16) (.node [] [] .nil (.node [] [] (.node [] [] .nil (.node [] [] (.node [] [] .nil .nil) .nil)) (.node [] [] (.node [] [] .nil (.node [5] [(4, 5), (11, 41)] (.node [] [] (.node [] [] .nil (.node [] [] .nil .nil)) (.node [] [] (.node [] [] .draw (.node [] [] (.node [] [] .nil .nil) .nil)) .nil)) .nil)) (.node [] [] .nil .nil)))) (retK Try.prog [.tmp 4] K) (nth [v0, v1]) w := by kernel_rfl
theorem S16_ok {v0 v1 : Value} {K : Cont} {w : World} (h : S16 v0 v1 K w) : callK Try.prog 16 [v0, v1] K w :=
  callK_of (P := Try.prog) (ok := okf) (n := 42) (fn := Try.f16) (c := bodyOf Try.f16) (rs := [.tmp 4]) (an := (.node [] [] .nil (.node [] [] (.node [] [] .nil (.node [] [] (.node [] [] .nil .nil) .nil)) (.node [] [] (.node [] [] .nil (.node [5] [(4, 5), (11, 41)] (.node [] [] (.node [] [] .nil (.node [] [] .nil .nil)) (.node [] [] (.node [] [] .draw (.node [] [] (.node [] [] .nil .nil) .nil)) .nil)) .nil)) (.node [] [] .nil .nil))))) good mixed Try.func16 (by kernel_rfl) (by kernel_rfl) (by kernel_rfl) (by kernel_rfl) (Eq.mp (S16_eq v0 v1 K w) h)

/-- rubric/blocks.Join -/
def S17 (v0 : Value) (K : Cont) (w : World) : Prop :=
  lenK v0 fun t7 =>
  LoopK [(.slice none 0 0), (.int .i64 0)] (fun vs again w1 => ∀ _h : Env,
  ltK .i64 (nth vs 1) t7 fun t9 =>
  condK t9
  (ixK 2 v0 (nth vs 1) fun t10 =>
  ldnK 2 t10 (fun t11 w2 =>
  newK 34 [(.int .i64 0), (.slice none 0 0)] (fun t5 w3 =>
  stnK 2 t5 t11 (fun w4 =>
  faK 0 t5 fun t13 =>
  ld1K t13 (fun t14 w5 =>
  faK 1 t5 fun t15 =>
  ld1K t15 (fun t16 w6 =>
  callK Try.prog 51 [(nth vs 0), t14, t16] (fun t17 w7 =>
  addK .i64 (nth vs 1) (.int .i64 1) fun t18 =>
  again [t17, t18] w7) w6) w5) w4) w3) w2) w1)
  (K (nth vs 0) w1)) w
theorem S17_eq (v0 : Value) (K : Cont) (w : World) : S17 v0 K w = D Try.prog okf 20 (bodyOf Try.f17) (.node [] [] .nil (.node [] [] .nil (.node [] [] (.node [] [] .nil (.node [3, 8] [(3, 3), (5, 5), (8, 18)] (.node [] [] .nil (.node [] [] (.node [] [] .nil .nil) (.node [] [] (.node [] [] .nil .nil) .nil))) .nil)) (.node [] [] .nil .nil)))) (retK Try.prog [.tmp 2] K) (nth [v0]) w := by kernel_rfl
theorem S17_ok {v0 : Value} {K : Cont} {w : World} (h : S17 v0 K w) : callK Try.prog 17 [v0] K w :=
  callK_of (P := Try.prog) (ok := okf) (n := 20) (fn := Try.f17) (c := bodyOf Try.f17) (rs := [.tmp 2]) (an := (.node [] [] .nil (.node [] [] .nil (.node [] [] (.node [] [] .nil (.node [3, 8] [(3, 3), (5, 5), (8, 18)] (.node [] [] .nil (.node [] [] (.node [] [] .nil .nil) (.node [] [] (.node [] [] .nil .nil) .nil))) .nil)) (.node [] [] .nil .nil))))) good mixed Try.func17 (by kernel_rfl) (by kernel_rfl) (by kernel_rfl) (by kernel_rfl) (Eq.mp (S17_eq v0 K w) h)

/-- rubric/rubriclaw12.tame -/
def S18 (v0 : Value) (K : Cont) (w : World) : Prop :=
  lenK v0 fun t5 =>
  gtK .i64 t5 (.int .i64 200) fun t6 =>
  condK t6
  (K (.bool false) w)
  (lenK v0 fun t8 =>
  LoopK [(.int .i64 0)] (fun vs again w1 => ∀ _h : Env,
  ltK .i64 (nth vs 0) t8 fun t10 =>
  condK t10
  (ixK 2 v0 (nth vs 0) fun t14 =>
  faK 0 t14 fun t15 =>
  ld1K t15 (fun t16 w2 =>
  ltK .i64 t16 (.int .i64 0) fun t17 =>
  condK t17
  (K (.bool false) w2)
  (ixK 2 v0 (nth vs 0) fun t21 =>
  faK 0 t21 fun t22 =>
  ld1K t22 (fun t23 w3 =>
  gtK .i64 t23 (.int .i64 1099511627776) fun t24 =>
  condK t24
  (K (.bool false) w3)
  (ixK 2 v0 (nth vs 0) fun t29 =>
  faK 1 t29 fun t30 =>
  ld1K t30 (fun t31 w4 =>
  lenK t31 fun t32 =>
  gtK .i64 t32 (.int .i64 30) fun t33 =>
  condK t33
  (K (.bool false) w4)
  (addK .i64 (nth vs 0) (.int .i64 1) fun t35_2 =>
  again [t35_2] w4)) w3)) w2)) w1)
  (K (.bool true) w1)) w)
theorem S18_eq (v0 : Value) (K : Cont) (w : World) : S18 v0 K w = D Try.prog okf 36 (bodyOf Try.f18) (.node [] [] .nil (.node [] [] (.node [] [] .nil (.node [] [] (.node [] [] .nil .nil) .nil)) (.node [] [] (.node [] [] .nil (.node [9] [(2, 3), (9, 35)] (.node [] [] .nil (.node [] [] (.node [] [] .nil .nil) (.node [] [] (.node [] [] .nil (.node [] [] .nil (.node [] [] (.node [] [] .nil .nil) .nil))) .nil))) .nil)) (.node [] [] .nil .nil)))) (retK Try.prog [.tmp 2] K) (nth [v0]) w := by kernel_rfl
theorem S18_ok {v0 : Value} {K : Cont} {w : World} (h : S18 v0 K w) : callK Try.prog 18 [v0] K w :=
  callK_of (P := Try.prog) (ok := okf) (n := 36) (fn := Try.f18) (c := bodyOf Try.f18) (rs := [.tmp 2]) (an := (.node [] [] .nil (.node [] [] (.node [] [] .nil (.node [] [] (.node [] [] .nil .nil) .nil)) (.node [] [] (.node [] [] .nil (.node [9] [(2, 3), (9, 35)] (.node [] [] .nil (.node [] [] (.node [] [] .nil .nil) (.node [] [] (.node [] [] .nil (.node [] [] .nil (.node [] [] (.node [] [] .nil .nil) .nil))) .nil))) .nil)) (.node [] [] .nil .nil))))) good mixed Try.func18 (by kernel_rfl) (by kernel_rfl) (by kernel_rfl) (by kernel_rfl) (Eq.mp (S18_eq v0 K w) h)

/-- rubric/blocks.Len -/
def S19 (v0 : Value) (K : Cont) (w : World) : Prop :=
  newK 3 [(.int .i64 0)] (fun t3 w1 =>
  st1K t3 (.int .i64 0) (fun w2 =>
  callK Try.prog 52 [v0] (fun t7 w3 =>
  RangeK Try.prog okf t7 2 (fun args beg w4 =>
  newK 34 [(.int .i64 0), (.slice none 0 0)] (fun t5 w6 =>
  stnK 2 t5 (nth args 1) (fun w7 =>
  beg (fun post w5 =>
  faK 0 t5 fun t11 =>
  ld1K t11 (fun t12 w8 =>
  addK .i64 (nth args 0) t12 fun t13 =>
  st1K t3 t13 (fun w9 =>
  post .normal w9) w8) w5) w7) w6) w4) (nOf (fun w10 =>
  ld1K t3 (fun t14 w11 =>
  markK w3.heap.size (fun w12 =>
  K t14 w12) w11) w10) (fun w13 =>
  markK w3.heap.size (fun w14 =>
  K (.int .i64 0) w14) w13) []) w3) w2) w1) w
theorem S19_eq (v0 : Value) (K : Cont) (w : World) : S19 v0 K w = DM Try.prog okf 15 (bodyOf Try.f19) (.node [] [] .nil (.node [] [] .nil (.node [] [] (.node [] [] .nil (.node [] [] (.node [] [] .nil .nil) .nil)) (.node [] [] .nil .nil)))) (fun m => retMK Try.prog m [.tmp 2] K) (retK Try.prog [.tmp 2] K) (nth [v0]) w := by kernel_rfl
theorem S19_ok {v0 : Value} {K : Cont} {w : World} (h : S19 v0 K w) : callK Try.prog 19 [v0] K w :=
  callK_ofM (P := Try.prog) (ok := okf) (n := 15) (fn := Try.f19) (c := bodyOf Try.f19) (rs := [.tmp 2]) (an := (.node [] [] .nil (.node [] [] .nil (.node [] [] (.node [] [] .nil (.node [] [] (.node [] [] .nil .nil) .nil)) (.node [] [] .nil .nil))))) good mixed Try.func19 (by kernel_rfl) (by kernel_rfl) (by kernel_rfl) (by kernel_rfl) (Eq.mp (S19_eq v0 K w) h)

/-- rubric/blocks.At -/
def S20 (v0 v1 : Value) (K : Cont) (w : World) : Prop :=
  box1K 3 v1 (fun t3 w1 =>
  newK 24 [(.slice none 0 0)] (fun t4 w2 =>
  newK 4 [(.bool false)] (fun t5 w3 =>
  callK Try.prog 52 [v0] (fun t9 w4 =>
  RangeK Try.prog okf t9 2 (fun args beg w5 =>
  newK 34 [(.int .i64 0), (.slice none 0 0)] (fun t7 w7 =>
  stnK 2 t7 (nth args 1) (fun w8 =>
  beg (fun post w6 =>
  ld1K t3 (fun t12 w9 =>
  geK .i64 t12 (nth args 0) fun t14 =>
  condK t14
  (ld1K t3 (fun t16 w10 =>
  faK 0 t7 fun t18 =>
  ld1K t18 (fun t19 w11 =>
  addK .i64 (nth args 0) t19 fun t20 =>
  ltK .i64 t16 t20 fun t21 =>
  condK t21
  (faK 1 t7 fun t23 =>
  ld1K t23 (fun t24 w12 =>
  callK Try.prog 53 [t24] (fun t25 w13 =>
  st1K t4 t25 (fun w14 =>
  st1K t5 (.bool true) (fun w15 =>
  post .ret w15) w14) w13) w12) w11)
  (post .normal w11)) w10) w9)
  (post .normal w9)) w6) w8) w7) w5) (nOf (fun w20 =>
  st1K t4 (.slice none 0 0) (fun w21 =>
  st1K t5 (.bool false) (fun w22 =>
  markK w4.heap.size (fun w23 =>
  ld1K t4 (fun r0 w24 =>
  ld1K t5 (fun r1 w25 =>
  K (.tuple #[r0, r1]) w25) w24) w23) w22) w21) w20) (fun w26 =>
  markK w4.heap.size (fun w27 =>
  ld1K t4 (fun r0_1 w28 =>
  ld1K t5 (fun r1_1 w29 =>
  K (.tuple #[r0_1, r1_1]) w29) w28) w27) w26) []) w4) w3) w2) w1) w
theorem S20_eq (v0 v1 : Value) (K : Cont) (w : World) : S20 v0 v1 K w = DM Try.prog okf 26 (bodyOf Try.f20) (.node [] [] .nil (.node [] [] (.node [] [] .nil (.node [] [] (.node [] [] .nil .nil) (.node [] [] .nil (.node [] [] (.node [] [] .nil .nil) .nil)))) (.node [] [] .nil .nil))) (fun m => retMK Try.prog m [.cell 4 24, .cell 5 4] K) (retK Try.prog [.cell 4 24, .cell 5 4] K) (nth [v0, v1]) w := by kernel_rfl
theorem S20_ok {v0 v1 : Value} {K : Cont} {w : World} (h : S20 v0 v1 K w) : callK Try.prog 20 [v0, v1] K w :=
  callK_ofM (P := Try.prog) (ok := okf) (n := 26) (fn := Try.f20) (c := bodyOf Try.f20) (rs := [.cell 4 24, .cell 5 4]) (an := (.node [] [] .nil (.node [] [] (.node [] [] .nil (.node [] [] (.node [] [] .nil .nil) (.node [] [] .nil (.node [] [] (.node [] [] .nil .nil) .nil)))) (.node [] [] .nil .nil)))) good mixed Try.func20 (by kernel_rfl) (by kernel_rfl) (by kernel_rfl) (by kernel_rfl) (Eq.mp (S20_eq v0 v1 K w) h)

/-- rubric/rubricref05.Same -/
def S21 (v0 v1 : Value) (K : Cont) (w : World) : Prop :=
  lenK v0 fun t7 =>
  lenK v1 fun t9 =>
  neK .i64 t7 t9 fun t10 =>
  condK t10
  (K (.bool false) w)
  (LoopK [(.int .i64 0)] (fun vs again w1 => ∀ _h : Env,
  lenK v0 fun t13 =>
  ltK .i64 (nth vs 0) t13 fun t14 =>
  condK t14
  (DrawK w1 (fun C =>
  ixK 5 v0 (nth vs 0) fun t19 =>
  qldnK C 5 t19 fun t20 =>
  ixK 5 v1 (nth vs 0) fun t23 =>
  qldnK C 5 t23 fun t24 =>
  qrunK Try.prog C (binS .neq 46 (.tmp 20) (.tmp 24) t20 t24) fun t25 =>
  ∀ w2 : World, C w2 →
  condK t25
  (K (.bool false) w2)
  (addK .i64 (nth vs 0) (.int .i64 1) fun t16 =>
  again [t16] w2)))
  (K (.bool true) w1)) w)
theorem S21_eq (v0 v1 : Value) (K : Cont) (w : World) : S21 v0 v1 K w = D Try.prog okf 26 (bodyOf Try.f21) (.node [] [] .nil (.node [] [] (.node [] [] .nil (.node [] [] (.node [] [] .nil .nil) .nil)) (.node [] [] (.node [] [] .nil (.node [5] [(4, 5), (11, 25)] (.node [] [] (.node [] [] .nil (.node [] [] .nil .nil)) (.node [] [] (.node [] [] .draw (.node [] [] (.node [] [] .nil .nil) .nil)) .nil)) .nil)) (.node [] [] .nil .nil)))) (retK Try.prog [.tmp 4] K) (nth [v0, v1]) w := by kernel_rfl
theorem S21_ok {v0 v1 : Value} {K : Cont} {w : World} (h : S21 v0 v1 K w) : callK Try.prog 21 [v0, v1] K w :=
  callK_of (P := Try.prog) (ok := okf) (n := 26) (fn := Try.f21) (c := bodyOf Try.f21) (rs := [.tmp 4]) (an := (.node [] [] .nil (.node [] [] (.node [] [] .nil (.node [] [] (.node [] [] .nil .nil) .nil)) (.node [] [] (.node [] [] .nil (.node [5] [(4, 5), (11, 25)] (.node [] [] (.node [] [] .nil (.node [] [] .nil .nil)) (.node [] [] (.node [] [] .draw (.node [] [] (.node [] [] .nil .nil) .nil)) .nil)) .nil)) (.node [] [] .nil .nil))))) good mixed Try.func21 (by kernel_rfl) (by kernel_rfl) (by kernel_rfl) (by kernel_rfl) (Eq.mp (S21_eq v0 v1 K w) h)

/-- rubric/rubricref12.Of -/
def S22 (v0 : Value) (K : Cont) (w : World) : Prop :=
  LoopK [(.slice none 0 0), (.int .i64 0)] (fun vs again w1 => ∀ _h : Env,
  lenK v0 fun t7 =>
  ltK .i64 (nth vs 1) t7 fun t8 =>
  condK t8
  (ixK 2 v0 (nth vs 1) fun t13 =>
  faK 0 t13 fun t14 =>
  ld1K t14 (fun t15 w2 =>
  eqK .i32 t15 (.int .i32 10) fun t16 =>
  condK t16
  (callK Try.prog 54 [(nth vs 0), (.int .i64 1), (.slice none 0 0)] (fun t18 w3 =>
  addK .i64 (nth vs 1) (.int .i64 1) fun t10 =>
  again [t18, t10] w3) w2)
  (ixK 2 v0 (nth vs 1) fun t22 =>
  faK 1 t22 fun t23 =>
  ld1K t23 (fun t24 w4 =>
  callK Try.prog 54 [(nth vs 0), (.int .i64 1), t24] (fun t25 w5 =>
  addK .i64 (nth vs 1) (.int .i64 1) fun t10_1 =>
  again [t25, t10_1] w5) w4) w2)) w1)
  (K (nth vs 0) w1)) w
theorem S22_eq (v0 : Value) (K : Cont) (w : World) : S22 v0 K w = D Try.prog okf 27 (bodyOf Try.f22) (.node [] [] .nil (.node [] [] .nil (.node [] [] (.node [] [] .nil (.node [3, 4] [(3, 25)] (.node [] [] (.node [] [] .nil (.node [] [] .nil .nil)) (.node [] [] (.node [] [] .nil (.node [] [] .nil .nil)) .nil)) .nil)) (.node [] [] .nil .nil)))) (retK Try.prog [.tmp 2] K) (nth [v0]) w := by kernel_rfl
theorem S22_ok {v0 : Value} {K : Cont} {w : World} (h : S22 v0 K w) : callK Try.prog 22 [v0] K w :=
  callK_of (P := Try.prog) (ok := okf) (n := 27) (fn := Try.f22) (c := bodyOf Try.f22) (rs := [.tmp 2]) (an := (.node [] [] .nil (.node [] [] .nil (.node [] [] (.node [] [] .nil (.node [3, 4] [(3, 25)] (.node [] [] (.node [] [] .nil (.node [] [] .nil .nil)) (.node [] [] (.node [] [] .nil (.node [] [] .nil .nil)) .nil)) .nil)) (.node [] [] .nil .nil))))) good mixed Try.func22 (by kernel_rfl) (by kernel_rfl) (by kernel_rfl) (by kernel_rfl) (Eq.mp (S22_eq v0 K w) h)

/-- rubric/blocks.Proper -/
def S23 (v0 : Value) (K : Cont) (w : World) : Prop :=
  lenK v0 fun t6 =>
  LoopK [(.int .i64 0)] (fun vs again w1 => ∀ _h : Env,
  ltK .i64 (nth vs 0) t6 fun t8 =>
  condK t8
  (ixK 2 v0 (nth vs 0) fun t10 =>
  ldnK 2 t10 (fun t11 w2 =>
  newK 34 [(.int .i64 0), (.slice none 0 0)] (fun t4 w3 =>
  stnK 2 t4 t11 (fun w4 =>
  DrawK w4 (fun C =>
  faK 0 t4 fun t12 =>
  qld1K C t12 fun t13 =>
  leK .i64 t13 (.int .i64 0) fun t14 =>
  condK t14
  (∀ w5 : World, C w5 →
  K (.bool false) w5)
  (gtK .i64 (nth vs 0) (.int .i64 0) fun t17 =>
  condK t17
  (subK .i64 (nth vs 0) (.int .i64 1) fun t21 =>
  ixK 2 v0 t21 fun t22 =>
  faK 1 t22 fun t23 =>
  qld1K C t23 fun t24 =>
  faK 1 t4 fun t25 =>
  qld1K C t25 fun t26 =>
  qcallK Try.prog C 55 [t24, t26] fun t27 =>
  ∀ w6 : World, C w6 →
  condK t27
  (K (.bool false) w6)
  (addK .i64 (nth vs 0) (.int .i64 1) fun t30_1 =>
  again [t30_1] w6))
  (∀ w7 : World, C w7 →
  addK .i64 (nth vs 0) (.int .i64 1) fun t30_2 =>
  again [t30_2] w7)))) w3) w2) w1)
  (K (.bool true) w1)) w
theorem S23_eq (v0 : Value) (K : Cont) (w : World) : S23 v0 K w = D Try.prog okf 31 (bodyOf Try.f23) (.node [] [] .nil (.node [] [] (.node [] [] .nil (.node [7] [(2, 4), (7, 30)] (.node [] [] .nil (.node [] [] (.node [] [] .nil .nil) (.node [] [] (.node [] [] .nil (.node [] [] .draw (.node [] [] (.node [] [] .nil .nil) .nil))) .nil))) .nil)) (.node [] [] .nil .nil))) (retK Try.prog [.tmp 2] K) (nth [v0]) w := by kernel_rfl
theorem S23_ok {v0 : Value} {K : Cont} {w : World} (h : S23 v0 K w) : callK Try.prog 23 [v0] K w :=
  callK_of (P := Try.prog) (ok := okf) (n := 31) (fn := Try.f23) (c := bodyOf Try.f23) (rs := [.tmp 2]) (an := (.node [] [] .nil (.node [] [] (.node [] [] .nil (.node [7] [(2, 4), (7, 30)] (.node [] [] .nil (.node [] [] (.node [] [] .nil .nil) (.node [] [] (.node [] [] .nil (.node [] [] .draw (.node [] [] (.node [] [] .nil .nil) .nil))) .nil))) .nil)) (.node [] [] .nil .nil)))) good mixed Try.func23 (by kernel_rfl) (by kernel_rfl) (by kernel_rfl) (by kernel_rfl) (Eq.mp (S23_eq v0 K w) h)

/-- rubric/blocks.Cut -/
def S24 (v0 v1 v2 : Value) (K : Cont) (w : World) : Prop :=
  box1K 3 v1 (fun t4 w1 =>
  box1K 3 v2 (fun t5 w2 =>
  newK 27 [(.slice none 0 0)] (fun t7 w3 =>
  DrawC [5, 7, 8] [[], [0], [], [2], [], [4], [2, 3, 4, 5], [0, 1, 4, 5], [0, 1, 2, 3, 4, 5, 6, 7]] w3.drew (fun M St =>
  sld1 (St 0) t4 fun t10 =>
  maxK .i64 t10 (.int .i64 0) fun t11 =>
  sld1 (St 2) t5 fun t12 =>
  maxK .i64 t12 (.int .i64 0) fun t13 =>
  callK Try.prog 19 [v0] (fun t15 w4 =>
  Mod (M 5) w3.drew w4 ∧
  minK .i64 t13 t15 fun t16 =>
  st1K t4 t11 (fun w5 =>
  Mod (M 7) w4 w5 ∧
  st1K t5 t16 (fun w6 =>
  Mod (M 8) w5 w6 ∧
  callK Try.prog 52 [v0] (fun t18 w7 =>
  RangeK Try.prog okf t18 2 (fun args beg w8 =>
  newK 34 [(.int .i64 0), (.slice none 0 0)] (fun t9 w10 =>
  stnK 2 t9 (nth args 1) (fun w11 =>
  beg (fun post w9 =>
  ld1K t4 (fun t21 w12 =>
  ld1K t5 (fun t22 w13 =>
  geK .i64 t21 t22 fun t23 =>
  condK t23
  (post (.exit 0) w13)
  (ld1K t7 (fun t24 w14 =>
  faK 0 t9 fun t26 =>
  ld1K t26 (fun t27 w15 =>
  addK .i64 (nth args 0) t27 fun t28 =>
  ld1K t5 (fun t29 w16 =>
  minK .i64 t28 t29 fun t30 =>
  ld1K t4 (fun t32 w17 =>
  maxK .i64 (nth args 0) t32 fun t33 =>
  subK .i64 t30 t33 fun t34 =>
  faK 1 t9 fun t35 =>
  ld1K t35 (fun t36 w18 =>
  callK Try.prog 51 [t24, t34, t36] (fun t37 w19 =>
  st1K t7 t37 (fun w20 =>
  post .normal w20) w19) w18) w17) w16) w15) w14) w13)) w12) w9) w11) w10) w8) (nOf (fun w21 =>
  ld1K t7 (fun t38 w22 =>
  markK w7.heap.size (fun w23 =>
  K t38 w23) w22) w21) (fun w24 =>
  markK w7.heap.size (fun w25 =>
  K (.slice none 0 0) w25) w24) [(0, fun w26 =>
  ld1K t7 (fun t38_1 w27 =>
  markK w7.heap.size (fun w28 =>
  K t38_1 w28) w27) w26)]) w7) w6) w5) w4) w3.drew)) w2) w1) w
theorem S24_eq (v0 v1 v2 : Value) (K : Cont) (w : World) : S24 v0 v1 v2 K w = DM Try.prog okf 39 (bodyOf Try.f24) (.node [] [] .nil (.node [] [] .nil (.node [] [] (.dc [5, 7, 8] [[], [0], [], [2], [], [4], [2, 3, 4, 5], [0, 1, 4, 5], [0, 1, 2, 3, 4, 5, 6, 7]] [[5]]) (.node [] [] (.node [] [] .nil (.node [0] [] (.node [] [] .nil .nil) (.node [] [] (.node [] [] .nil (.node [] [] .nil .nil)) .nil))) (.node [] [] .nil .nil))))) (fun m => retMK Try.prog m [.tmp 6] K) (retK Try.prog [.tmp 6] K) (nth [v0, v1, v2]) w := by kernel_rfl
theorem S24_ok {v0 v1 v2 : Value} {K : Cont} {w : World} (h : S24 v0 v1 v2 K w) : callK Try.prog 24 [v0, v1, v2] K w :=
  callK_ofM (P := Try.prog) (ok := okf) (n := 39) (fn := Try.f24) (c := bodyOf Try.f24) (rs := [.tmp 6]) (an := (.node [] [] .nil (.node [] [] .nil (.node [] [] (.dc [5, 7, 8] [[], [0], [], [2], [], [4], [2, 3, 4, 5], [0, 1, 4, 5], [0, 1, 2, 3, 4, 5, 6, 7]] [[5]]) (.node [] [] (.node [] [] .nil (.node [0] [] (.node [] [] .nil .nil) (.node [] [] (.node [] [] .nil (.node [] [] .nil .nil)) .nil))) (.node [] [] .nil .nil)))))) good mixed Try.func24 (by kernel_rfl) (by kernel_rfl) (by kernel_rfl) (by kernel_rfl) (Eq.mp (S24_eq v0 v1 v2 K w) h)

/-- rubric/rubricref12.Copy -/
def S25 (v0 : Value) (K : Cont) (w : World) : Prop :=
  LoopK [(.slice none 0 0), (.int .i64 0)] (fun vs again w1 => ∀ _h : Env,
  lenK v0 fun t7 =>
  ltK .i64 (nth vs 1) t7 fun t8 =>
  condK t8
  (DrawC [6, 12, 14, 15] [[], [], [], [1, 2], [1, 2, 3], [1, 2, 3, 4], [], [], [], [7, 8], [7, 8, 9], [7, 8, 9, 10], [6, 7, 8, 9, 10, 11], [1, 2, 3, 4, 5, 6, 7, 8, 9, 10, 11, 12], [1, 2, 3, 4, 5, 6, 7, 8, 9, 10, 11, 12, 13], [0, 1, 2, 3, 4, 5, 6, 7, 8, 9, 10, 11, 12, 13, 14], [0, 1, 2, 3, 4, 5, 6, 7, 8, 9, 10, 11, 12, 13, 14, 15]] w1.drew (fun M St =>
  ixK 2 v0 (nth vs 1) fun t14 =>
  faK 0 t14 fun t15 =>
  sld1 (St 5) t15 fun t16 =>
  rowK 46 5 0 [] [] (fun t17 w2 =>
  Mod (M 6) w1.drew w2 ∧
  ixK 2 v0 (nth vs 1) fun t20 =>
  faK 1 t20 fun t21 =>
  sld1 (St 11) t21 fun t22 =>
  runK Try.prog (Builtin.append_ #[24, 24] 24 [t17, t22].toArray) (fun t23 w3 =>
  Mod (M 12) w2 w3 ∧
  buildK [(0, 1), (1, 1)] [(.int .i64 0), (.slice none 0 0)] [(0, t16), (1, t23)] fun t24 =>
  rowK 34 2 1 [(.int .i64 0), (.slice none 0 0)] [(0, t24)] (fun t25 w4 =>
  Mod (M 14) w3 w4 ∧
  runK Try.prog (Builtin.append_ #[27, 27] 27 [(nth vs 0), t25].toArray) (fun t26 w5 =>
  Mod (M 15) w4 w5 ∧
  addK .i64 (nth vs 1) (.int .i64 1) fun t10 =>
  again [t26, t10] w5) w4) w3) w2) w1.drew))
  (K (nth vs 0) w1)) w
theorem S25_eq (v0 : Value) (K : Cont) (w : World) : S25 v0 K w = D Try.prog okf 28 (bodyOf Try.f25) (.node [] [] .nil (.node [] [] .nil (.node [] [] (.node [] [] .nil (.node [3, 4] [(3, 26)] (.node [] [] (.node [] [] .nil (.node [] [] .nil .nil)) (.node [] [] (.dc [6, 12, 14, 15] [[], [], [], [1, 2], [1, 2, 3], [1, 2, 3, 4], [], [], [], [7, 8], [7, 8, 9], [7, 8, 9, 10], [6, 7, 8, 9, 10, 11], [1, 2, 3, 4, 5, 6, 7, 8, 9, 10, 11, 12], [1, 2, 3, 4, 5, 6, 7, 8, 9, 10, 11, 12, 13], [0, 1, 2, 3, 4, 5, 6, 7, 8, 9, 10, 11, 12, 13, 14], [0, 1, 2, 3, 4, 5, 6, 7, 8, 9, 10, 11, 12, 13, 14, 15]] [[6, 12]]) .nil)) .nil)) (.node [] [] .nil .nil)))) (retK Try.prog [.tmp 2] K) (nth [v0]) w := by kernel_rfl
theorem S25_ok {v0 : Value} {K : Cont} {w : World} (h : S25 v0 K w) : callK Try.prog 25 [v0] K w :=
  callK_of (P := Try.prog) (ok := okf) (n := 28) (fn := Try.f25) (c := bodyOf Try.f25) (rs := [.tmp 2]) (an := (.node [] [] .nil (.node [] [] .nil (.node [] [] (.node [] [] .nil (.node [3, 4] [(3, 26)] (.node [] [] (.node [] [] .nil (.node [] [] .nil .nil)) (.node [] [] (.dc [6, 12, 14, 15] [[], [], [], [1, 2], [1, 2, 3], [1, 2, 3, 4], [], [], [], [7, 8], [7, 8, 9], [7, 8, 9, 10], [6, 7, 8, 9, 10, 11], [1, 2, 3, 4, 5, 6, 7, 8, 9, 10, 11, 12], [1, 2, 3, 4, 5, 6, 7, 8, 9, 10, 11, 12, 13], [0, 1, 2, 3, 4, 5, 6, 7, 8, 9, 10, 11, 12, 13, 14], [0, 1, 2, 3, 4, 5, 6, 7, 8, 9, 10, 11, 12, 13, 14, 15]] [[6, 12]]) .nil)) .nil)) (.node [] [] .nil .nil))))) good mixed Try.func25 (by kernel_rfl) (by kernel_rfl) (by kernel_rfl) (by kernel_rfl) (Eq.mp (S25_eq v0 K w) h)

/-- rubric/rubricref12.Join -/
def S26 (v0 : Value) (K : Cont) (w : World) : Prop :=
  LoopK [(.slice none 0 0), (.int .i64 0)] (fun vs again w1 => ∀ _h : Env,
  lenK v0 fun t7 =>
  ltK .i64 (nth vs 1) t7 fun t8 =>
  condK t8
  (DrawC [11] [[], [], [], [1, 2], [1, 2, 3], [1, 2, 3, 4], [], [], [6, 7], [6, 7, 8], [6, 7, 8, 9], [0, 1, 2, 3, 4, 5, 6, 7, 8, 9, 10], [0, 1, 2, 3, 4, 5, 6, 7, 8, 9, 10, 11]] w1.drew (fun M St =>
  ixK 2 v0 (nth vs 1) fun t14 =>
  faK 0 t14 fun t15 =>
  sld1 (St 5) t15 fun t16 =>
  ixK 2 v0 (nth vs 1) fun t19 =>
  faK 1 t19 fun t20 =>
  sld1 (St 10) t20 fun t21 =>
  callK Try.prog 54 [(nth vs 0), t16, t21] (fun t22 w2 =>
  Mod (M 11) w1.drew w2 ∧
  addK .i64 (nth vs 1) (.int .i64 1) fun t10 =>
  again [t22, t10] w2) w1.drew))
  (K (nth vs 0) w1)) w
theorem S26_eq (v0 : Value) (K : Cont) (w : World) : S26 v0 K w = D Try.prog okf 24 (bodyOf Try.f26) (.node [] [] .nil (.node [] [] .nil (.node [] [] (.node [] [] .nil (.node [3, 4] [(3, 22)] (.node [] [] (.node [] [] .nil (.node [] [] .nil .nil)) (.node [] [] (.dc [11] [[], [], [], [1, 2], [1, 2, 3], [1, 2, 3, 4], [], [], [6, 7], [6, 7, 8], [6, 7, 8, 9], [0, 1, 2, 3, 4, 5, 6, 7, 8, 9, 10], [0, 1, 2, 3, 4, 5, 6, 7, 8, 9, 10, 11]] []) .nil)) .nil)) (.node [] [] .nil .nil)))) (retK Try.prog [.tmp 2] K) (nth [v0]) w := by kernel_rfl
theorem S26_ok {v0 : Value} {K : Cont} {w : World} (h : S26 v0 K w) : callK Try.prog 26 [v0] K w :=
  callK_of (P := Try.prog) (ok := okf) (n := 24) (fn := Try.f26) (c := bodyOf Try.f26) (rs := [.tmp 2]) (an := (.node [] [] .nil (.node [] [] .nil (.node [] [] (.node [] [] .nil (.node [3, 4] [(3, 22)] (.node [] [] (.node [] [] .nil (.node [] [] .nil .nil)) (.node [] [] (.dc [11] [[], [], [], [1, 2], [1, 2, 3], [1, 2, 3, 4], [], [], [6, 7], [6, 7, 8], [6, 7, 8, 9], [0, 1, 2, 3, 4, 5, 6, 7, 8, 9, 10], [0, 1, 2, 3, 4, 5, 6, 7, 8, 9, 10, 11]] []) .nil)) .nil)) (.node [] [] .nil .nil))))) good mixed Try.func26 (by kernel_rfl) (by kernel_rfl) (by kernel_rfl) (by kernel_rfl) (Eq.mp (S26_eq v0 K w) h)

/-- rubric/rubricref12.Cut -/
def S27 (v0 v1 v2 : Value) (K : Cont) (w : World) : Prop :=
  JoinK (fun vs w1 => ∀ _h : Env,
  LoopK [(.slice none 0 0), (.int .i64 0), (.int .i64 0)] (fun vs_1 again w2 => ∀ _h_1 : Env,
  JoinK (fun _vs_2 w3 => ∀ _h_2 : Env,
  DrawK w3 (fun C =>
  ixK 2 v0 (nth vs_1 2) fun t29 =>
  faK 0 t29 fun t30 =>
  qld1K C t30 fun t31 =>
  addK .i64 (nth vs_1 1) t31 fun t32 =>
  ∀ w4 : World, C w4 →
  JoinK (fun vs_3 w5 => ∀ _h_3 : Env,
  JoinK (fun vs_4 w6 => ∀ _h_4 : Env,
  subK .i64 (nth vs_4 0) (nth vs_3 0) fun t45 =>
  ixK 2 v0 (nth vs_1 2) fun t48 =>
  faK 1 t48 fun t49 =>
  ld1K t49 (fun t50 w7 =>
  callK Try.prog 54 [(nth vs_1 0), t45, t50] (fun t51 w8 =>
  addK .i64 (nth vs_1 2) (.int .i64 1) fun t24 =>
  again [t51, t32, t24] w8) w7) w6) (fun J_3 =>
  gtK .i64 t32 v2 fun t40 =>
  condK t40
  (J_3 [v2] w5)
  (J_3 [t32] w5))) (fun J_2 =>
  ltK .i64 (nth vs_1 1) (nth vs 0) fun t36 =>
  condK t36
  (J_2 [(nth vs 0)] w4)
  (J_2 [(nth vs_1 1)] w4)))) (fun J_1 =>
  lenK v0 fun t16 =>
  ltK .i64 (nth vs_1 2) t16 fun t17 =>
  condK t17
  (ltK .i64 (nth vs 0) v2 fun t21 =>
  condK t21
  (J_1 [] w2)
  (K (nth vs_1 0) w2))
  (K (nth vs_1 0) w2))) w1) (fun J =>
  ltK .i64 v1 (.int .i64 0) fun t13 =>
  condK t13
  (J [(.int .i64 0)] w)
  (J [v1] w))
theorem S27_eq (v0 v1 v2 : Value) (K : Cont) (w : World) : S27 v0 v1 v2 K w = D Try.prog okf 53 (bodyOf Try.f27) (.node [] [] .nil (.node [] [] .nil (.node [] [] .nil (.cut [1] [(1, 1), (12, 13)] (.node [] [] .nil (.node [] [] .nil .nil)) (.node [] [] (.node [] [] .nil (.node [7, 8, 9] [(7, 11), (14, 51)] (.cut [] [(14, 22)] (.node [] [] .nil (.node [] [] .nil .nil)) (.node [] [] (.node [] [] .draw (.node [] [] .nil (.cut [10] [(10, 10), (34, 37)] (.node [] [] .nil (.node [] [] .nil .nil)) (.cut [11] [(11, 11), (38, 41)] (.node [] [] .nil (.node [] [] .nil .nil)) .nil)))) .nil)) .nil)) (.node [] [] .nil .nil)))))) (retK Try.prog [.tmp 6] K) (nth [v0, v1, v2]) w := by kernel_rfl
theorem S27_ok {v0 v1 v2 : Value} {K : Cont} {w : World} (h : S27 v0 v1 v2 K w) : callK Try.prog 27 [v0, v1, v2] K w :=
  callK_of (P := Try.prog) (ok := okf) (n := 53) (fn := Try.f27) (c := bodyOf Try.f27) (rs := [.tmp 6]) (an := (.node [] [] .nil (.node [] [] .nil (.node [] [] .nil (.cut [1] [(1, 1), (12, 13)] (.node [] [] .nil (.node [] [] .nil .nil)) (.node [] [] (.node [] [] .nil (.node [7, 8, 9] [(7, 11), (14, 51)] (.cut [] [(14, 22)] (.node [] [] .nil (.node [] [] .nil .nil)) (.node [] [] (.node [] [] .draw (.node [] [] .nil (.cut [10] [(10, 10), (34, 37)] (.node [] [] .nil (.node [] [] .nil .nil)) (.cut [11] [(11, 11), (38, 41)] (.node [] [] .nil (.node [] [] .nil .nil)) .nil)))) .nil)) .nil)) (.node [] [] .nil .nil))))))) good mixed Try.func27 (by kernel_rfl) (by kernel_rfl) (by kernel_rfl) (by kernel_rfl) (Eq.mp (S27_eq v0 v1 v2 K w) h)

/-- rubric/rubricref12.Proper -/
def S28 (v0 : Value) (K : Cont) (w : World) : Prop :=
  callK Try.prog 26 [v0] (fun t4 w1 =>
  callK Try.prog 16 [t4, v0] (fun t6 w2 =>
  K t6 w2) w1) w
theorem S28_eq (v0 : Value) (K : Cont) (w : World) : S28 v0 K w = D Try.prog okf 7 (bodyOf Try.f28) (.node [] [] .nil (.node [] [] .nil .nil)) (retK Try.prog [.tmp 2] K) (nth [v0]) w := by kernel_rfl
theorem S28_ok {v0 : Value} {K : Cont} {w : World} (h : S28 v0 K w) : callK Try.prog 28 [v0] K w :=
  callK_of (P := Try.prog) (ok := okf) (n := 7) (fn := Try.f28) (c := bodyOf Try.f28) (rs := [.tmp 2]) (an := (.node [] [] .nil (.node [] [] .nil .nil))) good mixed Try.func28 (by kernel_rfl) (by kernel_rfl) (by kernel_rfl) (by kernel_rfl) (Eq.mp (S28_eq v0 K w) h)

/-- rubric/rubricref12.Len -/
def S29 (v0 : Value) (K : Cont) (w : World) : Prop :=
  LoopK [(.int .i64 0), (.int .i64 0)] (fun vs again w1 => ∀ _h : Env,
  lenK v0 fun t7 =>
  ltK .i64 (nth vs 1) t7 fun t8 =>
  condK t8
  (ixK 2 v0 (nth vs 1) fun t14 =>
  faK 0 t14 fun t15 =>
  ld1K t15 (fun t16 w2 =>
  addK .i64 (nth vs 0) t16 fun t17 =>
  addK .i64 (nth vs 1) (.int .i64 1) fun t10 =>
  again [t17, t10] w2) w1)
  (K (nth vs 0) w1)) w
theorem S29_eq (v0 : Value) (K : Cont) (w : World) : S29 v0 K w = D Try.prog okf 19 (bodyOf Try.f29) (.node [] [] .nil (.node [] [] .nil (.node [] [] (.node [] [] .nil (.node [3, 4] [(3, 17)] (.node [] [] (.node [] [] .nil (.node [] [] .nil .nil)) (.node [] [] .nil .nil)) .nil)) (.node [] [] .nil .nil)))) (retK Try.prog [.tmp 2] K) (nth [v0]) w := by kernel_rfl
theorem S29_ok {v0 : Value} {K : Cont} {w : World} (h : S29 v0 K w) : callK Try.prog 29 [v0] K w :=
  callK_of (P := Try.prog) (ok := okf) (n := 19) (fn := Try.f29) (c := bodyOf Try.f29) (rs := [.tmp 2]) (an := (.node [] [] .nil (.node [] [] .nil (.node [] [] (.node [] [] .nil (.node [3, 4] [(3, 17)] (.node [] [] (.node [] [] .nil (.node [] [] .nil .nil)) (.node [] [] .nil .nil)) .nil)) (.node [] [] .nil .nil))))) good mixed Try.func29 (by kernel_rfl) (by kernel_rfl) (by kernel_rfl) (by kernel_rfl) (Eq.mp (S29_eq v0 K w) h)

/-- rubric/blocks.add -/
def S51 (v0 v1 v2 : Value) (K : Cont) (w : World) : Prop :=
  lenK v0 fun t9 =>
  subK .i64 t9 (.int .i64 1) fun t10 =>
  leK .i64 v1 (.int .i64 0) fun t13 =>
  condK t13
  (K v0 w)
  (JoinK (fun vs w1 => ∀ _h : Env,
  condK (nth vs 0)
  (ixK 2 v0 t10 fun t29 =>
  faK 0 t29 fun t30 =>
  ld1K t30 (fun t31 w2 =>
  addK .i64 t31 v1 fun t33 =>
  ixK 2 v0 t10 fun t34 =>
  faK 0 t34 fun t35 =>
  st1K t35 t33 (fun w3 =>
  K v0 w3) w2) w1)
  (callK Try.prog 65 [v2] (fun t40 w4 =>
  buildK [(0, 1), (1, 1)] [(.int .i64 0), (.slice none 0 0)] [(0, v1), (1, t40)] fun t41 =>
  rowK 34 2 1 [(.int .i64 0), (.slice none 0 0)] [(0, t41)] (fun t42 w5 =>
  runK Try.prog (Builtin.append_ #[27, 27] 27 [v0, t42].toArray) (fun t43 w6 =>
  K t43 w6) w5) w4) w1)) (fun J =>
  geK .i64 t10 (.int .i64 0) fun t17 =>
  condK t17
  (ixK 2 v0 t10 fun t21 =>
  faK 1 t21 fun t22 =>
  ld1K t22 (fun t23 w7 =>
  callK Try.prog 55 [t23, v2] (fun t25 w8 =>
  J [t25] w8) w7) w)
  (J [(.bool false)] w)))
theorem S51_eq (v0 v1 v2 : Value) (K : Cont) (w : World) : S51 v0 v1 v2 K w = D Try.prog okf 44 (bodyOf Try.f51) (.node [] [] .nil (.node [] [] .nil (.node [] [] (.node [] [] .nil (.node [] [] (.node [] [] .nil .nil) (.cut [15] [(15, 26)] .nil (.node [] [] (.node [] [] .nil (.node [] [] .nil .nil)) .nil)))) (.node [] [] .nil .nil)))) (retK Try.prog [.tmp 6] K) (nth [v0, v1, v2]) w := by kernel_rfl
theorem S51_ok {v0 v1 v2 : Value} {K : Cont} {w : World} (h : S51 v0 v1 v2 K w) : callK Try.prog 51 [v0, v1, v2] K w :=
  callK_of (P := Try.prog) (ok := okf) (n := 44) (fn := Try.f51) (c := bodyOf Try.f51) (rs := [.tmp 6]) (an := (.node [] [] .nil (.node [] [] .nil (.node [] [] (.node [] [] .nil (.node [] [] (.node [] [] .nil .nil) (.cut [15] [(15, 26)] .nil (.node [] [] (.node [] [] .nil (.node [] [] .nil .nil)) .nil)))) (.node [] [] .nil .nil))))) good mixed Try.func51 (by kernel_rfl) (by kernel_rfl) (by kernel_rfl) (by kernel_rfl) (Eq.mp (S51_eq v0 v1 v2 K w) h)

/-- rubric/blocks.each -/
def S52 (v0 : Value) (K : Cont) (w : World) : Prop :=
  box1K 27 v0 (fun t1 w1 =>
  K (.func (.func 78) #[] #[t1]) w1) w
theorem S52_eq (v0 : Value) (K : Cont) (w : World) : S52 v0 K w = D Try.prog okf 4 (bodyOf Try.f52) (.node [] [] .nil (.node [] [] .nil .nil)) (retK Try.prog [.tmp 2] K) (nth [v0]) w := by kernel_rfl
theorem S52_ok {v0 : Value} {K : Cont} {w : World} (h : S52 v0 K w) : callK Try.prog 52 [v0] K w :=
  callK_of (P := Try.prog) (ok := okf) (n := 4) (fn := Try.f52) (c := bodyOf Try.f52) (rs := [.tmp 2]) (an := (.node [] [] .nil (.node [] [] .nil .nil))) good mixed Try.func52 (by kernel_rfl) (by kernel_rfl) (by kernel_rfl) (by kernel_rfl) (Eq.mp (S52_eq v0 K w) h)

/-- slices.Clone[[]rubric/api.Attr,rubric/api.Attr] -/
def S53 (v0 : Value) (K : Cont) (w : World) : Prop :=
  snilK v0 fun b4 =>
  condK (.bool b4)
  (K (.slice none 0 0) w)
  (rowK 46 5 0 [] [] (fun t5 w1 =>
  runK Try.prog (Builtin.append_ #[24, 24] 24 [t5, v0].toArray) (fun t7 w2 =>
  K t7 w2) w1) w)
theorem S53_eq (v0 : Value) (K : Cont) (w : World) : S53 v0 K w = D Try.prog okf 8 (bodyOf Try.f53) (.node [] [] .nil (.node [] [] (.node [] [] .nil (.node [] [] (.node [] [] .nil .nil) .nil)) (.node [] [] .nil .nil))) (retK Try.prog [.tmp 2] K) (nth [v0]) w := by kernel_rfl
theorem S53_ok {v0 : Value} {K : Cont} {w : World} (h : S53 v0 K w) : callK Try.prog 53 [v0] K w :=
  callK_of (P := Try.prog) (ok := okf) (n := 8) (fn := Try.f53) (c := bodyOf Try.f53) (rs := [.tmp 2]) (an := (.node [] [] .nil (.node [] [] (.node [] [] .nil (.node [] [] (.node [] [] .nil .nil) .nil)) (.node [] [] .nil .nil)))) good mixed Try.func53 (by kernel_rfl) (by kernel_rfl) (by kernel_rfl) (by kernel_rfl) (Eq.mp (S53_eq v0 K w) h)

/-- rubric/rubricref12.Add -/
def S54 (v0 v1 v2 : Value) (K : Cont) (w : World) : Prop :=
  leK .i64 v1 (.int .i64 0) fun t9 =>
  condK t9
  (K v0 w)
  (lenK v0 fun t12 =>
  subK .i64 t12 (.int .i64 1) fun t13 =>
  JoinK (fun vs w1 => ∀ _h : Env,
  condK (nth vs 0)
  (ixK 2 v0 t13 fun t29 =>
  faK 0 t29 fun t30 =>
  ld1K t30 (fun t31 w2 =>
  addK .i64 t31 v1 fun t33 =>
  ixK 2 v0 t13 fun t34 =>
  faK 0 t34 fun t35 =>
  st1K t35 t33 (fun w3 =>
  K v0 w3) w2) w1)
  (rowK 46 5 0 [] [] (fun t39 w4 =>
  runK Try.prog (Builtin.append_ #[24, 24] 24 [t39, v2].toArray) (fun t41 w5 =>
  buildK [(0, 1), (1, 1)] [(.int .i64 0), (.slice none 0 0)] [(0, v1), (1, t41)] fun t42 =>
  rowK 34 2 1 [(.int .i64 0), (.slice none 0 0)] [(0, t42)] (fun t43 w6 =>
  runK Try.prog (Builtin.append_ #[27, 27] 27 [v0, t43].toArray) (fun t44 w7 =>
  K t44 w7) w6) w5) w4) w1)) (fun J =>
  geK .i64 t13 (.int .i64 0) fun t15 =>
  condK t15
  (ixK 2 v0 t13 fun t19 =>
  faK 1 t19 fun t20 =>
  ld1K t20 (fun t21 w8 =>
  callK Try.prog 21 [t21, v2] (fun t23 w9 =>
  J [t23] w9) w8) w)
  (J [(.bool false)] w)))
theorem S54_eq (v0 v1 v2 : Value) (K : Cont) (w : World) : S54 v0 v1 v2 K w = D Try.prog okf 45 (bodyOf Try.f54) (.node [] [] .nil (.node [] [] (.node [] [] .nil (.node [] [] (.node [] [] .nil .nil) .nil)) (.node [] [] .nil (.node [] [] (.cut [24] [(14, 24)] .nil (.node [] [] (.node [] [] .nil (.node [] [] .nil .nil)) .nil)) (.node [] [] .nil .nil))))) (retK Try.prog [.tmp 6] K) (nth [v0, v1, v2]) w := by kernel_rfl
theorem S54_ok {v0 v1 v2 : Value} {K : Cont} {w : World} (h : S54 v0 v1 v2 K w) : callK Try.prog 54 [v0, v1, v2] K w :=
  callK_of (P := Try.prog) (ok := okf) (n := 45) (fn := Try.f54) (c := bodyOf Try.f54) (rs := [.tmp 6]) (an := (.node [] [] .nil (.node [] [] (.node [] [] .nil (.node [] [] (.node [] [] .nil .nil) .nil)) (.node [] [] .nil (.node [] [] (.cut [24] [(14, 24)] .nil (.node [] [] (.node [] [] .nil (.node [] [] .nil .nil)) .nil)) (.node [] [] .nil .nil)))))) good mixed Try.func54 (by kernel_rfl) (by kernel_rfl) (by kernel_rfl) (by kernel_rfl) (Eq.mp (S54_eq v0 v1 v2 K w) h)

/-- rubric/attrs.Same -/
def S55 (v0 v1 : Value) (K : Cont) (w : World) : Prop :=
  callK Try.prog 79 [v0, v1] (fun t7 w1 =>
  K t7 w1) w
theorem S55_eq (v0 v1 : Value) (K : Cont) (w : World) : S55 v0 v1 K w = D Try.prog okf 8 (bodyOf Try.f55) (.node [] [] .nil (.node [] [] .nil .nil)) (retK Try.prog [.tmp 4] K) (nth [v0, v1]) w := by kernel_rfl
theorem S55_ok {v0 v1 : Value} {K : Cont} {w : World} (h : S55 v0 v1 K w) : callK Try.prog 55 [v0, v1] K w :=
  callK_of (P := Try.prog) (ok := okf) (n := 8) (fn := Try.f55) (c := bodyOf Try.f55) (rs := [.tmp 4]) (an := (.node [] [] .nil (.node [] [] .nil .nil))) good mixed Try.func55 (by kernel_rfl) (by kernel_rfl) (by kernel_rfl) (by kernel_rfl) (Eq.mp (S55_eq v0 v1 K w) h)

/-- rubric/attrs.Copy -/
def S65 (v0 : Value) (K : Cont) (w : World) : Prop :=
  callK Try.prog 53 [v0] (fun t4 w1 =>
  K t4 w1) w
theorem S65_eq (v0 : Value) (K : Cont) (w : World) : S65 v0 K w = D Try.prog okf 5 (bodyOf Try.f65) (.node [] [] .nil (.node [] [] .nil .nil)) (retK Try.prog [.tmp 2] K) (nth [v0]) w := by kernel_rfl
theorem S65_ok {v0 : Value} {K : Cont} {w : World} (h : S65 v0 K w) : callK Try.prog 65 [v0] K w :=
  callK_of (P := Try.prog) (ok := okf) (n := 5) (fn := Try.f65) (c := bodyOf Try.f65) (rs := [.tmp 2]) (an := (.node [] [] .nil (.node [] [] .nil .nil))) good mixed Try.func65 (by kernel_rfl) (by kernel_rfl) (by kernel_rfl) (by kernel_rfl) (Eq.mp (S65_eq v0 K w) h)

/-- rubric/blocks.each$1 -/
def S78 (v0 v1 : Value) (K : Cont) (w : World) : Prop :=
  ld1K v1 (fun t6 w1 =>
  lenK t6 fun t7 =>
  LoopK [(.int .i64 0), (.int .i64 0)] (fun vs again w2 => ∀ _h : Env,
  ltK .i64 (nth vs 1) t7 fun t9 =>
  condK t9
  (ixK 2 t6 (nth vs 1) fun t10 =>
  ldnK 2 t10 (fun t11 w3 =>
  newK 34 [(.int .i64 0), (.slice none 0 0)] (fun t5 w4 =>
  stnK 2 t5 t11 (fun w5 =>
  ldnK 2 t5 (fun t14 w6 =>
  callyK Try.prog okf v0 [(nth vs 0), t14] (fun t15 w7 =>
  notK t15 fun t16 =>
  condK t16
  (K (.tuple #[]) w7)
  (faK 0 t5 fun t18 =>
  ld1K t18 (fun t19 w8 =>
  addK .i64 (nth vs 0) t19 fun t20 =>
  addK .i64 (nth vs 1) (.int .i64 1) fun t21 =>
  again [t20, t21] w8) w7)) w6) w5) w4) w3) w2)
  (K (.tuple #[]) w2)) w1) w
theorem S78_eq (v0 v1 : Value) (K : Cont) (w : World) : S78 v0 v1 K w = D Try.prog okf 22 (bodyOf Try.f78) (.node [] [] .nil (.node [] [] .nil (.node [3, 8] [(3, 3), (5, 5), (8, 21)] (.node [] [] .nil (.node [] [] (.node [] [] .nil .nil) (.node [] [] (.node [] [] .nil (.node [] [] (.node [] [] .nil (.node [] [] .nil .nil)) .nil)) .nil))) .nil))) (retK Try.prog [] K) (nth [v0, v1]) w := by kernel_rfl
theorem S78_ok {v0 v1 : Value} {K : Cont} {w : World} (h : S78 v0 v1 K w) : callK Try.prog 78 [v0, v1] K w :=
  callK_of (P := Try.prog) (ok := okf) (n := 22) (fn := Try.f78) (c := bodyOf Try.f78) (rs := []) (an := (.node [] [] .nil (.node [] [] .nil (.node [3, 8] [(3, 3), (5, 5), (8, 21)] (.node [] [] .nil (.node [] [] (.node [] [] .nil .nil) (.node [] [] (.node [] [] .nil (.node [] [] (.node [] [] .nil (.node [] [] .nil .nil)) .nil)) .nil))) .nil)))) good mixed Try.func78 (by kernel_rfl) (by kernel_rfl) (by kernel_rfl) (by kernel_rfl) (Eq.mp (S78_eq v0 v1 K w) h)

/-- slices.Equal[[]rubric/api.Attr,rubric/api.Attr] -/
def S79 (v0 v1 : Value) (K : Cont) (w : World) : Prop :=
  lenK v0 fun t7 =>
  lenK v1 fun t9 =>
  neK .i64 t7 t9 fun t10 =>
  condK t10
  (K (.bool false) w)
  (lenK v0 fun t12 =>
  LoopK [(.int .i64 0)] (fun vs again w1 => ∀ _h : Env,
  ltK .i64 (nth vs 0) t12 fun t14 =>
  condK t14
  (DrawK w1 (fun C =>
  ixK 5 v0 (nth vs 0) fun t18 =>
  qldnK C 5 t18 fun t19 =>
  ixK 5 v1 (nth vs 0) fun t22 =>
  qldnK C 5 t22 fun t23 =>
  qrunK Try.prog C (binS .neq 46 (.tmp 19) (.tmp 23) t19 t23) fun t24 =>
  ∀ w2 : World, C w2 →
  condK t24
  (K (.bool false) w2)
  (addK .i64 (nth vs 0) (.int .i64 1) fun t25 =>
  again [t25] w2)))
  (K (.bool true) w1)) w)
theorem S79_eq (v0 v1 : Value) (K : Cont) (w : World) : S79 v0 v1 K w = D Try.prog okf 26 (bodyOf Try.f79) (.node [] [] .nil (.node [] [] (.node [] [] .nil (.node [] [] (.node [] [] .nil .nil) .nil)) (.node [] [] (.node [] [] .nil (.node [13] [(4, 5), (13, 25)] (.node [] [] .nil (.node [] [] (.node [] [] .nil .nil) (.node [] [] (.node [] [] .nil (.node [] [] .draw (.node [] [] (.node [] [] .nil .nil) .nil))) .nil))) .nil)) (.node [] [] .nil .nil)))) (retK Try.prog [.tmp 4] K) (nth [v0, v1]) w := by kernel_rfl
theorem S79_ok {v0 v1 : Value} {K : Cont} {w : World} (h : S79 v0 v1 K w) : callK Try.prog 79 [v0, v1] K w :=
  callK_of (P := Try.prog) (ok := okf) (n := 26) (fn := Try.f79) (c := bodyOf Try.f79) (rs := [.tmp 4]) (an := (.node [] [] .nil (.node [] [] (.node [] [] .nil (.node [] [] (.node [] [] .nil .nil) .nil)) (.node [] [] (.node [] [] .nil (.node [13] [(4, 5), (13, 25)] (.node [] [] .nil (.node [] [] (.node [] [] .nil .nil) (.node [] [] (.node [] [] .nil (.node [] [] .draw (.node [] [] (.node [] [] .nil .nil) .nil))) .nil))) .nil)) (.node [] [] .nil .nil))))) good mixed Try.func79 (by kernel_rfl) (by kernel_rfl) (by kernel_rfl) (by kernel_rfl) (Eq.mp (S79_eq v0 v1 K w) h)

end Go.Proofs.Ytmfplfaeibehiaa
