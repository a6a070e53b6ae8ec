/- By a program of ours: of each function below the predicate that its code comes to, and that it is sound. No conditions. Contracts: comparing and copying sets of attributes. No conditions but that the slices read as such. Contracts: adding to blocks. Conditions: the blocks lie in memory of the call's own. Contracts: joining blocks, and the blocks of cells. No conditions but the sizes. Contracts: the document's comparing, and whether blocks are proper. No conditions. Contracts: the iterator over blocks, and how long blocks are. No conditions. Contracts: how long blocks are, what stands at a place. No conditions. Contracts: what stands at a place. Conditions: the sets' sizes. Contracts: cutting blocks. Conditions: the sizes. Contracts: the document's blocks. Conditions: the sizes. Contracts: what is known, and what is looked at. No conditions. Plain laws of blocks: joining, the blocks of cells. No program in sight. The law BlocksJoin: it answers true, and leaves all memory as it was. No conditions. -/
import Derived.Test.YtmfplfaeibehiaaZNormalMakesUpto1
namespace Go.Proofs.Ytmfplfaeibehiaa
open Go Go.K
/-- rubric/rubriclaw12.BlocksJoin -/
def S3 (v0 v1 : Value) (K : Cont) (w : World) : Prop :=
  JoinK (fun _vs w1 => ∀ _h : Env,
  rowK 26 2 0 [] [] (fun t18 w2 =>
  runK Try.prog (Builtin.append_ #[22, 22] 22 [t18, v0].toArray) (fun t20 w3 =>
  runK Try.prog (Builtin.append_ #[22, 22] 22 [t20, v1].toArray) (fun t22 w4 =>
  lenK t22 fun t24 =>
  LoopK [(.int .i64 0)] (fun vs_1 again w5 => ∀ _h_1 : Env,
  ltK .i64 (nth vs_1 0) t24 fun t26 =>
  condK t26
  (ixK 2 t22 (nth vs_1 0) fun t30 =>
  faK 1 t30 fun t31 =>
  ld1K t31 (fun t32 w6 =>
  lenK t32 fun t33 =>
  gtK .i64 t33 (.int .i64 30) fun t34 =>
  condK t34
  (callK Try.prog 14 [] (fun t35 w7 =>
  K t35 w7) w6)
  (addK .i64 (nth vs_1 0) (.int .i64 1) fun t36 =>
  again [t36] w6)) w5)
  (callK Try.prog 15 [v0] (fun t38 w8 =>
  callK Try.prog 15 [v1] (fun t40 w9 =>
  callK Try.prog 15 [t22] (fun t42 w10 =>
  runK Try.prog (Builtin.append_ #[27, 27] 27 [t38, t40].toArray) (fun t45 w11 =>
  callK Try.prog 17 [t45] (fun t46 w12 =>
  callK Try.prog 16 [t42, t46] (fun t47 w13 =>
  condK t47
  (callK Try.prog 14 [] (fun t49 w14 =>
  K t49 w14) w13)
  (K (.bool false) w13)) w12) w11) w10) w9) w8) w5)) w4) w3) w2) w1) (fun J =>
  lenK v0 fun t10 =>
  gtK .i64 t10 (.int .i64 250) fun t11 =>
  condK t11
  (callK Try.prog 14 [] (fun t17 w15 =>
  K t17 w15) w)
  (lenK v1 fun t14 =>
  gtK .i64 t14 (.int .i64 250) fun t15 =>
  condK t15
  (callK Try.prog 14 [] (fun t17_1 w16 =>
  K t17_1 w16) w)
  (J [] w)))
theorem S3_eq (v0 v1 : Value) (K : Cont) (w : World) : S3 v0 v1 K w = D Try.prog okf 51 (bodyOf Try.f3) (.node [] [] .nil (.cut [] [(4, 4), (9, 17)] (.node [] [] .nil (.node [] [] (.node [] [] .nil .nil) .nil)) (.node [] [] .nil (.node [] [] (.node [] [] .nil (.node [25] [(4, 4), (6, 6), (25, 36)] (.node [] [] .nil (.node [] [] (.node [] [] .nil .nil) (.node [] [] (.node [] [] .nil (.node [] [] .nil (.node [] [] (.node [] [] .nil .nil) .nil))) .nil))) .nil)) (.node [] [] .nil (.node [] [] .nil .nil)))))) (retK Try.prog [.tmp 4] K) (nth [v0, v1]) w := by kernel_rfl
theorem S3_ok {v0 v1 : Value} {K : Cont} {w : World} (h : S3 v0 v1 K w) : callK Try.prog 3 [v0, v1] K w :=
  callK_of (P := Try.prog) (ok := okf) (n := 51) (fn := Try.f3) (c := bodyOf Try.f3) (rs := [.tmp 4]) (an := (.node [] [] .nil (.cut [] [(4, 4), (9, 17)] (.node [] [] .nil (.node [] [] (.node [] [] .nil .nil) .nil)) (.node [] [] .nil (.node [] [] (.node [] [] .nil (.node [25] [(4, 4), (6, 6), (25, 36)] (.node [] [] .nil (.node [] [] (.node [] [] .nil .nil) (.node [] [] (.node [] [] .nil (.node [] [] .nil (.node [] [] (.node [] [] .nil .nil) .nil))) .nil))) .nil)) (.node [] [] .nil (.node [] [] .nil .nil))))))) good mixed Try.func3 (by kernel_rfl) (by kernel_rfl) (by kernel_rfl) (by kernel_rfl) (Eq.mp (S3_eq v0 v1 K w) h)

/-- rubric/rubriclaw12.BlocksPlaces -/
def S4 (v0 v1 : Value) (K : Cont) (w : World) : Prop :=
  JoinK (fun _vs w1 => ∀ _h : Env,
  lenK v0 fun t37 =>
  LoopK [(.int .i64 0)] (fun vs_1 again w2 => ∀ _h_1 : Env,
  ltK .i64 (nth vs_1 0) t37 fun t39 =>
  condK t39
  (ixK 2 v0 (nth vs_1 0) fun t43 =>
  faK 0 t43 fun t44 =>
  ld1K t44 (fun t45 w3 =>
  gtK .i64 t45 (.int .i64 20) fun t46 =>
  condK t46
  (callK Try.prog 14 [] (fun t47 w4 =>
  K t47 w4) w3)
  (addK .i64 (nth vs_1 0) (.int .i64 1) fun t48 =>
  again [t48] w3)) w2)
  (lenK v1 fun t50 =>
  LoopK [(.int .i64 0)] (fun vs_2 again_1 w5 => ∀ _h_2 : Env,
  ltK .i64 (nth vs_2 0) t50 fun t52 =>
  condK t52
  (ixK 2 v1 (nth vs_2 0) fun t56 =>
  faK 0 t56 fun t57 =>
  ld1K t57 (fun t58 w6 =>
  gtK .i64 t58 (.int .i64 20) fun t59 =>
  condK t59
  (callK Try.prog 14 [] (fun t60 w7 =>
  K t60 w7) w6)
  (addK .i64 (nth vs_2 0) (.int .i64 1) fun t61 =>
  again_1 [t61] w6)) w5)
  (callK Try.prog 17 [v0] (fun t63 w8 =>
  callK Try.prog 17 [v1] (fun t65 w9 =>
  callK Try.prog 19 [v0] (fun t67 w10 =>
  callK Try.prog 19 [v1] (fun t69 w11 =>
  eqK .i64 t67 t69 fun t70 =>
  LoopK [t70, (.int .i64 0)] (fun vs_3 again_2 w12 => ∀ _h_3 : Env,
  callK Try.prog 19 [v0] (fun t73 w13 =>
  ltK .i64 (nth vs_3 1) t73 fun t74 =>
  condK t74
  (JoinK (fun vs_4 w14 => ∀ _h_4 : Env,
  addK .i64 (nth vs_3 1) (.int .i64 1) fun t76 =>
  again_2 [(nth vs_4 0), t76] w14) (fun J_1 =>
  callK Try.prog 20 [v0, (nth vs_3 1)] (fun t80 w15 =>
  extK 0 t80 fun t81 =>
  extK 1 t80 fun t82 =>
  callK Try.prog 20 [t63, (nth vs_3 1)] (fun t86 w16 =>
  extK 0 t86 fun t87 =>
  extK 1 t86 fun t88 =>
  JoinK (fun _vs_5 w17 => ∀ _h_5 : Env,
  callK Try.prog 20 [v1, (nth vs_3 1)] (fun t104 w18 =>
  extK 0 t104 fun t105 =>
  extK 1 t104 fun t106 =>
  condK (nth vs_3 0)
  (condK t106
  (callK Try.prog 21 [t81, t105] (fun t114 w19 =>
  J_1 [t114] w19) w18)
  (J_1 [(.bool false)] w18))
  (J_1 [(.bool false)] w18)) w17) (fun J_2 =>
  notK t82 fun t90 =>
  condK t90
  (K (.bool false) w16)
  (notK t88 fun t93 =>
  condK t93
  (K (.bool false) w16)
  (callK Try.prog 21 [t81, t87] (fun t98 w20 =>
  notK t98 fun t99 =>
  condK t99
  (K (.bool false) w20)
  (J_2 [] w20)) w16)))) w15) w13))
  (callK Try.prog 16 [t63, t65] (fun t118 w21 =>
  beqK t118 (nth vs_3 0) fun t120 =>
  condK t120
  (callK Try.prog 14 [] (fun t122 w22 =>
  K t122 w22) w21)
  (K (.bool false) w21)) w13)) w12) w11) w10) w9) w8) w5)) w2)) w1) (fun J =>
  lenK v0 fun t18 =>
  gtK .i64 t18 (.int .i64 60) fun t19 =>
  condK t19
  (callK Try.prog 14 [] (fun t35 w23 =>
  K t35 w23) w)
  (lenK v1 fun t22 =>
  gtK .i64 t22 (.int .i64 60) fun t23 =>
  condK t23
  (callK Try.prog 14 [] (fun t35_1 w24 =>
  K t35_1 w24) w)
  (callK Try.prog 18 [v0] (fun t27 w25 =>
  notK t27 fun t28 =>
  condK t28
  (callK Try.prog 14 [] (fun t35_2 w26 =>
  K t35_2 w26) w25)
  (callK Try.prog 18 [v1] (fun t32 w27 =>
  notK t32 fun t33 =>
  condK t33
  (callK Try.prog 14 [] (fun t35_3 w28 =>
  K t35_3 w28) w27)
  (J [] w27)) w25)) w)))
theorem S4_eq (v0 v1 : Value) (K : Cont) (w : World) : S4 v0 v1 K w = D Try.prog okf 124 (bodyOf Try.f4) (.node [] [] .nil (.cut [] [(4, 4), (17, 35)] (.node [] [] .nil (.node [] [] (.node [] [] .nil .nil) .nil)) (.node [] [] (.node [] [] .nil (.node [38] [(4, 5), (38, 48)] (.node [] [] .nil (.node [] [] (.node [] [] .nil .nil) (.node [] [] (.node [] [] .nil (.node [] [] .nil (.node [] [] (.node [] [] .nil .nil) .nil))) .nil))) .nil)) (.node [] [] (.node [] [] .nil (.node [51] [(4, 4), (6, 6), (51, 61)] (.node [] [] .nil (.node [] [] (.node [] [] .nil .nil) (.node [] [] (.node [] [] .nil (.node [] [] .nil (.node [] [] (.node [] [] .nil .nil) .nil))) .nil))) .nil)) (.node [] [] .nil (.node [] [] .nil (.node [] [] (.node [] [] .nil (.node [9, 10] [(4, 4), (9, 16), (71, 115)] (.node [] [] (.node [] [] .nil (.node [] [] .nil .nil)) (.cut [9] [(4, 4), (9, 9), (11, 16), (77, 115)] (.node [] [] .nil (.node [] [] .nil (.cut [] [(4, 4), (89, 100)] (.node [] [] .nil (.node [] [] (.node [] [] .nil .nil) .nil)) (.node [] [] .nil .nil)))) .nil)) .nil)) (.node [] [] .nil .nil)))))))) (retK Try.prog [.tmp 4] K) (nth [v0, v1]) w := by kernel_rfl
theorem S4_ok {v0 v1 : Value} {K : Cont} {w : World} (h : S4 v0 v1 K w) : callK Try.prog 4 [v0, v1] K w :=
  callK_of (P := Try.prog) (ok := okf) (n := 124) (fn := Try.f4) (c := bodyOf Try.f4) (rs := [.tmp 4]) (an := (.node [] [] .nil (.cut [] [(4, 4), (17, 35)] (.node [] [] .nil (.node [] [] (.node [] [] .nil .nil) .nil)) (.node [] [] (.node [] [] .nil (.node [38] [(4, 5), (38, 48)] (.node [] [] .nil (.node [] [] (.node [] [] .nil .nil) (.node [] [] (.node [] [] .nil (.node [] [] .nil (.node [] [] (.node [] [] .nil .nil) .nil))) .nil))) .nil)) (.node [] [] (.node [] [] .nil (.node [51] [(4, 4), (6, 6), (51, 61)] (.node [] [] .nil (.node [] [] (.node [] [] .nil .nil) (.node [] [] (.node [] [] .nil (.node [] [] .nil (.node [] [] (.node [] [] .nil .nil) .nil))) .nil))) .nil)) (.node [] [] .nil (.node [] [] .nil (.node [] [] (.node [] [] .nil (.node [9, 10] [(4, 4), (9, 16), (71, 115)] (.node [] [] (.node [] [] .nil (.node [] [] .nil .nil)) (.cut [9] [(4, 4), (9, 9), (11, 16), (77, 115)] (.node [] [] .nil (.node [] [] .nil (.cut [] [(4, 4), (89, 100)] (.node [] [] .nil (.node [] [] (.node [] [] .nil .nil) .nil)) (.node [] [] .nil .nil)))) .nil)) .nil)) (.node [] [] .nil .nil))))))))) good mixed Try.func4 (by kernel_rfl) (by kernel_rfl) (by kernel_rfl) (by kernel_rfl) (Eq.mp (S4_eq v0 v1 K w) h)

/-- rubric/rubriclaw12.BlocksCells -/
def S5 (v0 : Value) (K : Cont) (w : World) : Prop :=
  lenK v0 fun t9 =>
  gtK .i64 t9 (.int .i64 500) fun t10 =>
  condK t10
  (callK Try.prog 14 [] (fun t11 w1 =>
  K t11 w1) w)
  (lenK v0 fun t13 =>
  LoopK [(.int .i64 0)] (fun vs again w2 => ∀ _h : Env,
  ltK .i64 (nth vs 0) t13 fun t15 =>
  condK t15
  (ixK 2 v0 (nth vs 0) fun t19 =>
  faK 1 t19 fun t20 =>
  ld1K t20 (fun t21 w3 =>
  lenK t21 fun t22 =>
  gtK .i64 t22 (.int .i64 30) fun t23 =>
  condK t23
  (callK Try.prog 14 [] (fun t24 w4 =>
  K t24 w4) w3)
  (addK .i64 (nth vs 0) (.int .i64 1) fun t25 =>
  again [t25] w3)) w2)
  (callK Try.prog 15 [v0] (fun t27 w5 =>
  JoinK (fun _vs_1 w6 => ∀ _h_1 : Env,
  lenK v0 fun t46 =>
  LoopK [(.int .i64 0)] (fun vs_2 again_1 w7 => ∀ _h_2 : Env,
  ltK .i64 (nth vs_2 0) t46 fun t48 =>
  condK t48
  (JoinK (fun _vs_3 w8 => ∀ _h_3 : Env,
  addK .i64 (nth vs_2 0) (.int .i64 1) fun t89 =>
  again_1 [t89] w8) (fun J_1 =>
  callK Try.prog 20 [t27, (nth vs_2 0)] (fun t53 w9 =>
  extK 0 t53 fun t54 =>
  extK 1 t53 fun t55 =>
  notK t55 fun t57 =>
  condK t57
  (K (.bool false) w9)
  (ixK 2 v0 (nth vs_2 0) fun t61 =>
  faK 0 t61 fun t62 =>
  ld1K t62 (fun t63 w10 =>
  eqK .i32 t63 (.int .i32 10) fun t64 =>
  condK t64
  (lenK t54 fun t67 =>
  neK .i64 t67 (.int .i64 0) fun t68 =>
  condK t68
  (K (.bool false) w10)
  (ixK 2 v0 (nth vs_2 0) fun t74 =>
  faK 0 t74 fun t75 =>
  ld1K t75 (fun t76 w11 =>
  neK .i32 t76 (.int .i32 10) fun t77 =>
  condK t77
  (ixK 2 v0 (nth vs_2 0) fun t82 =>
  faK 1 t82 fun t83 =>
  ld1K t83 (fun t84 w12 =>
  callK Try.prog 21 [t54, t84] (fun t85 w13 =>
  notK t85 fun t86 =>
  condK t86
  (K (.bool false) w13)
  (J_1 [] w13)) w12) w11)
  (J_1 [] w11)) w10))
  (ixK 2 v0 (nth vs_2 0) fun t74_1 =>
  faK 0 t74_1 fun t75_1 =>
  ld1K t75_1 (fun t76_1 w14 =>
  neK .i32 t76_1 (.int .i32 10) fun t77_1 =>
  condK t77_1
  (ixK 2 v0 (nth vs_2 0) fun t82_1 =>
  faK 1 t82_1 fun t83_1 =>
  ld1K t83_1 (fun t84_1 w15 =>
  callK Try.prog 21 [t54, t84_1] (fun t85_1 w16 =>
  notK t85_1 fun t86_1 =>
  condK t86_1
  (K (.bool false) w16)
  (J_1 [] w16)) w15) w14)
  (J_1 [] w14)) w10)) w9)) w7))
  (callK Try.prog 14 [] (fun t90 w17 =>
  K t90 w17) w7)) w6) (fun J =>
  callK Try.prog 22 [v0] (fun t30 w18 =>
  callK Try.prog 16 [t27, t30] (fun t31 w19 =>
  notK t31 fun t32 =>
  condK t32
  (K (.bool false) w19)
  (callK Try.prog 23 [t27] (fun t35 w20 =>
  notK t35 fun t36 =>
  condK t36
  (K (.bool false) w20)
  (callK Try.prog 19 [t27] (fun t40 w21 =>
  lenK v0 fun t42 =>
  neK .i64 t40 t42 fun t43 =>
  condK t43
  (K (.bool false) w21)
  (J [] w21)) w20)) w19)) w18) w5)) w2)) w)
theorem S5_eq (v0 : Value) (K : Cont) (w : World) : S5 v0 K w = D Try.prog okf 91 (bodyOf Try.f5) (.node [] [] .nil (.node [] [] (.node [] [] .nil (.node [] [] (.node [] [] .nil .nil) .nil)) (.node [] [] (.node [] [] .nil (.node [14] [(2, 3), (14, 25)] (.node [] [] .nil (.node [] [] (.node [] [] .nil .nil) (.node [] [] (.node [] [] .nil (.node [] [] .nil (.node [] [] (.node [] [] .nil .nil) .nil))) .nil))) .nil)) (.node [] [] .nil (.cut [] [(2, 2), (28, 44)] (.node [] [] .nil (.node [] [] (.node [] [] .nil .nil) .nil)) (.node [] [] (.node [] [] .nil (.node [47] [(2, 2), (5, 7), (47, 89)] (.node [] [] .nil (.node [] [] (.node [] [] .nil .nil) (.cut [] [(2, 2), (5, 7), (49, 88)] (.node [] [] .nil (.node [] [] .nil (.node [] [] .nil (.node [] [] (.node [] [] .nil .nil) .nil)))) .nil))) .nil)) (.node [] [] .nil .nil))))))) (retK Try.prog [.tmp 2] K) (nth [v0]) w := by kernel_rfl
theorem S5_ok {v0 : Value} {K : Cont} {w : World} (h : S5 v0 K w) : callK Try.prog 5 [v0] K w :=
  callK_of (P := Try.prog) (ok := okf) (n := 91) (fn := Try.f5) (c := bodyOf Try.f5) (rs := [.tmp 2]) (an := (.node [] [] .nil (.node [] [] (.node [] [] .nil (.node [] [] (.node [] [] .nil .nil) .nil)) (.node [] [] (.node [] [] .nil (.node [14] [(2, 3), (14, 25)] (.node [] [] .nil (.node [] [] (.node [] [] .nil .nil) (.node [] [] (.node [] [] .nil (.node [] [] .nil (.node [] [] (.node [] [] .nil .nil) .nil))) .nil))) .nil)) (.node [] [] .nil (.cut [] [(2, 2), (28, 44)] (.node [] [] .nil (.node [] [] (.node [] [] .nil .nil) .nil)) (.node [] [] (.node [] [] .nil (.node [47] [(2, 2), (5, 7), (47, 89)] (.node [] [] .nil (.node [] [] (.node [] [] .nil .nil) (.cut [] [(2, 2), (5, 7), (49, 88)] (.node [] [] .nil (.node [] [] .nil (.node [] [] .nil (.node [] [] (.node [] [] .nil .nil) .nil)))) .nil))) .nil)) (.node [] [] .nil .nil)))))))) good mixed Try.func5 (by kernel_rfl) (by kernel_rfl) (by kernel_rfl) (by kernel_rfl) (Eq.mp (S5_eq v0 K w) h)

/-- rubric/rubriclaw12.BlocksCuts -/
def S6 (v0 v1 v2 v3 : Value) (K : Cont) (w : World) : Prop :=
  callK Try.prog 18 [v0] (fun t14 w1 =>
  notK t14 fun t15 =>
  condK t15
  (callK Try.prog 14 [] (fun t16 w2 =>
  K t16 w2) w1)
  (callK Try.prog 19 [v0] (fun t18 w3 =>
  ltK .i64 t18 (.int .i64 0) fun t20 =>
  condK t20
  (K (.bool false) w3)
  (maxK .i64 v1 (.int .i64 0) fun t22 =>
  minK .i64 t22 t18 fun t24 =>
  maxK .i64 v2 (.int .i64 0) fun t26 =>
  minK .i64 t26 t18 fun t28 =>
  maxK .i64 v3 (.int .i64 0) fun t30 =>
  minK .i64 t30 t18 fun t32 =>
  callK Try.prog 17 [v0] (fun t34 w4 =>
  callK Try.prog 24 [v0, (.int .i64 0), t24] (fun t37 w5 =>
  callK Try.prog 24 [v0, t24, t18] (fun t41 w6 =>
  runK Try.prog (Builtin.append_ #[27, 27] 27 [t37, t41].toArray) (fun t42 w7 =>
  JoinK (fun _vs w8 => ∀ _h : Env,
  JoinK (fun vs_1 w9 => ∀ _h_1 : Env,
  callK Try.prog 24 [v0, (nth vs_1 0), (nth vs_1 1)] (fun t68 w10 =>
  callK Try.prog 19 [t68] (fun t70 w11 =>
  subK .i64 (nth vs_1 1) (nth vs_1 0) fun t73 =>
  eqK .i64 t70 t73 fun t74 =>
  condK t74
  (callK Try.prog 24 [t68, (.int .i64 0), t32] (fun t78 w12 =>
  addK .i64 (nth vs_1 0) t32 fun t83 =>
  minK .i64 t83 (nth vs_1 1) fun t85 =>
  callK Try.prog 24 [v0, (nth vs_1 0), t85] (fun t86 w13 =>
  callK Try.prog 16 [t78, t86] (fun t87 w14 =>
  condK t87
  (callK Try.prog 14 [] (fun t90 w15 =>
  K t90 w15) w14)
  (K (.bool false) w14)) w13) w12) w11)
  (K (.bool false) w11)) w10) w9) (fun J_1 =>
  gtK .i64 t24 t28 fun t62 =>
  condK t62
  (J_1 [t28, t24] w8)
  (J_1 [t24, t28] w8))) (fun J =>
  callK Try.prog 17 [t42] (fun t44 w16 =>
  callK Try.prog 16 [t44, t34] (fun t46 w17 =>
  notK t46 fun t47 =>
  condK t47
  (K (.bool false) w17)
  (callK Try.prog 17 [t34] (fun t50 w18 =>
  callK Try.prog 16 [t50, t34] (fun t52 w19 =>
  notK t52 fun t53 =>
  condK t53
  (K (.bool false) w19)
  (callK Try.prog 23 [t34] (fun t57 w20 =>
  notK t57 fun t58 =>
  condK t58
  (K (.bool false) w20)
  (J [] w20)) w19)) w18) w17)) w16) w7)) w6) w5) w4) w3)) w1)) w
theorem S6_eq (v0 v1 v2 v3 : Value) (K : Cont) (w : World) : S6 v0 v1 v2 v3 K w = D Try.prog okf 92 (bodyOf Try.f6) (.node [] [] .nil (.node [] [] (.node [] [] .nil (.node [] [] (.node [] [] .nil .nil) .nil)) (.node [] [] .nil (.node [] [] (.node [] [] .nil (.node [] [] (.node [] [] .nil .nil) .nil)) (.node [] [] .nil (.node [] [] .nil (.node [] [] .nil (.cut [] [(8, 8), (43, 59)] (.node [] [] .nil (.node [] [] (.node [] [] .nil .nil) .nil)) (.cut [1, 2] [(1, 2), (60, 64)] (.node [] [] .nil (.node [] [] .nil .nil)) (.node [] [] .nil (.node [] [] .nil .nil))))))))))) (retK Try.prog [.tmp 8] K) (nth [v0, v1, v2, v3]) w := by kernel_rfl
theorem S6_ok {v0 v1 v2 v3 : Value} {K : Cont} {w : World} (h : S6 v0 v1 v2 v3 K w) : callK Try.prog 6 [v0, v1, v2, v3] K w :=
  callK_of (P := Try.prog) (ok := okf) (n := 92) (fn := Try.f6) (c := bodyOf Try.f6) (rs := [.tmp 8]) (an := (.node [] [] .nil (.node [] [] (.node [] [] .nil (.node [] [] (.node [] [] .nil .nil) .nil)) (.node [] [] .nil (.node [] [] (.node [] [] .nil (.node [] [] (.node [] [] .nil .nil) .nil)) (.node [] [] .nil (.node [] [] .nil (.node [] [] .nil (.cut [] [(8, 8), (43, 59)] (.node [] [] .nil (.node [] [] (.node [] [] .nil .nil) .nil)) (.cut [1, 2] [(1, 2), (60, 64)] (.node [] [] .nil (.node [] [] .nil .nil)) (.node [] [] .nil (.node [] [] .nil .nil)))))))))))) good mixed Try.func6 (by kernel_rfl) (by kernel_rfl) (by kernel_rfl) (by kernel_rfl) (Eq.mp (S6_eq v0 v1 v2 v3 K w) h)

/-- rubric/rubriclaw12.BlocksRows -/
def S7 (v0 v1 v2 : Value) (K : Cont) (w : World) : Prop :=
  callK Try.prog 18 [v0] (fun t21 w1 =>
  notK t21 fun t22 =>
  condK t22
  (lenK v0 fun t24 =>
  ltK .i64 t24 (.int .i64 1000) fun t25 =>
  condK t25
  (callK Try.prog 23 [v0] (fun _t27 w2 =>
  callK Try.prog 20 [v0, v1] (fun _t30 w3 =>
  callK Try.prog 19 [v0] (fun _t32 w4 =>
  callK Try.prog 14 [] (fun t33 w5 =>
  K t33 w5) w4) w3) w2) w1)
  (callK Try.prog 14 [] (fun t33_1 w6 =>
  K t33_1 w6) w1))
  (callK Try.prog 25 [v0] (fun t35 w7 =>
  callK Try.prog 17 [t35] (fun t37 w8 =>
  callK Try.prog 24 [t35, v1, v2] (fun t41 w9 =>
  callK Try.prog 26 [v0] (fun t43 w10 =>
  callK Try.prog 27 [v0, v1, v2] (fun t47 w11 =>
  JoinK (fun _vs w12 => ∀ _h : Env,
  callK Try.prog 20 [t35, v1] (fun t75 w13 =>
  extK 0 t75 fun t76 =>
  extK 1 t75 fun t77 =>
  addK .i64 v1 (.int .i64 1) fun t81 =>
  callK Try.prog 27 [v0, v1, t81] (fun t82 w14 =>
  JoinK (fun vs_1 w15 => ∀ _h_1 : Env,
  JoinK (fun _vs_2 w16 => ∀ _h_2 : Env,
  lenK t76 fun t112 =>
  LoopK [(.int .i64 0)] (fun vs_3 again w17 => ∀ _h_3 : Env,
  ltK .i64 (nth vs_3 0) t112 fun t114 =>
  condK t114
  (ixK 5 t76 (nth vs_3 0) fun t118 =>
  faK 0 t118 fun t119 =>
  st1K t119 (.int .i64 (-3)) (fun w18 =>
  addK .i64 (nth vs_3 0) (.int .i64 1) fun t120 =>
  again [t120] w18) w17)
  (runK Try.prog (Instr.build 47 [(0, t37), (1, t41)].toArray) (fun t123 w19 =>
  LoopK [(.int .i64 0)] (fun vs_4 again_1 w20 => ∀ _h_4 : Env,
  ltK .i64 (nth vs_4 0) (.int .i64 2) fun t125 =>
  condK t125
  (runK Try.prog (Instr.index 47 t123 (nth vs_4 0)) (fun t126 w21 =>
  lenK t126 fun t128 =>
  LoopK [(.int .i64 0)] (fun vs_5 again_2 w22 => ∀ _h_5 : Env,
  ltK .i64 (nth vs_5 0) t128 fun t130 =>
  condK t130
  (ixK 2 t126 (nth vs_5 0) fun t134 =>
  faK 1 t134 fun t135 =>
  ld1K t135 (fun t136 w23 =>
  lenK t136 fun t137 =>
  LoopK [(.int .i64 0)] (fun vs_6 again_3 w24 => ∀ _h_6 : Env,
  ltK .i64 (nth vs_6 0) t137 fun t139 =>
  condK t139
  (ixK 2 t126 (nth vs_5 0) fun t143 =>
  faK 1 t143 fun t144 =>
  ld1K t144 (fun t145 w25 =>
  ixK 5 t145 (nth vs_6 0) fun t147 =>
  faK 0 t147 fun t148 =>
  st1K t148 (.int .i64 (-4)) (fun w26 =>
  addK .i64 (nth vs_6 0) (.int .i64 1) fun t149 =>
  again_3 [t149] w26) w25) w24)
  (ixK 2 t126 (nth vs_5 0) fun t152 =>
  faK 0 t152 fun t153 =>
  st1K t153 (.int .i64 (-1)) (fun w27 =>
  addK .i64 (nth vs_5 0) (.int .i64 1) fun t154 =>
  again_2 [t154] w27) w24)) w23) w22)
  (addK .i64 (nth vs_4 0) (.int .i64 1) fun t155 =>
  again_1 [t155] w22)) w21) w20)
  (callK Try.prog 16 [t35, v0] (fun t158 w28 =>
  condK t158
  (callK Try.prog 14 [] (fun t160 w29 =>
  K t160 w29) w28)
  (K (.bool false) w28)) w20)) w19) w17)) w16) (fun J_2 =>
  lenK (nth vs_1 0) fun t87 =>
  eqK .i64 t87 (.int .i64 1) fun t88 =>
  bneK t77 t88 fun t89 =>
  condK t89
  (K (.bool false) w15)
  (condK t77
  (ixK 2 (nth vs_1 0) (.int .i64 0) fun t95 =>
  faK 1 t95 fun t96 =>
  ld1K t96 (fun t97 w30 =>
  callK Try.prog 21 [t76, t97] (fun t98 w31 =>
  notK t98 fun t99 =>
  condK t99
  (K (.bool false) w31)
  (notK t77 fun t104 =>
  condK t104
  (lenK t76 fun t107 =>
  neK .i64 t107 (.int .i64 0) fun t108 =>
  condK t108
  (K (.bool false) w31)
  (J_2 [] w31))
  (J_2 [] w31))) w30) w15)
  (notK t77 fun t104_1 =>
  condK t104_1
  (lenK t76 fun t107_1 =>
  neK .i64 t107_1 (.int .i64 0) fun t108_1 =>
  condK t108_1
  (K (.bool false) w15)
  (J_2 [] w15))
  (J_2 [] w15))))) (fun J_1 =>
  eqK .i64 v1 (.int .i64 9223372036854775807) fun t84 =>
  condK t84
  (J_1 [(.slice none 0 0)] w14)
  (J_1 [t82] w14))) w13) w12) (fun J =>
  callK Try.prog 16 [t37, t43] (fun t50 w32 =>
  notK t50 fun t51 =>
  condK t51
  (K (.bool false) w32)
  (callK Try.prog 16 [t41, t47] (fun t55 w33 =>
  notK t55 fun t56 =>
  condK t56
  (K (.bool false) w33)
  (callK Try.prog 23 [t35] (fun t60 w34 =>
  callK Try.prog 28 [v0] (fun t62 w35 =>
  bneK t60 t62 fun t63 =>
  condK t63
  (K (.bool false) w35)
  (callK Try.prog 19 [t35] (fun t67 w36 =>
  callK Try.prog 29 [v0] (fun t69 w37 =>
  neK .i64 t67 t69 fun t70 =>
  condK t70
  (K (.bool false) w37)
  (J [] w37)) w36) w35)) w34) w33)) w32)) w11)) w10) w9) w8) w7) w1)) w
theorem S7_eq (v0 v1 v2 : Value) (K : Cont) (w : World) : S7 v0 v1 v2 K w = D Try.prog okf 162 (bodyOf Try.f7) (.node [] [] .nil (.node [] [] (.node [] [] .nil (.node [] [] (.node [] [] (.node [] [] .nil (.node [] [] (.node [] [] .nil (.node [] [] .nil .nil)) .nil)) (.node [] [] .nil .nil)) .nil)) (.node [] [] .nil (.node [] [] .nil (.node [] [] .nil (.cut [] [(6, 6), (48, 71)] (.node [] [] .nil (.node [] [] (.node [] [] .nil .nil) .nil)) (.node [] [] .nil (.node [] [] .nil (.cut [14] [(14, 14), (83, 84)] (.node [] [] .nil (.node [] [] .nil .nil)) (.cut [] [(6, 6), (85, 110)] (.node [] [] .nil (.node [] [] (.node [] [] .nil .nil) .nil)) (.node [] [] (.node [] [] .nil (.node [113] [(15, 15), (113, 120)] (.node [] [] .nil (.node [] [] (.node [] [] .nil .nil) (.node [] [] (.node [] [] .nil .nil) .nil))) .nil)) (.node [] [] (.node [] [] .nil (.node [124] [(17, 19), (124, 155)] (.node [] [] .nil (.node [] [] (.node [] [] .nil .nil) (.node [] [] (.node [] [] .nil (.node [] [] .nil (.node [129] [(18, 19), (129, 154)] (.node [] [] .nil (.node [] [] (.node [] [] .nil .nil) (.node [] [] (.node [] [] .nil (.node [] [] (.node [] [] .nil (.node [138] [(19, 19), (138, 149)] (.node [] [] .nil (.node [] [] (.node [] [] .nil .nil) (.node [] [] (.node [] [] .nil .nil) .nil))) .nil)) .nil)) .nil))) .nil))) .nil))) .nil)) (.node [] [] .nil .nil))))))))))))) (retK Try.prog [.tmp 6] K) (nth [v0, v1, v2]) w := by kernel_rfl
theorem S7_ok {v0 v1 v2 : Value} {K : Cont} {w : World} (h : S7 v0 v1 v2 K w) : callK Try.prog 7 [v0, v1, v2] K w :=
  callK_of (P := Try.prog) (ok := okf) (n := 162) (fn := Try.f7) (c := bodyOf Try.f7) (rs := [.tmp 6]) (an := (.node [] [] .nil (.node [] [] (.node [] [] .nil (.node [] [] (.node [] [] (.node [] [] .nil (.node [] [] (.node [] [] .nil (.node [] [] .nil .nil)) .nil)) (.node [] [] .nil .nil)) .nil)) (.node [] [] .nil (.node [] [] .nil (.node [] [] .nil (.cut [] [(6, 6), (48, 71)] (.node [] [] .nil (.node [] [] (.node [] [] .nil .nil) .nil)) (.node [] [] .nil (.node [] [] .nil (.cut [14] [(14, 14), (83, 84)] (.node [] [] .nil (.node [] [] .nil .nil)) (.cut [] [(6, 6), (85, 110)] (.node [] [] .nil (.node [] [] (.node [] [] .nil .nil) .nil)) (.node [] [] (.node [] [] .nil (.node [113] [(15, 15), (113, 120)] (.node [] [] .nil (.node [] [] (.node [] [] .nil .nil) (.node [] [] (.node [] [] .nil .nil) .nil))) .nil)) (.node [] [] (.node [] [] .nil (.node [124] [(17, 19), (124, 155)] (.node [] [] .nil (.node [] [] (.node [] [] .nil .nil) (.node [] [] (.node [] [] .nil (.node [] [] .nil (.node [129] [(18, 19), (129, 154)] (.node [] [] .nil (.node [] [] (.node [] [] .nil .nil) (.node [] [] (.node [] [] .nil (.node [] [] (.node [] [] .nil (.node [138] [(19, 19), (138, 149)] (.node [] [] .nil (.node [] [] (.node [] [] .nil .nil) (.node [] [] (.node [] [] .nil .nil) .nil))) .nil)) .nil)) .nil))) .nil))) .nil))) .nil)) (.node [] [] .nil .nil)))))))))))))) good mixed Try.func7 (by kernel_rfl) (by kernel_rfl) (by kernel_rfl) (by kernel_rfl) (Eq.mp (S7_eq v0 v1 v2 K w) h)

/-- rubric/rubriclaw12.known -/
def S14 (K : Cont) (w : World) : Prop :=
  buildK [(0, 1), (1, 1), (2, 1), (3, 1)] [(.int .u8 0), (.int .i64 0), (.int .u64 0), (.string (ByteArray.mk #[]))] [(0, (.int .u8 1)), (1, (.int .i64 1))] fun t4 =>
  buildK [(0, 1), (1, 4)] [(.int .i64 0), (.int .u8 0), (.int .i64 0), (.int .u64 0), (.string (ByteArray.mk #[]))] [(0, (.int .i64 1)), (1, t4)] fun t5 =>
  rowK 46 5 1 [(.int .i64 0), (.int .u8 0), (.int .i64 0), (.int .u64 0), (.string (ByteArray.mk #[]))] [(0, t5)] (fun t6 w1 =>
  buildK [(0, 1), (1, 1)] [(.int .i64 0), (.slice none 0 0)] [(0, (.int .i64 2)), (1, t6)] fun t8 =>
  buildK [(0, 1), (1, 1)] [(.int .i64 0), (.slice none 0 0)] [(0, (.int .i64 0))] fun t9 =>
  buildK [(0, 1), (1, 1)] [(.int .i64 0), (.slice none 0 0)] [(0, (.int .i64 3)), (1, t6)] fun t11 =>
  rowK 34 2 3 [(.int .i64 0), (.slice none 0 0)] [(0, t8), (1, t9), (2, t11)] (fun t12 w2 =>
  callK Try.prog 17 [t12] (fun t13 w3 =>
  buildK [(0, 1), (1, 1)] [(.int .i32 0), (.slice none 0 0)] [(0, (.int .i32 97)), (1, t6)] fun t15 =>
  buildK [(0, 1), (1, 1)] [(.int .i32 0), (.slice none 0 0)] [(0, (.int .i32 98)), (1, t6)] fun t17 =>
  buildK [(0, 1), (1, 1)] [(.int .i32 0), (.slice none 0 0)] [(0, (.int .i32 10))] fun t18 =>
  buildK [(0, 1), (1, 1)] [(.int .i32 0), (.slice none 0 0)] [(0, (.int .i32 99))] fun t19 =>
  rowK 26 2 4 [(.int .i32 0), (.slice none 0 0)] [(0, t15), (1, t17), (2, t18), (3, t19)] (fun t20 w4 =>
  callK Try.prog 15 [t20] (fun t21 w5 =>
  lenK t13 fun t23 =>
  eqK .i64 t23 (.int .i64 1) fun t24 =>
  condK t24
  (ixK 2 t13 (.int .i64 0) fun t27 =>
  faK 0 t27 fun t28 =>
  ld1K t28 (fun t29 w6 =>
  eqK .i64 t29 (.int .i64 5) fun t30 =>
  condK t30
  (lenK t21 fun t34 =>
  eqK .i64 t34 (.int .i64 2) fun t35 =>
  condK t35
  (ixK 2 t21 (.int .i64 1) fun t39 =>
  faK 0 t39 fun t40 =>
  ld1K t40 (fun t41 w7 =>
  eqK .i64 t41 (.int .i64 2) fun t42 =>
  condK t42
  (callK Try.prog 19 [t21] (fun t46 w8 =>
  eqK .i64 t46 (.int .i64 4) fun t47 =>
  K t47 w8) w7)
  (K (.bool false) w7)) w6)
  (K (.bool false) w6))
  (K (.bool false) w6)) w5)
  (K (.bool false) w5)) w4) w3) w2) w1) w
theorem S14_eq (K : Cont) (w : World) : S14  K w = D Try.prog okf 49 (bodyOf Try.f14) (.node [] [] .nil (.node [] [] .nil (.node [] [] .nil (.node [] [] .nil (.node [] [] .nil .nil))))) (retK Try.prog [.tmp 0] K) (nth []) w := by kernel_rfl
theorem S14_ok {K : Cont} {w : World} (h : S14  K w) : callK Try.prog 14 [] K w :=
  callK_of (P := Try.prog) (ok := okf) (n := 49) (fn := Try.f14) (c := bodyOf Try.f14) (rs := [.tmp 0]) (an := (.node [] [] .nil (.node [] [] .nil (.node [] [] .nil (.node [] [] .nil (.node [] [] .nil .nil)))))) good mixed Try.func14 (by kernel_rfl) (by kernel_rfl) (by kernel_rfl) (by kernel_rfl) (Eq.mp (S14_eq  K w) h)

/-- rubric/blocks.Of -/
def S15 (v0 : Value) (K : Cont) (w : World) : Prop :=
  lenK v0 fun t8 =>
  LoopK [(.slice none 0 0), (.int .i64 0)] (fun vs again w1 => ∀ _h : Env,
  ltK .i64 (nth vs 1) t8 fun t10 =>
  condK t10
  (ixK 2 v0 (nth vs 1) fun t11 =>
  ldnK 2 t11 (fun t12 w2 =>
  newK 26 [(.int .i32 0), (.slice none 0 0)] (fun t5 w3 =>
  stnK 2 t5 t12 (fun w4 =>
  faK 1 t5 fun t13 =>
  ld1K t13 (fun t14 w5 =>
  faK 0 t5 fun t15 =>
  ld1K t15 (fun t16 w6 =>
  eqK .i32 t16 (.int .i32 10) fun t17 =>
  condK t17
  (callK Try.prog 51 [(nth vs 0), (.int .i64 1), (.slice none 0 0)] (fun t20 w7 =>
  addK .i64 (nth vs 1) (.int .i64 1) fun t21 =>
  again [t20, t21] w7) w6)
  (callK Try.prog 51 [(nth vs 0), (.int .i64 1), t14] (fun t20_1 w8 =>
  addK .i64 (nth vs 1) (.int .i64 1) fun t21_1 =>
  again [t20_1, t21_1] w8) w6)) w5) w4) w3) w2) w1)
  (K (nth vs 0) w1)) w
theorem S15_eq (v0 : Value) (K : Cont) (w : World) : S15 v0 K w = D Try.prog okf 23 (bodyOf Try.f15) (.node [] [] .nil (.node [] [] .nil (.node [] [] (.node [] [] .nil (.node [3, 9] [(3, 3), (5, 6), (9, 21)] (.node [] [] .nil (.node [] [] (.node [] [] .nil .nil) (.node [] [] (.node [] [] .nil (.node [] [] .nil (.node [] [] (.node [] [] .nil (.node [] [] .nil .nil)) .nil))) .nil))) .nil)) (.node [] [] .nil .nil)))) (retK Try.prog [.tmp 2] K) (nth [v0]) w := by kernel_rfl
theorem S15_ok {v0 : Value} {K : Cont} {w : World} (h : S15 v0 K w) : callK Try.prog 15 [v0] K w :=
  callK_of (P := Try.prog) (ok := okf) (n := 23) (fn := Try.f15) (c := bodyOf Try.f15) (rs := [.tmp 2]) (an := (.node [] [] .nil (.node [] [] .nil (.node [] [] (.node [] [] .nil (.node [3, 9] [(3, 3), (5, 6), (9, 21)] (.node [] [] .nil (.node [] [] (.node [] [] .nil .nil) (.node [] [] (.node [] [] .nil (.node [] [] .nil (.node [] [] (.node [] [] .nil (.node [] [] .nil .nil)) .nil))) .nil))) .nil)) (.node [] [] .nil .nil))))) good mixed Try.func15 (by kernel_rfl) (by kernel_rfl) (by kernel_rfl) (by kernel_rfl) (Eq.mp (S15_eq v0 K w) h)

/-- rubric/rubricref12.Same -/
def S16 (v0 v1 : Value) (K : Cont) (w : World) : Prop :=
  lenK v0 fun t7 =>
  lenK v1 fun t9 =>
  neK .i64 t7 t9 fun t10 =>
  condK t10
  (K (.bool false) w)
  (LoopK [(.int .i64 0)] (fun vs again w1 => ∀ _h : Env,
  lenK v0 fun t13 =>
  ltK .i64 (nth vs 0) t13 fun t14 =>
  condK t14
  (DrawK w1 (fun C =>
  ixK 2 v0 (nth vs 0) fun t19 =>
  faK 0 t19 fun t20 =>
  qld1K C t20 fun t21 =>
  ixK 2 v1 (nth vs 0) fun t24 =>
  faK 0 t24 fun t25 =>
  qld1K C t25 fun t26 =>
  neK .i64 t21 t26 fun t27 =>
  condK t27
  (∀ w2 : World, C w2 →
  K (.bool false) w2)
  (ixK 2 v0 (nth vs 0) fun t31 =>
  faK 1 t31 fun t32 =>
  qld1K C t32 fun t33 =>
  ixK 2 v1 (nth vs 0) fun t36 =>
  faK 1 t36 fun t37 =>
  qld1K C t37 fun t38 =>
  qcallK Try.prog C 21 [t33, t38] fun t39 =>
  notK t39 fun t40 =>
  ∀ w3 : World, C w3 →
  condK t40
  (K (.bool false) w3)
  (addK .i64 (nth vs 0) (.int .i64 1) fun t16_1 =>
  again [t16_1] w3))))
  (K (.bool true) w1)) w)
theorem S16_eq (v0 v1 : Value) (K : Cont) (w : World) : S16 v0 v1 K w = D Try.prog okf 42 (bodyOf Try.f16) (.node [] [] .nil (.node [] [] (.node [] [] .nil (.node [] [] (.node [] [] .nil .nil) .nil)) (.node [] [] (.node [] [] .nil (.node [5] [(4, 5), (11, 41)] (.node [] [] (.node [] [] .nil (.node [] [] .nil .nil)) (.node [] [] (.node [] [] .draw (.node [] [] (.node [] [] .nil .nil) .nil)) .nil)) .nil)) (.node [] [] .nil .nil)))) (retK Try.prog [.tmp 4] K) (nth [v0, v1]) w := by kernel_rfl
theorem S16_ok {v0 v1 : Value} {K : Cont} {w : World} (h : S16 v0 v1 K w) : callK Try.prog 16 [v0, v1] K w :=
  callK_of (P := Try.prog) (ok := okf) (n := 42) (fn := Try.f16) (c := bodyOf Try.f16) (rs := [.tmp 4]) (an := (.node [] [] .nil (.node [] [] (.node [] [] .nil (.node [] [] (.node [] [] .nil .nil) .nil)) (.node [] [] (.node [] [] .nil (.node [5] [(4, 5), (11, 41)] (.node [] [] (.node [] [] .nil (.node [] [] .nil .nil)) (.node [] [] (.node [] [] .draw (.node [] [] (.node [] [] .nil .nil) .nil)) .nil)) .nil)) (.node [] [] .nil .nil))))) good mixed Try.func16 (by kernel_rfl) (by kernel_rfl) (by kernel_rfl) (by kernel_rfl) (Eq.mp (S16_eq v0 v1 K w) h)

/-- rubric/blocks.Join -/
def S17 (v0 : Value) (K : Cont) (w : World) : Prop :=
  lenK v0 fun t7 =>
  LoopK [(.slice none 0 0), (.int .i64 0)] (fun vs again w1 => ∀ _h : Env,
  ltK .i64 (nth vs 1) t7 fun t9 =>
  condK t9
  (ixK 2 v0 (nth vs 1) fun t10 =>
  ldnK 2 t10 (fun t11 w2 =>
  newK 34 [(.int .i64 0), (.slice none 0 0)] (fun t5 w3 =>
  stnK 2 t5 t11 (fun w4 =>
  faK 0 t5 fun t13 =>
  ld1K t13 (fun t14 w5 =>
  faK 1 t5 fun t15 =>
  ld1K t15 (fun t16 w6 =>
  callK Try.prog 51 [(nth vs 0), t14, t16] (fun t17 w7 =>
  addK .i64 (nth vs 1) (.int .i64 1) fun t18 =>
  again [t17, t18] w7) w6) w5) w4) w3) w2) w1)
  (K (nth vs 0) w1)) w
theorem S17_eq (v0 : Value) (K : Cont) (w : World) : S17 v0 K w = D Try.prog okf 20 (bodyOf Try.f17) (.node [] [] .nil (.node [] [] .nil (.node [] [] (.node [] [] .nil (.node [3, 8] [(3, 3), (5, 5), (8, 18)] (.node [] [] .nil (.node [] [] (.node [] [] .nil .nil) (.node [] [] (.node [] [] .nil .nil) .nil))) .nil)) (.node [] [] .nil .nil)))) (retK Try.prog [.tmp 2] K) (nth [v0]) w := by kernel_rfl
theorem S17_ok {v0 : Value} {K : Cont} {w : World} (h : S17 v0 K w) : callK Try.prog 17 [v0] K w :=
  callK_of (P := Try.prog) (ok := okf) (n := 20) (fn := Try.f17) (c := bodyOf Try.f17) (rs := [.tmp 2]) (an := (.node [] [] .nil (.node [] [] .nil (.node [] [] (.node [] [] .nil (.node [3, 8] [(3, 3), (5, 5), (8, 18)] (.node [] [] .nil (.node [] [] (.node [] [] .nil .nil) (.node [] [] (.node [] [] .nil .nil) .nil))) .nil)) (.node [] [] .nil .nil))))) good mixed Try.func17 (by kernel_rfl) (by kernel_rfl) (by kernel_rfl) (by kernel_rfl) (Eq.mp (S17_eq v0 K w) h)

/-- rubric/rubriclaw12.tame -/
def S18 (v0 : Value) (K : Cont) (w : World) : Prop :=
  lenK v0 fun t5 =>
  gtK .i64 t5 (.int .i64 200) fun t6 =>
  condK t6
  (K (.bool false) w)
  (lenK v0 fun t8 =>
  LoopK [(.int .i64 0)] (fun vs again w1 => ∀ _h : Env,
  ltK .i64 (nth vs 0) t8 fun t10 =>
  condK t10
  (ixK 2 v0 (nth vs 0) fun t14 =>
  faK 0 t14 fun t15 =>
  ld1K t15 (fun t16 w2 =>
  ltK .i64 t16 (.int .i64 0) fun t17 =>
  condK t17
  (K (.bool false) w2)
  (ixK 2 v0 (nth vs 0) fun t21 =>
  faK 0 t21 fun t22 =>
  ld1K t22 (fun t23 w3 =>
  gtK .i64 t23 (.int .i64 1099511627776) fun t24 =>
  condK t24
  (K (.bool false) w3)
  (ixK 2 v0 (nth vs 0) fun t29 =>
  faK 1 t29 fun t30 =>
  ld1K t30 (fun t31 w4 =>
  lenK t31 fun t32 =>
  gtK .i64 t32 (.int .i64 30) fun t33 =>
  condK t33
  (K (.bool false) w4)
  (addK .i64 (nth vs 0) (.int .i64 1) fun t35_2 =>
  again [t35_2] w4)) w3)) w2)) w1)
  (K (.bool true) w1)) w)
theorem S18_eq (v0 : Value) (K : Cont) (w : World) : S18 v0 K w = D Try.prog okf 36 (bodyOf Try.f18) (.node [] [] .nil (.node [] [] (.node [] [] .nil (.node [] [] (.node [] [] .nil .nil) .nil)) (.node [] [] (.node [] [] .nil (.node [9] [(2, 3), (9, 35)] (.node [] [] .nil (.node [] [] (.node [] [] .nil .nil) (.node [] [] (.node [] [] .nil (.node [] [] .nil (.node [] [] (.node [] [] .nil .nil) .nil))) .nil))) .nil)) (.node [] [] .nil .nil)))) (retK Try.prog [.tmp 2] K) (nth [v0]) w := by kernel_rfl
theorem S18_ok {v0 : Value} {K : Cont} {w : World} (h : S18 v0 K w) : callK Try.prog 18 [v0] K w :=
  callK_of (P := Try.prog) (ok := okf) (n := 36) (fn := Try.f18) (c := bodyOf Try.f18) (rs := [.tmp 2]) (an := (.node [] [] .nil (.node [] [] (.node [] [] .nil (.node [] [] (.node [] [] .nil .nil) .nil)) (.node [] [] (.node [] [] .nil (.node [9] [(2, 3), (9, 35)] (.node [] [] .nil (.node [] [] (.node [] [] .nil .nil) (.node [] [] (.node [] [] .nil (.node [] [] .nil (.node [] [] (.node [] [] .nil .nil) .nil))) .nil))) .nil)) (.node [] [] .nil .nil))))) good mixed Try.func18 (by kernel_rfl) (by kernel_rfl) (by kernel_rfl) (by kernel_rfl) (Eq.mp (S18_eq v0 K w) h)

/-- rubric/blocks.Len -/
def S19 (v0 : Value) (K : Cont) (w : World) : Prop :=
  newK 3 [(.int .i64 0)] (fun t3 w1 =>
  st1K t3 (.int .i64 0) (fun w2 =>
  callK Try.prog 52 [v0] (fun t7 w3 =>
  RangeK Try.prog okf t7 2 (fun args beg w4 =>
  newK 34 [(.int .i64 0), (.slice none 0 0)] (fun t5 w6 =>
  stnK 2 t5 (nth args 1) (fun w7 =>
  beg (fun post w5 =>
  faK 0 t5 fun t11 =>
  ld1K t11 (fun t12 w8 =>
  addK .i64 (nth args 0) t12 fun t13 =>
  st1K t3 t13 (fun w9 =>
  post .normal w9) w8) w5) w7) w6) w4) (nOf (fun w10 =>
  ld1K t3 (fun t14 w11 =>
  markK w3.heap.size (fun w12 =>
  K t14 w12) w11) w10) (fun w13 =>
  markK w3.heap.size (fun w14 =>
  K (.int .i64 0) w14) w13) []) w3) w2) w1) w
theorem S19_eq (v0 : Value) (K : Cont) (w : World) : S19 v0 K w = DM Try.prog okf 15 (bodyOf Try.f19) (.node [] [] .nil (.node [] [] .nil (.node [] [] (.node [] [] .nil (.node [] [] (.node [] [] .nil .nil) .nil)) (.node [] [] .nil .nil)))) (fun m => retMK Try.prog m [.tmp 2] K) (retK Try.prog [.tmp 2] K) (nth [v0]) w := by kernel_rfl
theorem S19_ok {v0 : Value} {K : Cont} {w : World} (h : S19 v0 K w) : callK Try.prog 19 [v0] K w :=
  callK_ofM (P := Try.prog) (ok := okf) (n := 15) (fn := Try.f19) (c := bodyOf Try.f19) (rs := [.tmp 2]) (an := (.node [] [] .nil (.node [] [] .nil (.node [] [] (.node [] [] .nil (.node [] [] (.node [] [] .nil .nil) .nil)) (.node [] [] .nil .nil))))) good mixed Try.func19 (by kernel_rfl) (by kernel_rfl) (by kernel_rfl) (by kernel_rfl) (Eq.mp (S19_eq v0 K w) h)

/-- rubric/blocks.At -/
def S20 (v0 v1 : Value) (K : Cont) (w : World) : Prop :=
  box1K 3 v1 (fun t3 w1 =>
  newK 24 [(.slice none 0 0)] (fun t4 w2 =>
  newK 4 [(.bool false)] (fun t5 w3 =>
  callK Try.prog 52 [v0] (fun t9 w4 =>
  RangeK Try.prog okf t9 2 (fun args beg w5 =>
  newK 34 [(.int .i64 0), (.slice none 0 0)] (fun t7 w7 =>
  stnK 2 t7 (nth args 1) (fun w8 =>
  beg (fun post w6 =>
  ld1K t3 (fun t12 w9 =>
  geK .i64 t12 (nth args 0) fun t14 =>
  condK t14
  (ld1K t3 (fun t16 w10 =>
  faK 0 t7 fun t18 =>
  ld1K t18 (fun t19 w11 =>
  addK .i64 (nth args 0) t19 fun t20 =>
  ltK .i64 t16 t20 fun t21 =>
  condK t21
  (faK 1 t7 fun t23 =>
  ld1K t23 (fun t24 w12 =>
  callK Try.prog 53 [t24] (fun t25 w13 =>
  st1K t4 t25 (fun w14 =>
  st1K t5 (.bool true) (fun w15 =>
  post .ret w15) w14) w13) w12) w11)
  (post .normal w11)) w10) w9)
  (post .normal w9)) w6) w8) w7) w5) (nOf (fun w20 =>
  st1K t4 (.slice none 0 0) (fun w21 =>
  st1K t5 (.bool false) (fun w22 =>
  markK w4.heap.size (fun w23 =>
  ld1K t4 (fun r0 w24 =>
  ld1K t5 (fun r1 w25 =>
  K (.tuple #[r0, r1]) w25) w24) w23) w22) w21) w20) (fun w26 =>
  markK w4.heap.size (fun w27 =>
  ld1K t4 (fun r0_1 w28 =>
  ld1K t5 (fun r1_1 w29 =>
  K (.tuple #[r0_1, r1_1]) w29) w28) w27) w26) []) w4) w3) w2) w1) w
theorem S20_eq (v0 v1 : Value) (K : Cont) (w : World) : S20 v0 v1 K w = DM Try.prog okf 26 (bodyOf Try.f20) (.node [] [] .nil (.node [] [] (.node [] [] .nil (.node [] [] (.node [] [] .nil .nil) (.node [] [] .nil (.node [] [] (.node [] [] .nil .nil) .nil)))) (.node [] [] .nil .nil))) (fun m => retMK Try.prog m [.cell 4 24, .cell 5 4] K) (retK Try.prog [.cell 4 24, .cell 5 4] K) (nth [v0, v1]) w := by kernel_rfl
theorem S20_ok {v0 v1 : Value} {K : Cont} {w : World} (h : S20 v0 v1 K w) : callK Try.prog 20 [v0, v1] K w :=
  callK_ofM (P := Try.prog) (ok := okf) (n := 26) (fn := Try.f20) (c := bodyOf Try.f20) (rs := [.cell 4 24, .cell 5 4]) (an := (.node [] [] .nil (.node [] [] (.node [] [] .nil (.node [] [] (.node [] [] .nil .nil) (.node [] [] .nil (.node [] [] (.node [] [] .nil .nil) .nil)))) (.node [] [] .nil .nil)))) good mixed Try.func20 (by kernel_rfl) (by kernel_rfl) (by kernel_rfl) (by kernel_rfl) (Eq.mp (S20_eq v0 v1 K w) h)

/-- rubric/rubricref05.Same -/
def S21 (v0 v1 : Value) (K : Cont) (w : World) : Prop :=
  lenK v0 fun t7 =>
  lenK v1 fun t9 =>
  neK .i64 t7 t9 fun t10 =>
  condK t10
  (K (.bool false) w)
  (LoopK [(.int .i64 0)] (fun vs again w1 => ∀ _h : Env,
  lenK v0 fun t13 =>
  ltK .i64 (nth vs 0) t13 fun t14 =>
  condK t14
  (DrawK w1 (fun C =>
  ixK 5 v0 (nth vs 0) fun t19 =>
  qldnK C 5 t19 fun t20 =>
  ixK 5 v1 (nth vs 0) fun t23 =>
  qldnK C 5 t23 fun t24 =>
  qrunK Try.prog C (binS .neq 46 (.tmp 20) (.tmp 24) t20 t24) fun t25 =>
  ∀ w2 : World, C w2 →
  condK t25
  (K (.bool false) w2)
  (addK .i64 (nth vs 0) (.int .i64 1) fun t16 =>
  again [t16] w2)))
  (K (.bool true) w1)) w)
theorem S21_eq (v0 v1 : Value) (K : Cont) (w : World) : S21 v0 v1 K w = D Try.prog okf 26 (bodyOf Try.f21) (.node [] [] .nil (.node [] [] (.node [] [] .nil (.node [] [] (.node [] [] .nil .nil) .nil)) (.node [] [] (.node [] [] .nil (.node [5] [(4, 5), (11, 25)] (.node [] [] (.node [] [] .nil (.node [] [] .nil .nil)) (.node [] [] (.node [] [] .draw (.node [] [] (.node [] [] .nil .nil) .nil)) .nil)) .nil)) (.node [] [] .nil .nil)))) (retK Try.prog [.tmp 4] K) (nth [v0, v1]) w := by kernel_rfl
theorem S21_ok {v0 v1 : Value} {K : Cont} {w : World} (h : S21 v0 v1 K w) : callK Try.prog 21 [v0, v1] K w :=
  callK_of (P := Try.prog) (ok := okf) (n := 26) (fn := Try.f21) (c := bodyOf Try.f21) (rs := [.tmp 4]) (an := (.node [] [] .nil (.node [] [] (.node [] [] .nil (.node [] [] (.node [] [] .nil .nil) .nil)) (.node [] [] (.node [] [] .nil (.node [5] [(4, 5), (11, 25)] (.node [] [] (.node [] [] .nil (.node [] [] .nil .nil)) (.node [] [] (.node [] [] .draw (.node [] [] (.node [] [] .nil .nil) .nil)) .nil)) .nil)) (.node [] [] .nil .nil))))) good mixed Try.func21 (by kernel_rfl) (by kernel_rfl) (by kernel_rfl) (by kernel_rfl) (Eq.mp (S21_eq v0 v1 K w) h)

/-- rubric/rubricref12.Of -/
def S22 (v0 : Value) (K : Cont) (w : World) : Prop :=
  LoopK [(.slice none 0 0), (.int .i64 0)] (fun vs again w1 => ∀ _h : Env,
  lenK v0 fun t7 =>
  ltK .i64 (nth vs 1) t7 fun t8 =>
  condK t8
  (ixK 2 v0 (nth vs 1) fun t13 =>
  faK 0 t13 fun t14 =>
  ld1K t14 (fun t15 w2 =>
  eqK .i32 t15 (.int .i32 10) fun t16 =>
  condK t16
  (callK Try.prog 54 [(nth vs 0), (.int .i64 1), (.slice none 0 0)] (fun t18 w3 =>
  addK .i64 (nth vs 1) (.int .i64 1) fun t10 =>
  again [t18, t10] w3) w2)
  (ixK 2 v0 (nth vs 1) fun t22 =>
  faK 1 t22 fun t23 =>
  ld1K t23 (fun t24 w4 =>
  callK Try.prog 54 [(nth vs 0), (.int .i64 1), t24] (fun t25 w5 =>
  addK .i64 (nth vs 1) (.int .i64 1) fun t10_1 =>
  again [t25, t10_1] w5) w4) w2)) w1)
  (K (nth vs 0) w1)) w
theorem S22_eq (v0 : Value) (K : Cont) (w : World) : S22 v0 K w = D Try.prog okf 27 (bodyOf Try.f22) (.node [] [] .nil (.node [] [] .nil (.node [] [] (.node [] [] .nil (.node [3, 4] [(3, 25)] (.node [] [] (.node [] [] .nil (.node [] [] .nil .nil)) (.node [] [] (.node [] [] .nil (.node [] [] .nil .nil)) .nil)) .nil)) (.node [] [] .nil .nil)))) (retK Try.prog [.tmp 2] K) (nth [v0]) w := by kernel_rfl
theorem S22_ok {v0 : Value} {K : Cont} {w : World} (h : S22 v0 K w) : callK Try.prog 22 [v0] K w :=
  callK_of (P := Try.prog) (ok := okf) (n := 27) (fn := Try.f22) (c := bodyOf Try.f22) (rs := [.tmp 2]) (an := (.node [] [] .nil (.node [] [] .nil (.node [] [] (.node [] [] .nil (.node [3, 4] [(3, 25)] (.node [] [] (.node [] [] .nil (.node [] [] .nil .nil)) (.node [] [] (.node [] [] .nil (.node [] [] .nil .nil)) .nil)) .nil)) (.node [] [] .nil .nil))))) good mixed Try.func22 (by kernel_rfl) (by kernel_rfl) (by kernel_rfl) (by kernel_rfl) (Eq.mp (S22_eq v0 K w) h)

/-- rubric/blocks.Proper -/
def S23 (v0 : Value) (K : Cont) (w : World) : Prop :=
  lenK v0 fun t6 =>
  LoopK [(.int .i64 0)] (fun vs again w1 => ∀ _h : Env,
  ltK .i64 (nth vs 0) t6 fun t8 =>
  condK t8
  (ixK 2 v0 (nth vs 0) fun t10 =>
  ldnK 2 t10 (fun t11 w2 =>
  newK 34 [(.int .i64 0), (.slice none 0 0)] (fun t4 w3 =>
  stnK 2 t4 t11 (fun w4 =>
  DrawK w4 (fun C =>
  faK 0 t4 fun t12 =>
  qld1K C t12 fun t13 =>
  leK .i64 t13 (.int .i64 0) fun t14 =>
  condK t14
  (∀ w5 : World, C w5 →
  K (.bool false) w5)
  (gtK .i64 (nth vs 0) (.int .i64 0) fun t17 =>
  condK t17
  (subK .i64 (nth vs 0) (.int .i64 1) fun t21 =>
  ixK 2 v0 t21 fun t22 =>
  faK 1 t22 fun t23 =>
  qld1K C t23 fun t24 =>
  faK 1 t4 fun t25 =>
  qld1K C t25 fun t26 =>
  qcallK Try.prog C 55 [t24, t26] fun t27 =>
  ∀ w6 : World, C w6 →
  condK t27
  (K (.bool false) w6)
  (addK .i64 (nth vs 0) (.int .i64 1) fun t30_1 =>
  again [t30_1] w6))
  (∀ w7 : World, C w7 →
  addK .i64 (nth vs 0) (.int .i64 1) fun t30_2 =>
  again [t30_2] w7)))) w3) w2) w1)
  (K (.bool true) w1)) w
theorem S23_eq (v0 : Value) (K : Cont) (w : World) : S23 v0 K w = D Try.prog okf 31 (bodyOf Try.f23) (.node [] [] .nil (.node [] [] (.node [] [] .nil (.node [7] [(2, 4), (7, 30)] (.node [] [] .nil (.node [] [] (.node [] [] .nil .nil) (.node [] [] (.node [] [] .nil (.node [] [] .draw (.node [] [] (.node [] [] .nil .nil) .nil))) .nil))) .nil)) (.node [] [] .nil .nil))) (retK Try.prog [.tmp 2] K) (nth [v0]) w := by kernel_rfl
theorem S23_ok {v0 : Value} {K : Cont} {w : World} (h : S23 v0 K w) : callK Try.prog 23 [v0] K w :=
  callK_of (P := Try.prog) (ok := okf) (n := 31) (fn := Try.f23) (c := bodyOf Try.f23) (rs := [.tmp 2]) (an := (.node [] [] .nil (.node [] [] (.node [] [] .nil (.node [7] [(2, 4), (7, 30)] (.node [] [] .nil (.node [] [] (.node [] [] .nil .nil) (.node [] [] (.node [] [] .nil (.node [] [] .draw (.node [] [] (.node [] [] .nil .nil) .nil))) .nil))) .nil)) (.node [] [] .nil .nil)))) good mixed Try.func23 (by kernel_rfl) (by kernel_rfl) (by kernel_rfl) (by kernel_rfl) (Eq.mp (S23_eq v0 K w) h)

/-- rubric/blocks.Cut -/
def S24 (v0 v1 v2 : Value) (K : Cont) (w : World) : Prop :=
  box1K 3 v1 (fun t4 w1 =>
  box1K 3 v2 (fun t5 w2 =>
  newK 27 [(.slice none 0 0)] (fun t7 w3 =>
  DrawC [5, 7, 8] [[], [0], [], [2], [], [4], [2, 3, 4, 5], [0, 1, 4, 5], [0, 1, 2, 3, 4, 5, 6, 7]] w3.drew (fun M St =>
  sld1 (St 0) t4 fun t10 =>
  maxK .i64 t10 (.int .i64 0) fun t11 =>
  sld1 (St 2) t5 fun t12 =>
  maxK .i64 t12 (.int .i64 0) fun t13 =>
  callK Try.prog 19 [v0] (fun t15 w4 =>
  Mod (M 5) w3.drew w4 ∧
  minK .i64 t13 t15 fun t16 =>
  st1K t4 t11 (fun w5 =>
  Mod (M 7) w4 w5 ∧
  st1K t5 t16 (fun w6 =>
  Mod (M 8) w5 w6 ∧
  callK Try.prog 52 [v0] (fun t18 w7 =>
  RangeK Try.prog okf t18 2 (fun args beg w8 =>
  newK 34 [(.int .i64 0), (.slice none 0 0)] (fun t9 w10 =>
  stnK 2 t9 (nth args 1) (fun w11 =>
  beg (fun post w9 =>
  ld1K t4 (fun t21 w12 =>
  ld1K t5 (fun t22 w13 =>
  geK .i64 t21 t22 fun t23 =>
  condK t23
  (post (.exit 0) w13)
  (ld1K t7 (fun t24 w14 =>
  faK 0 t9 fun t26 =>
  ld1K t26 (fun t27 w15 =>
  addK .i64 (nth args 0) t27 fun t28 =>
  ld1K t5 (fun t29 w16 =>
  minK .i64 t28 t29 fun t30 =>
  ld1K t4 (fun t32 w17 =>
  maxK .i64 (nth args 0) t32 fun t33 =>
  subK .i64 t30 t33 fun t34 =>
  faK 1 t9 fun t35 =>
  ld1K t35 (fun t36 w18 =>
  callK Try.prog 51 [t24, t34, t36] (fun t37 w19 =>
  st1K t7 t37 (fun w20 =>
  post .normal w20) w19) w18) w17) w16) w15) w14) w13)) w12) w9) w11) w10) w8) (nOf (fun w21 =>
  ld1K t7 (fun t38 w22 =>
  markK w7.heap.size (fun w23 =>
  K t38 w23) w22) w21) (fun w24 =>
  markK w7.heap.size (fun w25 =>
  K (.slice none 0 0) w25) w24) [(0, fun w26 =>
  ld1K t7 (fun t38_1 w27 =>
  markK w7.heap.size (fun w28 =>
  K t38_1 w28) w27) w26)]) w7) w6) w5) w4) w3.drew)) w2) w1) w
theorem S24_eq (v0 v1 v2 : Value) (K : Cont) (w : World) : S24 v0 v1 v2 K w = DM Try.prog okf 39 (bodyOf Try.f24) (.node [] [] .nil (.node [] [] .nil (.node [] [] (.dc [5, 7, 8] [[], [0], [], [2], [], [4], [2, 3, 4, 5], [0, 1, 4, 5], [0, 1, 2, 3, 4, 5, 6, 7]] [[5]]) (.node [] [] (.node [] [] .nil (.node [0] [] (.node [] [] .nil .nil) (.node [] [] (.node [] [] .nil (.node [] [] .nil .nil)) .nil))) (.node [] [] .nil .nil))))) (fun m => retMK Try.prog m [.tmp 6] K) (retK Try.prog [.tmp 6] K) (nth [v0, v1, v2]) w := by kernel_rfl
theorem S24_ok {v0 v1 v2 : Value} {K : Cont} {w : World} (h : S24 v0 v1 v2 K w) : callK Try.prog 24 [v0, v1, v2] K w :=
  callK_ofM (P := Try.prog) (ok := okf) (n := 39) (fn := Try.f24) (c := bodyOf Try.f24) (rs := [.tmp 6]) (an := (.node [] [] .nil (.node [] [] .nil (.node [] [] (.dc [5, 7, 8] [[], [0], [], [2], [], [4], [2, 3, 4, 5], [0, 1, 4, 5], [0, 1, 2, 3, 4, 5, 6, 7]] [[5]]) (.node [] [] (.node [] [] .nil (.node [0] [] (.node [] [] .nil .nil) (.node [] [] (.node [] [] .nil (.node [] [] .nil .nil)) .nil))) (.node [] [] .nil .nil)))))) good mixed Try.func24 (by kernel_rfl) (by kernel_rfl) (by kernel_rfl) (by kernel_rfl) (Eq.mp (S24_eq v0 v1 v2 K w) h)

/-- rubric/rubricref12.Copy -/
def S25 (v0 : Value) (K : Cont) (w : World) : Prop :=
  LoopK [(.slice none 0 0), (.int .i64 0)] (fun vs again w1 => ∀ _h : Env,
  lenK v0 fun t7 =>
  ltK .i64 (nth vs 1) t7 fun t8 =>
  condK t8
  (DrawC [6, 12, 14, 15] [[], [], [], [1, 2], [1, 2, 3], [1, 2, 3, 4], [], [], [], [7, 8], [7, 8, 9], [7, 8, 9, 10], [6, 7, 8, 9, 10, 11], [1, 2, 3, 4, 5, 6, 7, 8, 9, 10, 11, 12], [1, 2, 3, 4, 5, 6, 7, 8, 9, 10, 11, 12, 13], [0, 1, 2, 3, 4, 5, 6, 7, 8, 9, 10, 11, 12, 13, 14], [0, 1, 2, 3, 4, 5, 6, 7, 8, 9, 10, 11, 12, 13, 14, 15]] w1.drew (fun M St =>
  ixK 2 v0 (nth vs 1) fun t14 =>
  faK 0 t14 fun t15 =>
  sld1 (St 5) t15 fun t16 =>
  rowK 46 5 0 [] [] (fun t17 w2 =>
  Mod (M 6) w1.drew w2 ∧
  ixK 2 v0 (nth vs 1) fun t20 =>
  faK 1 t20 fun t21 =>
  sld1 (St 11) t21 fun t22 =>
  runK Try.prog (Builtin.append_ #[24, 24] 24 [t17, t22].toArray) (fun t23 w3 =>
  Mod (M 12) w2 w3 ∧
  buildK [(0, 1), (1, 1)] [(.int .i64 0), (.slice none 0 0)] [(0, t16), (1, t23)] fun t24 =>
  rowK 34 2 1 [(.int .i64 0), (.slice none 0 0)] [(0, t24)] (fun t25 w4 =>
  Mod (M 14) w3 w4 ∧
  runK Try.prog (Builtin.append_ #[27, 27] 27 [(nth vs 0), t25].toArray) (fun t26 w5 =>
  Mod (M 15) w4 w5 ∧
  addK .i64 (nth vs 1) (.int .i64 1) fun t10 =>
  again [t26, t10] w5) w4) w3) w2) w1.drew))
  (K (nth vs 0) w1)) w
theorem S25_eq (v0 : Value) (K : Cont) (w : World) : S25 v0 K w = D Try.prog okf 28 (bodyOf Try.f25) (.node [] [] .nil (.node [] [] .nil (.node [] [] (.node [] [] .nil (.node [3, 4] [(3, 26)] (.node [] [] (.node [] [] .nil (.node [] [] .nil .nil)) (.node [] [] (.dc [6, 12, 14, 15] [[], [], [], [1, 2], [1, 2, 3], [1, 2, 3, 4], [], [], [], [7, 8], [7, 8, 9], [7, 8, 9, 10], [6, 7, 8, 9, 10, 11], [1, 2, 3, 4, 5, 6, 7, 8, 9, 10, 11, 12], [1, 2, 3, 4, 5, 6, 7, 8, 9, 10, 11, 12, 13], [0, 1, 2, 3, 4, 5, 6, 7, 8, 9, 10, 11, 12, 13, 14], [0, 1, 2, 3, 4, 5, 6, 7, 8, 9, 10, 11, 12, 13, 14, 15]] [[6, 12]]) .nil)) .nil)) (.node [] [] .nil .nil)))) (retK Try.prog [.tmp 2] K) (nth [v0]) w := by kernel_rfl
theorem S25_ok {v0 : Value} {K : Cont} {w : World} (h : S25 v0 K w) : callK Try.prog 25 [v0] K w :=
  callK_of (P := Try.prog) (ok := okf) (n := 28) (fn := Try.f25) (c := bodyOf Try.f25) (rs := [.tmp 2]) (an := (.node [] [] .nil (.node [] [] .nil (.node [] [] (.node [] [] .nil (.node [3, 4] [(3, 26)] (.node [] [] (.node [] [] .nil (.node [] [] .nil .nil)) (.node [] [] (.dc [6, 12, 14, 15] [[], [], [], [1, 2], [1, 2, 3], [1, 2, 3, 4], [], [], [], [7, 8], [7, 8, 9], [7, 8, 9, 10], [6, 7, 8, 9, 10, 11], [1, 2, 3, 4, 5, 6, 7, 8, 9, 10, 11, 12], [1, 2, 3, 4, 5, 6, 7, 8, 9, 10, 11, 12, 13], [0, 1, 2, 3, 4, 5, 6, 7, 8, 9, 10, 11, 12, 13, 14], [0, 1, 2, 3, 4, 5, 6, 7, 8, 9, 10, 11, 12, 13, 14, 15]] [[6, 12]]) .nil)) .nil)) (.node [] [] .nil .nil))))) good mixed Try.func25 (by kernel_rfl) (by kernel_rfl) (by kernel_rfl) (by kernel_rfl) (Eq.mp (S25_eq v0 K w) h)

/-- rubric/rubricref12.Join -/
def S26 (v0 : Value) (K : Cont) (w : World) : Prop :=
  LoopK [(.slice none 0 0), (.int .i64 0)] (fun vs again w1 => ∀ _h : Env,
  lenK v0 fun t7 =>
  ltK .i64 (nth vs 1) t7 fun t8 =>
  condK t8
  (DrawC [11] [[], [], [], [1, 2], [1, 2, 3], [1, 2, 3, 4], [], [], [6, 7], [6, 7, 8], [6, 7, 8, 9], [0, 1, 2, 3, 4, 5, 6, 7, 8, 9, 10], [0, 1, 2, 3, 4, 5, 6, 7, 8, 9, 10, 11]] w1.drew (fun M St =>
  ixK 2 v0 (nth vs 1) fun t14 =>
  faK 0 t14 fun t15 =>
  sld1 (St 5) t15 fun t16 =>
  ixK 2 v0 (nth vs 1) fun t19 =>
  faK 1 t19 fun t20 =>
  sld1 (St 10) t20 fun t21 =>
  callK Try.prog 54 [(nth vs 0), t16, t21] (fun t22 w2 =>
  Mod (M 11) w1.drew w2 ∧
  addK .i64 (nth vs 1) (.int .i64 1) fun t10 =>
  again [t22, t10] w2) w1.drew))
  (K (nth vs 0) w1)) w
theorem S26_eq (v0 : Value) (K : Cont) (w : World) : S26 v0 K w = D Try.prog okf 24 (bodyOf Try.f26) (.node [] [] .nil (.node [] [] .nil (.node [] [] (.node [] [] .nil (.node [3, 4] [(3, 22)] (.node [] [] (.node [] [] .nil (.node [] [] .nil .nil)) (.node [] [] (.dc [11] [[], [], [], [1, 2], [1, 2, 3], [1, 2, 3, 4], [], [], [6, 7], [6, 7, 8], [6, 7, 8, 9], [0, 1, 2, 3, 4, 5, 6, 7, 8, 9, 10], [0, 1, 2, 3, 4, 5, 6, 7, 8, 9, 10, 11]] []) .nil)) .nil)) (.node [] [] .nil .nil)))) (retK Try.prog [.tmp 2] K) (nth [v0]) w := by kernel_rfl
theorem S26_ok {v0 : Value} {K : Cont} {w : World} (h : S26 v0 K w) : callK Try.prog 26 [v0] K w :=
  callK_of (P := Try.prog) (ok := okf) (n := 24) (fn := Try.f26) (c := bodyOf Try.f26) (rs := [.tmp 2]) (an := (.node [] [] .nil (.node [] [] .nil (.node [] [] (.node [] [] .nil (.node [3, 4] [(3, 22)] (.node [] [] (.node [] [] .nil (.node [] [] .nil .nil)) (.node [] [] (.dc [11] [[], [], [], [1, 2], [1, 2, 3], [1, 2, 3, 4], [], [], [6, 7], [6, 7, 8], [6, 7, 8, 9], [0, 1, 2, 3, 4, 5, 6, 7, 8, 9, 10], [0, 1, 2, 3, 4, 5, 6, 7, 8, 9, 10, 11]] []) .nil)) .nil)) (.node [] [] .nil .nil))))) good mixed Try.func26 (by kernel_rfl) (by kernel_rfl) (by kernel_rfl) (by kernel_rfl) (Eq.mp (S26_eq v0 K w) h)

/-- rubric/rubricref12.Cut -/
def S27 (v0 v1 v2 : Value) (K : Cont) (w : World) : Prop :=
  JoinK (fun vs w1 => ∀ _h : Env,
  LoopK [(.slice none 0 0), (.int .i64 0), (.int .i64 0)] (fun vs_1 again w2 => ∀ _h_1 : Env,
  JoinK (fun _vs_2 w3 => ∀ _h_2 : Env,
  DrawK w3 (fun C =>
  ixK 2 v0 (nth vs_1 2) fun t29 =>
  faK 0 t29 fun t30 =>
  qld1K C t30 fun t31 =>
  addK .i64 (nth vs_1 1) t31 fun t32 =>
  ∀ w4 : World, C w4 →
  JoinK (fun vs_3 w5 => ∀ _h_3 : Env,
  JoinK (fun vs_4 w6 => ∀ _h_4 : Env,
  subK .i64 (nth vs_4 0) (nth vs_3 0) fun t45 =>
  ixK 2 v0 (nth vs_1 2) fun t48 =>
  faK 1 t48 fun t49 =>
  ld1K t49 (fun t50 w7 =>
  callK Try.prog 54 [(nth vs_1 0), t45, t50] (fun t51 w8 =>
  addK .i64 (nth vs_1 2) (.int .i64 1) fun t24 =>
  again [t51, t32, t24] w8) w7) w6) (fun J_3 =>
  gtK .i64 t32 v2 fun t40 =>
  condK t40
  (J_3 [v2] w5)
  (J_3 [t32] w5))) (fun J_2 =>
  ltK .i64 (nth vs_1 1) (nth vs 0) fun t36 =>
  condK t36
  (J_2 [(nth vs 0)] w4)
  (J_2 [(nth vs_1 1)] w4)))) (fun J_1 =>
  lenK v0 fun t16 =>
  ltK .i64 (nth vs_1 2) t16 fun t17 =>
  condK t17
  (ltK .i64 (nth vs 0) v2 fun t21 =>
  condK t21
  (J_1 [] w2)
  (K (nth vs_1 0) w2))
  (K (nth vs_1 0) w2))) w1) (fun J =>
  ltK .i64 v1 (.int .i64 0) fun t13 =>
  condK t13
  (J [(.int .i64 0)] w)
  (J [v1] w))
theorem S27_eq (v0 v1 v2 : Value) (K : Cont) (w : World) : S27 v0 v1 v2 K w = D Try.prog okf 53 (bodyOf Try.f27) (.node [] [] .nil (.node [] [] .nil (.node [] [] .nil (.cut [1] [(1, 1), (12, 13)] (.node [] [] .nil (.node [] [] .nil .nil)) (.node [] [] (.node [] [] .nil (.node [7, 8, 9] [(7, 11), (14, 51)] (.cut [] [(14, 22)] (.node [] [] .nil (.node [] [] .nil .nil)) (.node [] [] (.node [] [] .draw (.node [] [] .nil (.cut [10] [(10, 10), (34, 37)] (.node [] [] .nil (.node [] [] .nil .nil)) (.cut [11] [(11, 11), (38, 41)] (.node [] [] .nil (.node [] [] .nil .nil)) .nil)))) .nil)) .nil)) (.node [] [] .nil .nil)))))) (retK Try.prog [.tmp 6] K) (nth [v0, v1, v2]) w := by kernel_rfl
theorem S27_ok {v0 v1 v2 : Value} {K : Cont} {w : World} (h : S27 v0 v1 v2 K w) : callK Try.prog 27 [v0, v1, v2] K w :=
  callK_of (P := Try.prog) (ok := okf) (n := 53) (fn := Try.f27) (c := bodyOf Try.f27) (rs := [.tmp 6]) (an := (.node [] [] .nil (.node [] [] .nil (.node [] [] .nil (.cut [1] [(1, 1), (12, 13)] (.node [] [] .nil (.node [] [] .nil .nil)) (.node [] [] (.node [] [] .nil (.node [7, 8, 9] [(7, 11), (14, 51)] (.cut [] [(14, 22)] (.node [] [] .nil (.node [] [] .nil .nil)) (.node [] [] (.node [] [] .draw (.node [] [] .nil (.cut [10] [(10, 10), (34, 37)] (.node [] [] .nil (.node [] [] .nil .nil)) (.cut [11] [(11, 11), (38, 41)] (.node [] [] .nil (.node [] [] .nil .nil)) .nil)))) .nil)) .nil)) (.node [] [] .nil .nil))))))) good mixed Try.func27 (by kernel_rfl) (by kernel_rfl) (by kernel_rfl) (by kernel_rfl) (Eq.mp (S27_eq v0 v1 v2 K w) h)

/-- rubric/rubricref12.Proper -/
def S28 (v0 : Value) (K : Cont) (w : World) : Prop :=
  callK Try.prog 26 [v0] (fun t4 w1 =>
  callK Try.prog 16 [t4, v0] (fun t6 w2 =>
  K t6 w2) w1) w
theorem S28_eq (v0 : Value) (K : Cont) (w : World) : S28 v0 K w = D Try.prog okf 7 (bodyOf Try.f28) (.node [] [] .nil (.node [] [] .nil .nil)) (retK Try.prog [.tmp 2] K) (nth [v0]) w := by kernel_rfl
theorem S28_ok {v0 : Value} {K : Cont} {w : World} (h : S28 v0 K w) : callK Try.prog 28 [v0] K w :=
  callK_of (P := Try.prog) (ok := okf) (n := 7) (fn := Try.f28) (c := bodyOf Try.f28) (rs := [.tmp 2]) (an := (.node [] [] .nil (.node [] [] .nil .nil))) good mixed Try.func28 (by kernel_rfl) (by kernel_rfl) (by kernel_rfl) (by kernel_rfl) (Eq.mp (S28_eq v0 K w) h)

/-- rubric/rubricref12.Len -/
def S29 (v0 : Value) (K : Cont) (w : World) : Prop :=
  LoopK [(.int .i64 0), (.int .i64 0)] (fun vs again w1 => ∀ _h : Env,
  lenK v0 fun t7 =>
  ltK .i64 (nth vs 1) t7 fun t8 =>
  condK t8
  (ixK 2 v0 (nth vs 1) fun t14 =>
  faK 0 t14 fun t15 =>
  ld1K t15 (fun t16 w2 =>
  addK .i64 (nth vs 0) t16 fun t17 =>
  addK .i64 (nth vs 1) (.int .i64 1) fun t10 =>
  again [t17, t10] w2) w1)
  (K (nth vs 0) w1)) w
theorem S29_eq (v0 : Value) (K : Cont) (w : World) : S29 v0 K w = D Try.prog okf 19 (bodyOf Try.f29) (.node [] [] .nil (.node [] [] .nil (.node [] [] (.node [] [] .nil (.node [3, 4] [(3, 17)] (.node [] [] (.node [] [] .nil (.node [] [] .nil .nil)) (.node [] [] .nil .nil)) .nil)) (.node [] [] .nil .nil)))) (retK Try.prog [.tmp 2] K) (nth [v0]) w := by kernel_rfl
theorem S29_ok {v0 : Value} {K : Cont} {w : World} (h : S29 v0 K w) : callK Try.prog 29 [v0] K w :=
  callK_of (P := Try.prog) (ok := okf) (n := 19) (fn := Try.f29) (c := bodyOf Try.f29) (rs := [.tmp 2]) (an := (.node [] [] .nil (.node [] [] .nil (.node [] [] (.node [] [] .nil (.node [3, 4] [(3, 17)] (.node [] [] (.node [] [] .nil (.node [] [] .nil .nil)) (.node [] [] .nil .nil)) .nil)) (.node [] [] .nil .nil))))) good mixed Try.func29 (by kernel_rfl) (by kernel_rfl) (by kernel_rfl) (by kernel_rfl) (Eq.mp (S29_eq v0 K w) h)

/-- rubric/blocks.add -/
def S51 (v0 v1 v2 : Value) (K : Cont) (w : World) : Prop :=
  lenK v0 fun t9 =>
  subK .i64 t9 (.int .i64 1) fun t10 =>
  leK .i64 v1 (.int .i64 0) fun t13 =>
  condK t13
  (K v0 w)
  (JoinK (fun vs w1 => ∀ _h : Env,
  condK (nth vs 0)
  (ixK 2 v0 t10 fun t29 =>
  faK 0 t29 fun t30 =>
  ld1K t30 (fun t31 w2 =>
  addK .i64 t31 v1 fun t33 =>
  ixK 2 v0 t10 fun t34 =>
  faK 0 t34 fun t35 =>
  st1K t35 t33 (fun w3 =>
  K v0 w3) w2) w1)
  (callK Try.prog 65 [v2] (fun t40 w4 =>
  buildK [(0, 1), (1, 1)] [(.int .i64 0), (.slice none 0 0)] [(0, v1), (1, t40)] fun t41 =>
  rowK 34 2 1 [(.int .i64 0), (.slice none 0 0)] [(0, t41)] (fun t42 w5 =>
  runK Try.prog (Builtin.append_ #[27, 27] 27 [v0, t42].toArray) (fun t43 w6 =>
  K t43 w6) w5) w4) w1)) (fun J =>
  geK .i64 t10 (.int .i64 0) fun t17 =>
  condK t17
  (ixK 2 v0 t10 fun t21 =>
  faK 1 t21 fun t22 =>
  ld1K t22 (fun t23 w7 =>
  callK Try.prog 55 [t23, v2] (fun t25 w8 =>
  J [t25] w8) w7) w)
  (J [(.bool false)] w)))
theorem S51_eq (v0 v1 v2 : Value) (K : Cont) (w : World) : S51 v0 v1 v2 K w = D Try.prog okf 44 (bodyOf Try.f51) (.node [] [] .nil (.node [] [] .nil (.node [] [] (.node [] [] .nil (.node [] [] (.node [] [] .nil .nil) (.cut [15] [(15, 26)] .nil (.node [] [] (.node [] [] .nil (.node [] [] .nil .nil)) .nil)))) (.node [] [] .nil .nil)))) (retK Try.prog [.tmp 6] K) (nth [v0, v1, v2]) w := by kernel_rfl
theorem S51_ok {v0 v1 v2 : Value} {K : Cont} {w : World} (h : S51 v0 v1 v2 K w) : callK Try.prog 51 [v0, v1, v2] K w :=
  callK_of (P := Try.prog) (ok := okf) (n := 44) (fn := Try.f51) (c := bodyOf Try.f51) (rs := [.tmp 6]) (an := (.node [] [] .nil (.node [] [] .nil (.node [] [] (.node [] [] .nil (.node [] [] (.node [] [] .nil .nil) (.cut [15] [(15, 26)] .nil (.node [] [] (.node [] [] .nil (.node [] [] .nil .nil)) .nil)))) (.node [] [] .nil .nil))))) good mixed Try.func51 (by kernel_rfl) (by kernel_rfl) (by kernel_rfl) (by kernel_rfl) (Eq.mp (S51_eq v0 v1 v2 K w) h)

/-- rubric/blocks.each -/
def S52 (v0 : Value) (K : Cont) (w : World) : Prop :=
  box1K 27 v0 (fun t1 w1 =>
  K (.func (.func 78) #[] #[t1]) w1) w
theorem S52_eq (v0 : Value) (K : Cont) (w : World) : S52 v0 K w = D Try.prog okf 4 (bodyOf Try.f52) (.node [] [] .nil (.node [] [] .nil .nil)) (retK Try.prog [.tmp 2] K) (nth [v0]) w := by kernel_rfl
theorem S52_ok {v0 : Value} {K : Cont} {w : World} (h : S52 v0 K w) : callK Try.prog 52 [v0] K w :=
  callK_of (P := Try.prog) (ok := okf) (n := 4) (fn := Try.f52) (c := bodyOf Try.f52) (rs := [.tmp 2]) (an := (.node [] [] .nil (.node [] [] .nil .nil))) good mixed Try.func52 (by kernel_rfl) (by kernel_rfl) (by kernel_rfl) (by kernel_rfl) (Eq.mp (S52_eq v0 K w) h)

/-- slices.Clone[[]rubric/api.Attr,rubric/api.Attr] -/
def S53 (v0 : Value) (K : Cont) (w : World) : Prop :=
  snilK v0 fun b4 =>
  condK (.bool b4)
  (K (.slice none 0 0) w)
  (rowK 46 5 0 [] [] (fun t5 w1 =>
  runK Try.prog (Builtin.append_ #[24, 24] 24 [t5, v0].toArray) (fun t7 w2 =>
  K t7 w2) w1) w)
theorem S53_eq (v0 : Value) (K : Cont) (w : World) : S53 v0 K w = D Try.prog okf 8 (bodyOf Try.f53) (.node [] [] .nil (.node [] [] (.node [] [] .nil (.node [] [] (.node [] [] .nil .nil) .nil)) (.node [] [] .nil .nil))) (retK Try.prog [.tmp 2] K) (nth [v0]) w := by kernel_rfl
theorem S53_ok {v0 : Value} {K : Cont} {w : World} (h : S53 v0 K w) : callK Try.prog 53 [v0] K w :=
  callK_of (P := Try.prog) (ok := okf) (n := 8) (fn := Try.f53) (c := bodyOf Try.f53) (rs := [.tmp 2]) (an := (.node [] [] .nil (.node [] [] (.node [] [] .nil (.node [] [] (.node [] [] .nil .nil) .nil)) (.node [] [] .nil .nil)))) good mixed Try.func53 (by kernel_rfl) (by kernel_rfl) (by kernel_rfl) (by kernel_rfl) (Eq.mp (S53_eq v0 K w) h)

/-- rubric/rubricref12.Add -/
def S54 (v0 v1 v2 : Value) (K : Cont) (w : World) : Prop :=
  leK .i64 v1 (.int .i64 0) fun t9 =>
  condK t9
  (K v0 w)
  (lenK v0 fun t12 =>
  subK .i64 t12 (.int .i64 1) fun t13 =>
  JoinK (fun vs w1 => ∀ _h : Env,
  condK (nth vs 0)
  (ixK 2 v0 t13 fun t29 =>
  faK 0 t29 fun t30 =>
  ld1K t30 (fun t31 w2 =>
  addK .i64 t31 v1 fun t33 =>
  ixK 2 v0 t13 fun t34 =>
  faK 0 t34 fun t35 =>
  st1K t35 t33 (fun w3 =>
  K v0 w3) w2) w1)
  (rowK 46 5 0 [] [] (fun t39 w4 =>
  runK Try.prog (Builtin.append_ #[24, 24] 24 [t39, v2].toArray) (fun t41 w5 =>
  buildK [(0, 1), (1, 1)] [(.int .i64 0), (.slice none 0 0)] [(0, v1), (1, t41)] fun t42 =>
  rowK 34 2 1 [(.int .i64 0), (.slice none 0 0)] [(0, t42)] (fun t43 w6 =>
  runK Try.prog (Builtin.append_ #[27, 27] 27 [v0, t43].toArray) (fun t44 w7 =>
  K t44 w7) w6) w5) w4) w1)) (fun J =>
  geK .i64 t13 (.int .i64 0) fun t15 =>
  condK t15
  (ixK 2 v0 t13 fun t19 =>
  faK 1 t19 fun t20 =>
  ld1K t20 (fun t21 w8 =>
  callK Try.prog 21 [t21, v2] (fun t23 w9 =>
  J [t23] w9) w8) w)
  (J [(.bool false)] w)))
theorem S54_eq (v0 v1 v2 : Value) (K : Cont) (w : World) : S54 v0 v1 v2 K w = D Try.prog okf 45 (bodyOf Try.f54) (.node [] [] .nil (.node [] [] (.node [] [] .nil (.node [] [] (.node [] [] .nil .nil) .nil)) (.node [] [] .nil (.node [] [] (.cut [24] [(14, 24)] .nil (.node [] [] (.node [] [] .nil (.node [] [] .nil .nil)) .nil)) (.node [] [] .nil .nil))))) (retK Try.prog [.tmp 6] K) (nth [v0, v1, v2]) w := by kernel_rfl
theorem S54_ok {v0 v1 v2 : Value} {K : Cont} {w : World} (h : S54 v0 v1 v2 K w) : callK Try.prog 54 [v0, v1, v2] K w :=
  callK_of (P := Try.prog) (ok := okf) (n := 45) (fn := Try.f54) (c := bodyOf Try.f54) (rs := [.tmp 6]) (an := (.node [] [] .nil (.node [] [] (.node [] [] .nil (.node [] [] (.node [] [] .nil .nil) .nil)) (.node [] [] .nil (.node [] [] (.cut [24] [(14, 24)] .nil (.node [] [] (.node [] [] .nil (.node [] [] .nil .nil)) .nil)) (.node [] [] .nil .nil)))))) good mixed Try.func54 (by kernel_rfl) (by kernel_rfl) (by kernel_rfl) (by kernel_rfl) (Eq.mp (S54_eq v0 v1 v2 K w) h)

/-- rubric/attrs.Same -/
def S55 (v0 v1 : Value) (K : Cont) (w : World) : Prop :=
  callK Try.prog 79 [v0, v1] (fun t7 w1 =>
  K t7 w1) w
theorem S55_eq (v0 v1 : Value) (K : Cont) (w : World) : S55 v0 v1 K w = D Try.prog okf 8 (bodyOf Try.f55) (.node [] [] .nil (.node [] [] .nil .nil)) (retK Try.prog [.tmp 4] K) (nth [v0, v1]) w := by kernel_rfl
theorem S55_ok {v0 v1 : Value} {K : Cont} {w : World} (h : S55 v0 v1 K w) : callK Try.prog 55 [v0, v1] K w :=
  callK_of (P := Try.prog) (ok := okf) (n := 8) (fn := Try.f55) (c := bodyOf Try.f55) (rs := [.tmp 4]) (an := (.node [] [] .nil (.node [] [] .nil .nil))) good mixed Try.func55 (by kernel_rfl) (by kernel_rfl) (by kernel_rfl) (by kernel_rfl) (Eq.mp (S55_eq v0 v1 K w) h)

/-- rubric/attrs.Copy -/
def S65 (v0 : Value) (K : Cont) (w : World) : Prop :=
  callK Try.prog 53 [v0] (fun t4 w1 =>
  K t4 w1) w
theorem S65_eq (v0 : Value) (K : Cont) (w : World) : S65 v0 K w = D Try.prog okf 5 (bodyOf Try.f65) (.node [] [] .nil (.node [] [] .nil .nil)) (retK Try.prog [.tmp 2] K) (nth [v0]) w := by kernel_rfl
theorem S65_ok {v0 : Value} {K : Cont} {w : World} (h : S65 v0 K w) : callK Try.prog 65 [v0] K w :=
  callK_of (P := Try.prog) (ok := okf) (n := 5) (fn := Try.f65) (c := bodyOf Try.f65) (rs := [.tmp 2]) (an := (.node [] [] .nil (.node [] [] .nil .nil))) good mixed Try.func65 (by kernel_rfl) (by kernel_rfl) (by kernel_rfl) (by kernel_rfl) (Eq.mp (S65_eq v0 K w) h)

/-- rubric/blocks.each$1 -/
def S78 (v0 v1 : Value) (K : Cont) (w : World) : Prop :=
  ld1K v1 (fun t6 w1 =>
  lenK t6 fun t7 =>
  LoopK [(.int .i64 0), (.int .i64 0)] (fun vs again w2 => ∀ _h : Env,
  ltK .i64 (nth vs 1) t7 fun t9 =>
  condK t9
  (ixK 2 t6 (nth vs 1) fun t10 =>
  ldnK 2 t10 (fun t11 w3 =>
  newK 34 [(.int .i64 0), (.slice none 0 0)] (fun t5 w4 =>
  stnK 2 t5 t11 (fun w5 =>
  ldnK 2 t5 (fun t14 w6 =>
  callyK Try.prog okf v0 [(nth vs 0), t14] (fun t15 w7 =>
  notK t15 fun t16 =>
  condK t16
  (K (.tuple #[]) w7)
  (faK 0 t5 fun t18 =>
  ld1K t18 (fun t19 w8 =>
  addK .i64 (nth vs 0) t19 fun t20 =>
  addK .i64 (nth vs 1) (.int .i64 1) fun t21 =>
  again [t20, t21] w8) w7)) w6) w5) w4) w3) w2)
  (K (.tuple #[]) w2)) w1) w
theorem S78_eq (v0 v1 : Value) (K : Cont) (w : World) : S78 v0 v1 K w = D Try.prog okf 22 (bodyOf Try.f78) (.node [] [] .nil (.node [] [] .nil (.node [3, 8] [(3, 3), (5, 5), (8, 21)] (.node [] [] .nil (.node [] [] (.node [] [] .nil .nil) (.node [] [] (.node [] [] .nil (.node [] [] (.node [] [] .nil (.node [] [] .nil .nil)) .nil)) .nil))) .nil))) (retK Try.prog [] K) (nth [v0, v1]) w := by kernel_rfl
theorem S78_ok {v0 v1 : Value} {K : Cont} {w : World} (h : S78 v0 v1 K w) : callK Try.prog 78 [v0, v1] K w :=
  callK_of (P := Try.prog) (ok := okf) (n := 22) (fn := Try.f78) (c := bodyOf Try.f78) (rs := []) (an := (.node [] [] .nil (.node [] [] .nil (.node [3, 8] [(3, 3), (5, 5), (8, 21)] (.node [] [] .nil (.node [] [] (.node [] [] .nil .nil) (.node [] [] (.node [] [] .nil (.node [] [] (.node [] [] .nil (.node [] [] .nil .nil)) .nil)) .nil))) .nil)))) good mixed Try.func78 (by kernel_rfl) (by kernel_rfl) (by kernel_rfl) (by kernel_rfl) (Eq.mp (S78_eq v0 v1 K w) h)

/-- slices.Equal[[]rubric/api.Attr,rubric/api.Attr] -/
def S79 (v0 v1 : Value) (K : Cont) (w : World) : Prop :=
  lenK v0 fun t7 =>
  lenK v1 fun t9 =>
  neK .i64 t7 t9 fun t10 =>
  condK t10
  (K (.bool false) w)
  (lenK v0 fun t12 =>
  LoopK [(.int .i64 0)] (fun vs again w1 => ∀ _h : Env,
  ltK .i64 (nth vs 0) t12 fun t14 =>
  condK t14
  (DrawK w1 (fun C =>
  ixK 5 v0 (nth vs 0) fun t18 =>
  qldnK C 5 t18 fun t19 =>
  ixK 5 v1 (nth vs 0) fun t22 =>
  qldnK C 5 t22 fun t23 =>
  qrunK Try.prog C (binS .neq 46 (.tmp 19) (.tmp 23) t19 t23) fun t24 =>
  ∀ w2 : World, C w2 →
  condK t24
  (K (.bool false) w2)
  (addK .i64 (nth vs 0) (.int .i64 1) fun t25 =>
  again [t25] w2)))
  (K (.bool true) w1)) w)
theorem S79_eq (v0 v1 : Value) (K : Cont) (w : World) : S79 v0 v1 K w = D Try.prog okf 26 (bodyOf Try.f79) (.node [] [] .nil (.node [] [] (.node [] [] .nil (.node [] [] (.node [] [] .nil .nil) .nil)) (.node [] [] (.node [] [] .nil (.node [13] [(4, 5), (13, 25)] (.node [] [] .nil (.node [] [] (.node [] [] .nil .nil) (.node [] [] (.node [] [] .nil (.node [] [] .draw (.node [] [] (.node [] [] .nil .nil) .nil))) .nil))) .nil)) (.node [] [] .nil .nil)))) (retK Try.prog [.tmp 4] K) (nth [v0, v1]) w := by kernel_rfl
theorem S79_ok {v0 v1 : Value} {K : Cont} {w : World} (h : S79 v0 v1 K w) : callK Try.prog 79 [v0, v1] K w :=
  callK_of (P := Try.prog) (ok := okf) (n := 26) (fn := Try.f79) (c := bodyOf Try.f79) (rs := [.tmp 4]) (an := (.node [] [] .nil (.node [] [] (.node [] [] .nil (.node [] [] (.node [] [] .nil .nil) .nil)) (.node [] [] (.node [] [] .nil (.node [13] [(4, 5), (13, 25)] (.node [] [] .nil (.node [] [] (.node [] [] .nil .nil) (.node [] [] (.node [] [] .nil (.node [] [] .draw (.node [] [] (.node [] [] .nil .nil) .nil))) .nil))) .nil)) (.node [] [] .nil .nil))))) good mixed Try.func79 (by kernel_rfl) (by kernel_rfl) (by kernel_rfl) (by kernel_rfl) (Eq.mp (S79_eq v0 v1 K w) h)

end Go.Proofs.Ytmfplfaeibehiaa

namespace Go.Proofs.Ytmfplfaeibehiaa
open Go Go.K

/-- slices.Equal at sets -/
theorem eq_set {S S' : Nat → Prop} {a b : Value} {l m : List Attr} {w : World} (ha : RSet S w a l) (hb : RSet S' w b m) :
    callK Try.prog 79 [a, b] (fun v w' => v = .bool (decide (l = m)) ∧ Grow w w') w := by
  apply S79_ok
  unfold S79
  obtain ⟨pa, ca, rfl, hla⟩ := ha.shape
  obtain ⟨pb, cb, rfl, hlb⟩ := hb.shape
  simp only [KS]
  simp only [maxLen] at hla hlb
  by_cases hlen : l.length = m.length
  · rw [if_neg (show ¬ ¬ (l.length : Int) = m.length by omega)]
    refine ⟨fun vs w' => ∃ k : Nat, k ≤ l.length ∧ vs = [.int .i64 k] ∧ Grow w w' ∧ l.take k = m.take k, fun vs _ => l.length - iOf vs 0, ⟨0, Nat.zero_le _, rfl, Mod.refl _ _, rfl⟩, ?_⟩
    rintro vs w1 ⟨k, hk, rfl, hg, ht⟩ h
    simp only [KS]
    by_cases hlt : k < l.length
    · rw [if_pos (show (k : Int) < l.length by omega)]
      refine ⟨fun w2 => Grow w1 w2, Mod.drew _ _, ?_⟩
      obtain ⟨p, r, rfl, _, hr, hc, hx⟩ := ha.get hlt
      obtain ⟨q, r', rfl, _, hr', hc', hx'⟩ := hb.get (show k < m.length by omega)
      refine ixK_n hlt (qldnK_i hr (fun w2 h2 j u hu => ?_) ?_)
      · rw [Addr.add_add]; exact h2.cell (hg.cell (hc j u hu) (fun h => h)) (fun h => h)
      refine ixK_n (by omega) (qldnK_i hr' (fun w2 h2 j u hu => ?_) ?_)
      · rw [Addr.add_add]; exact h2.cell (hg.cell (hc' j u hu) (fun h => h)) (fun h => h)
      subst hx; subst hx'
      refine ⟨_, fun w2 _ => run_ne_attr _ _ _ _ w2, fun w2 h2 => ?_⟩
      simp only [KS]
      by_cases he : l[k] = m[k]
      · rw [if_neg (fun h => h he)]
        refine ⟨⟨k + 1, by omega, by rw [wrap64 (by omega) (by omega)]; rfl, hg.trans h2, ?_⟩, ?_⟩
        · rw [List.take_add_one, List.take_add_one, ht]
          simp [hlt, show k < m.length by omega, he]
        · simp only [iOf, nth, List.headD_cons]; rw [wrap64 (by omega) (by omega)]; omega
      · rw [if_pos he]
        refine ⟨?_, hg.trans h2⟩
        congr 1
        symm
        rw [decide_eq_false_iff_not]
        intro e; subst e; exact he rfl
    · rw [if_neg (show ¬ (k : Int) < l.length by omega)]
      refine ⟨?_, hg⟩
      congr 1; symm
      rw [decide_eq_true_eq]
      have : k = l.length := by omega
      subst this
      rw [List.take_length] at ht
      rw [ht, hlen, List.take_length]
  · rw [if_pos (show ¬ (l.length : Int) = m.length by omega)]
    refine ⟨?_, Mod.refl _ _⟩
    congr 1; symm
    rw [decide_eq_false_iff_not]
    intro e; exact hlen (by rw [e])
/-- attrs.Same -/
theorem same_set {S S' : Nat → Prop} {a b : Value} {l m : List Attr} {w : World} (ha : RSet S w a l) (hb : RSet S' w b m) :
    callK Try.prog 55 [a, b] (fun v w' => v = .bool (decide (l = m)) ∧ Grow w w') w := by
  apply S55_ok
  exact eq_set ha hb
/-- slices.Clone at sets -/
theorem clone_set {S : Nat → Prop} {v : Value} {l : List Attr} {w : World} (h : RSet S w v l) (hl : l.length * 48 ≤ 140737488355328) :
    callK Try.prog 53 [v] (fun v' w' => OSet w.heap.size w' v' l ∧ Grow w w') w := by
  apply S53_ok
  unfold S53
  obtain ⟨a, c, rfl, hm⟩ := h.shape
  cases a with
  | none =>
    simp only [KS]
    have : l = [] := by
      cases l with
      | nil => rfl
      | cons x l => obtain ⟨p, r, e, _⟩ := h.get (i := 0) (by simp); cases e
    subst this
    exact ⟨OwnR.nil, Mod.refl _ _⟩
  | some p =>
    simp only [KS]
    refine rowK_empty ?_
    have hg : Grow w (w.alloc (.cells #[] 46)) := Mod.alloc _ _ _
    have ho : OSet w.heap.size (w.alloc (.cells #[] 46)) (.slice (some ⟨w.heap.size, 0, none⟩) 0 0) [] := OwnR.made (Nat.le_refl _)
    obtain ⟨v', w', h1, h2, h3, h4⟩ := OwnR.append (ty := 24) elem_attr ho (h.grow hg (by decide) fun _ _ h => h) (fun _ _ => RAttr.one) (by simpa using hl) (by simp) (by simpa using hm) (fun _ _ _ _ h => h)
    refine runK_i h1 ⟨?_, hg.next (Mod.of_grownBy h3) ?_⟩
    · refine h2.base fun g hg' => ?_
      rcases h4 g hg' with h | h
      · cases h; exact Nat.le_refl _
      · simp only [World.size_alloc] at h; omega
    · intro b hb e; simp only [Value.ownBlock, Option.some.injEq] at e; omega
/-- attrs.Copy -/
theorem copy_set {S : Nat → Prop} {v : Value} {l : List Attr} {w : World} (h : RSet S w v l) (hl : l.length * 48 ≤ 140737488355328) :
    callK Try.prog 65 [v] (fun v' w' => OSet w.heap.size w' v' l ∧ Grow w w') w := by
  apply S65_ok
  exact clone_set h hl
end Go.Proofs.Ytmfplfaeibehiaa

namespace Go.Proofs.Ytmfplfaeibehiaa
open Go Go.K

theorem OBlks.grow {B : Nat} {w w' : World} {v : Value} {l : List Blk} {M : Nat → Prop} (h : OBlks B w v l) (hm : Mod M w w') (hM : ∀ b, b < w.heap.size → B ≤ b → ¬ M b) : OBlks B w' v l := by
  refine OwnR.mod h hm (fun g hg => ?_) fun r x _ hx => hx.mod hm (fun b hb hd => hM b hb hd.1) fun _ _ h => h
  obtain ⟨a, c, rfl, _, _, hp, _⟩ := OwnR.shape h
  cases a with
  | none => cases hg
  | some p => obtain ⟨g', rfl, h1, h2, h3⟩ := hp p rfl; rw [hg] at h3; cases h3; exact hM g h2 h1

/-- what is appended: one block, its set freshly copied -/
theorem push_blk2 {B : Nat} {w : World} {v sv : Value} {l : List Blk} {n : Int} {set : List Attr} {K : Cont} (h : OBlks B w v l) (hB : B ≤ w.heap.size) (hs : OSet 0 w sv set) (hsd : ∀ g, sv.ownBlock = some g → B ≤ g ∧ v.ownBlock ≠ some g ∧ g < w.heap.size) (hl : l.length < 4398046511104)
    {Q1 : World → Prop} {Q2 : World → World → Prop} (hQ1 : ∀ w1, Grow w w1 → Q1 w1)
    (hK : ∀ w1 v' w', Grow w w1 → OBlks B w' v' (l ++ [⟨n, set⟩]) → Mod (fun b => v.ownBlock = some b) w1 w' → Mod (fun b => v.ownBlock = some b) w w' → (∀ g, v'.ownBlock = some g → v.ownBlock = some g ∨ w.heap.size ≤ g) → Q2 w1 w' ∧ K v' w') :
    rowK 34 2 1 [.int .i64 0, .slice none 0 0] [(0, .agg #[.int .i64 n, sv])] (fun t w1 => Q1 w1 ∧ runK Try.prog (Builtin.append_ #[27, 27] 27 [v, t].toArray) (fun v' w' => Q2 w1 w' ∧ K v' w') w1) w := by
  obtain ⟨sa, sc, hsv, hsm, _⟩ := OwnR.shape hs
  refine ⟨#[.int .i64 n, sv], ?_, ?_⟩
  · subst hsv; kernel_rfl
  have hg : Grow w (w.alloc (.cells #[.int .i64 n, sv] 34)) := Mod.alloc _ _ _
  generalize hw1 : w.alloc (.cells #[.int .i64 n, sv] 34) = w1 at hg ⊢
  have hz : w1.heap.size = w.heap.size + 1 := by rw [← hw1]; simp
  have h' : OwnR B 34 2 (OBlk fun b => B ≤ b ∧ v.ownBlock ≠ some b ∧ b < w1.heap.size) w1 v l := by
    refine OwnR.mod h hg (fun _ _ h => h) fun r x _ hx => hx.mod hg (fun _ _ _ h => h) fun b hb hd => ⟨hd.1, hd.2, by omega⟩
  have hx : SlR (fun _ => True) 2 (OBlk fun b => B ≤ b ∧ v.ownBlock ≠ some b ∧ b < w1.heap.size) w1 (.slice (some ⟨w.heap.size, 0, none⟩) 1 1) [(⟨n, set⟩ : Blk)] := by
    refine ⟨_, 1, rfl, Nat.le_refl _, by simp [maxLen], fun i x hx => ?_⟩
    have hi : i = 0 := by have := (List.getElem?_eq_some_iff.1 hx).1; simp at this; exact this
    subst hi
    simp at hx; subst hx
    refine ⟨_, [.int .i64 n, sv], rfl, trivial, rfl, fun j u hu => ?_, sv, rfl, OwnR.mod hs hg (fun _ _ h => h) fun _ _ _ h => h, fun g hgg => by obtain ⟨h1, h2, h3⟩ := hsd g hgg; exact ⟨h1, h2, by omega⟩⟩
    have hadd : (⟨w.heap.size, 0, none⟩ : Addr).add (0 * 2 + j) = ⟨w.heap.size, j, none⟩ := by unfold Addr.add; split <;> simp_all
    rw [hadd, ← hw1, World.cell?_alloc_new]
    simpa using hu
  obtain ⟨v', w', h1, h2, h3, h4⟩ := OwnR.append (ty := 27) elem_blk h' hx (fun _ _ => OBlk.one) (by simp; omega) (by omega) (by simp [maxLen]; omega)
    (fun w' hg' r y hy => hy.mod (Mod.of_grownBy hg') (fun b _ hd e => hd.2.1 e) fun _ _ h => h)
  refine ⟨hQ1 _ hg, runK_i h1 (hK w1 v' w' hg ?_ (Mod.of_grownBy h3) (hg.mod.next (Mod.of_grownBy h3) fun _ _ h => h) fun g hg' => ?_)⟩
  · refine OwnR.mod h2 (Mod.refl (fun _ => False) _) (fun _ _ h => h) fun r x _ hx => hx.mod (Mod.refl (fun _ => False) _) (fun _ _ _ h => h) fun b hb hd => ⟨hd.1, fun e => ?_⟩
    rcases h4 b e with h | h
    · exact hd.2.1 h
    · omega
  · rcases h4 g hg' with h | h
    · exact .inl h
    · exact .inr (by omega)
theorem push_blk {B : Nat} {w : World} {v sv : Value} {l : List Blk} {n : Int} {set : List Attr} {K : Cont} (h : OBlks B w v l) (hB : B ≤ w.heap.size) (hs : OSet 0 w sv set) (hsd : ∀ g, sv.ownBlock = some g → B ≤ g ∧ v.ownBlock ≠ some g ∧ g < w.heap.size) (hl : l.length < 4398046511104)
    (hK : ∀ v' w', OBlks B w' v' (l ++ [⟨n, set⟩]) → Mod (fun b => v.ownBlock = some b) w w' → (∀ g, v'.ownBlock = some g → v.ownBlock = some g ∨ w.heap.size ≤ g) → K v' w') :
    rowK 34 2 1 [.int .i64 0, .slice none 0 0] [(0, .agg #[.int .i64 n, sv])] (fun t w1 => runK Try.prog (Builtin.append_ #[27, 27] 27 [v, t].toArray) K w1) w := by
  obtain ⟨cs, h1, _, v', w', h2, _, h3⟩ := push_blk2 (Q1 := fun _ => True) (Q2 := fun _ _ => True) h hB hs hsd hl (fun _ _ => trivial) fun w1 v' w' _ k1 _ k2 k3 => ⟨trivial, hK v' w' k1 k2 k3⟩
  exact ⟨cs, h1, v', w', h2, h3⟩
/-- adding to blocks: the program's way -/
theorem add_blk {S : Nat → Prop} {B : Nat} {w : World} {v sv : Value} {l : List Blk} {n : Int} {set : List Attr} (h : OBlks B w v l) (hs : RSet S w sv set) (hS : ∀ b, S b → v.ownBlock ≠ some b) (hB : B ≤ w.heap.size) (hl : l.length < 4398046511104)
    (hset : set.length * 48 ≤ 140737488355328) :
    callK Try.prog 51 [v, .int .i64 n, sv] (fun v' w' => OBlks B w' v' (addB l n set) ∧ Mod (fun b => v.ownBlock = some b) w w' ∧ (∀ g, v'.ownBlock = some g → v.ownBlock = some g ∨ w.heap.size ≤ g)) w := by
  apply S51_ok
  unfold S51
  obtain ⟨a, c, rfl, hc, hcm, hp, hnil⟩ := OwnR.shape h
  simp only [KS]
  rw [wrap64 (by omega) (by omega)]
  by_cases hn : n ≤ 0
  · rw [if_pos hn]
    exact ⟨by rw [addB, if_pos hn]; exact h, Mod.refl _ _, fun g hg => .inl hg⟩
  rw [if_neg hn]
  refine JoinK_i (fun vs w1 => vs = [.bool (lastSame l set)] ∧ Grow w w1) ?_ ?_
  · rintro vs w1 ⟨rfl, hg⟩ _
    simp only [KS]
    have h1 : OBlks B w1 (.slice a l.length c) l := h.grow hg (fun _ _ _ h => h)
    cases hls : lastSame l set with
    | true =>
      rw [if_pos rfl]
      unfold lastSame at hls
      cases hlast : l.getLast? with
      | none => rw [hlast] at hls; cases hls
      | some b =>
        rw [hlast] at hls
        simp only [decide_eq_true_eq] at hls
        have hlen : 0 < l.length := by cases l with | nil => simp at hlast | cons => simp
        have hbi : l[l.length - 1]? = some b := by rw [← List.getLast?_eq_getElem?]; exact hlast
        have hbg : l[l.length - 1] = b := by simpa [show l.length - 1 < l.length by omega] using hbi
        cases a with
        | none => have := hnil rfl; subst this; simp at hlen
        | some p =>
          have e1 : ((l.length : Int) - 1) = ((l.length - 1 : Nat) : Int) := by omega
          rw [e1]
          obtain ⟨p', r, hp', _, hr, hcell, sv0, hr0, hs0⟩ := (OwnR.sl h1).get (show l.length - 1 < l.length by omega)
          cases hp'
          rw [hbg] at hr0
          subst hr0
          refine ixK_n (by omega) ?_
          simp only [KS]
          refine ld1K_i (hcell 0 _ rfl) ?_
          simp only [KS]
          refine ixK_n (by omega) ?_
          simp only [KS]
          obtain ⟨⟨u, hu⟩, hf, ho, hm⟩ := OwnR.store (R' := OBlk fun b => B ≤ b ∧ (Value.slice (some p) l.length c).ownBlock ≠ some b) (u := .int .i64 (IntKind.i64.wrap (b.n + n))) (x' := ⟨IntKind.i64.wrap (b.n + n), b.set⟩) (j := 0) h1 (show l.length - 1 < l.length by omega) (by decide) rfl
            (fun r y _ hy => hy.mod (Mod.setCell (M := fun b => b = p.block) _ _ _ (by unfold Addr.add; split <;> rfl)) (fun b _ hd e => hd.2 (by rw [e]; rfl)) fun _ _ h => h)
            (fun r hy => by
              rw [hbg] at hy
              obtain ⟨sv1, rfl, hs1⟩ := hy.mod (D' := fun b => B ≤ b ∧ (Value.slice (some p) l.length c).ownBlock ≠ some b) (Mod.setCell (M := fun b => b = p.block) w1 (p.add ((l.length - 1) * 2 + 0)) (.int .i64 (IntKind.i64.wrap (b.n + n))) (by unfold Addr.add; split <;> rfl)) (fun b _ hd e => hd.2 (by rw [e]; rfl)) fun _ _ h => h
              exact ⟨sv1, rfl, hs1⟩)
          refine st1K_i rfl rfl hu hf ⟨?_, hg.mod.next hm ?_, fun g hg => .inl hg⟩
          · rw [addB, if_neg hn, hlast]
            simp only [hls, if_true]
            rw [← hls]
            exact ho
          · intro b' _ e; rw [e]; rfl
    | false =>
      rw [if_neg (by simp)]
      refine callK_mono (copy_set (hs.grow hg (by decide) fun _ _ h => h) hset) ?_
      rintro v1 w2 ⟨ho, hg2⟩
      have hv1 : ∃ sa sc, v1 = .slice sa set.length sc := by obtain ⟨sa, sc, e, _⟩ := OwnR.shape ho; exact ⟨sa, sc, e⟩
      refine ⟨#[.int .i64 n, v1], ?_, ?_⟩
      · obtain ⟨sa, sc, rfl⟩ := hv1; kernel_rfl
      have h2 := h1.grow hg2 (fun _ _ _ h => h)
      refine push_blk h2 (by have := hg.size; have := hg2.size; omega) (OwnR.base ho fun g _ => Nat.zero_le _) (fun b hb => ?_) hl ?_
      · have hbb : w1.heap.size ≤ b ∧ b < w2.heap.size := by
          obtain ⟨a', c', rfl, _, _, hp', _⟩ := OwnR.shape ho
          cases a' with
          | none => cases hb
          | some p' => obtain ⟨g, rfl, q1, q2, q3⟩ := hp' p' rfl; rw [hb] at q3; cases q3; exact ⟨q1, q2⟩
        have := hg.size
        refine ⟨by omega, fun e => ?_, hbb.2⟩
        cases a with
        | none => cases e
        | some p =>
          obtain ⟨g, rfl, q1, q2, q3⟩ := hp p rfl
          simp only [Value.ownBlock, Option.some.injEq] at e
          omega
      · intro v' w' k1 k2 k3
        refine ⟨?_, (hg.mod.trans hg2.mod).trans k2, fun g hg' => ?_⟩
        · rw [addB, if_neg hn]
          unfold lastSame at hls
          cases hlast : l.getLast? with
          | none => exact k1
          | some b => rw [hlast] at hls; simp only [decide_eq_false_iff_not] at hls; simp only [if_neg hls]; exact k1
        · rcases k3 g hg' with h | h
          · exact .inl h
          · exact .inr (by have := hg.size; have := hg2.size; omega)
  · by_cases hlen : 0 < l.length
    · rw [if_pos (show (0 : Int) ≤ (l.length : Int) - 1 by omega)]
      cases a with
      | none => have := hnil rfl; subst this; simp at hlen
      | some p =>
        have e1 : ((l.length : Int) - 1) = ((l.length - 1 : Nat) : Int) := by omega
        rw [e1]
        obtain ⟨p', r, hp', _, hr, hcell, sv0, hr0, hs0⟩ := (OBlks.sl h).get (show l.length - 1 < l.length by omega)
        cases hp'
        subst hr0
        refine ixK_n (by omega) ?_
        simp only [KS]
        refine ld1K_i (hcell 1 _ rfl) ?_
        refine callK_mono (same_set hs0 hs) ?_
        rintro v1 w1 ⟨rfl, hg⟩
        refine ⟨?_, hg⟩
        have : l.getLast? = some l[l.length - 1] := by rw [List.getLast?_eq_getElem?]; simp [show l.length - 1 < l.length by omega]
        simp [lastSame, this]
    · have : l = [] := List.eq_nil_of_length_eq_zero (by omega)
      subst this
      rw [if_neg (by simp)]
      exact ⟨rfl, Mod.refl _ _⟩
end Go.Proofs.Ytmfplfaeibehiaa

namespace Go.K
open Go
theorem cell_box {w : World} {t : TypeId} {vs : List Value} {j : Nat} {v : Value} (h : vs[j]? = some v) : (w.alloc (.cells vs.toArray t)).cell? ((⟨w.heap.size, 0, none⟩ : Addr).add j) = some v := by
  have hadd : (⟨w.heap.size, 0, none⟩ : Addr).add j = ⟨w.heap.size, j, none⟩ := by unfold Addr.add; split <;> simp_all
  rw [hadd, World.cell?_alloc_new]; simpa using h
theorem OwnR.ownB {α : Type} {B e k : Nat} {R : World → List Value → α → Prop} {w : World} {v : Value} {l : List α} (h : OwnR B e k R w v l) : ∀ g, v.ownBlock = some g → B ≤ g ∧ g < w.heap.size := by
  obtain ⟨a, c, rfl, _, _, hp, _⟩ := OwnR.shape h
  intro g hg
  cases a with
  | none => cases hg
  | some p => obtain ⟨g', rfl, h1, h2, h3⟩ := hp p rfl; rw [hg] at h3; cases h3; exact ⟨h1, h2⟩
theorem SlR.old {α : Type} {S : Nat → Prop} {k : Nat} {R : World → List Value → α → Prop} {w : World} {v : Value} {l : List α} (h : SlR S k R w v l) (hk : 0 < k) : SlR (fun b => S b ∧ b < w.heap.size) k R w v l :=
  h.sub (fun b hb hs => ⟨hs, hb⟩) hk fun _ _ h => h
end Go.K
namespace Go.Proofs.Ytmfplfaeibehiaa
open Go Go.K

/-- adding behind: from here on all is told of the world w the function began in -/
theorem add_next {S : Nat → Prop} {w w1 : World} {v sv : Value} {l : List Blk} {n : Int} {set : List Attr} (h : OBlks w.heap.size w1 v l) (hg : Grow w w1) (hs : RSet S w sv set) (hl : l.length < 4398046511104)
    (hset : set.length * 48 ≤ 140737488355328) :
    callK Try.prog 51 [v, .int .i64 n, sv] (fun v' w' => OBlks w.heap.size w' v' (addB l n set) ∧ Grow w w') w1 := by
  refine callK_mono (add_blk h ((hs.old (by decide)).grow hg (by decide) fun _ _ h => h) (fun b hb e => by have := (OwnR.ownB h b e).1; omega) hg.size hl hset) ?_
  rintro v' w' ⟨h1, h2, _⟩
  exact ⟨h1, hg.next h2 fun b hb hv => by have := (OwnR.ownB h b hv).1; omega⟩

def joinB (l : List Blk) : List Blk := l.foldl (fun acc b => addB acc b.n b.set) []
theorem foldB_len (l : List Blk) : ∀ acc : List Blk, (l.foldl (fun acc b => addB acc b.n b.set) acc).length ≤ acc.length + l.length := by
  induction l with
  | nil => intro acc; simp
  | cons b l ih => intro acc; have := ih (addB acc b.n b.set); have := addB_len acc b.n b.set; simp only [List.foldl_cons, List.length_cons]; omega
theorem joinB_len (l : List Blk) : (joinB l).length ≤ l.length := by have := foldB_len l []; simpa [joinB] using this
theorem joinB_take {l : List Blk} {k : Nat} (h : k < l.length) : joinB (l.take (k + 1)) = addB (joinB (l.take k)) l[k].n l[k].set := by
  rw [List.take_add_one, List.getElem?_eq_getElem h]
  simp only [joinB, List.foldl_append, Option.toList, List.foldl_cons, List.foldl_nil]

theorem join_blk {S D : Nat → Prop} {w : World} {v : Value} {l : List Blk} (h : RBlks S D w v l) (hl : l.length < 4398046511104) (hset : ∀ b ∈ l, b.set.length * 48 ≤ 140737488355328) :
    callK Try.prog 17 [v] (fun v' w' => OBlks w.heap.size w' v' (joinB l) ∧ Grow w w') w := by
  apply S17_ok
  unfold S17
  obtain ⟨a, c, rfl, hm⟩ := h.shape
  simp only [KS]
  refine LoopK_i (fun vs w1 => ∃ (k : Nat) (out : Value), k ≤ l.length ∧ vs = [out, .int .i64 k] ∧ OBlks w.heap.size w1 out (joinB (l.take k)) ∧ Grow w w1) (fun vs _ => l.length - iOf vs 1) ⟨0, _, Nat.zero_le _, rfl, OwnR.nil, Mod.refl _ _⟩ ?_
  rintro vs w1 ⟨k, out, hk, rfl, ho, hg⟩ _
  simp only [KS]
  by_cases hlt : k < l.length
  · rw [if_pos (show (k : Int) < l.length by omega)]
    obtain ⟨p, r, rfl, _, hr, hc, sv, rfl, hs⟩ := h.get hlt
    refine ixK_n hlt (ldnK_i hr (fun j u hu => by rw [Addr.add_add]; exact hg.cell (hc j u hu) fun h => h) (newK_i (stnew (vs := [.int .i64 l[k].n, sv]) rfl (RBlk.one ⟨sv, rfl, hs⟩) ?_)))
    simp only [KS]
    have hg2 : Grow w (w1.alloc (.cells [.int .i64 l[k].n, sv].toArray 34)) := hg.trans (Mod.alloc _ _ _)
    refine ld1K_i (cell_box (j := 0) rfl) ?_
    refine ld1K_i (cell_box (j := 1) rfl) ?_
    refine callK_mono (add_next (ho.grow (Mod.alloc (fun _ => False) _ _) (fun _ _ _ h => h)) hg2 hs (by have := joinB_len (l.take k); simp at this; omega) (hset _ (by simp))) ?_
    rintro v' w' ⟨h1, h2⟩
    refine ⟨⟨k + 1, v', by omega, by rw [wrap64 (by omega) (by simp only [maxLen] at hm; omega)]; rfl, by rw [joinB_take hlt]; exact h1, h2⟩, ?_⟩
    simp only [iOf, nth, List.headD_cons, List.tail_cons]; rw [wrap64 (by omega) (by simp only [maxLen] at hm; omega)]; omega
  · rw [if_neg (show ¬ (k : Int) < l.length by omega)]
    have : k = l.length := by omega
    subst this
    rw [List.take_length] at ho
    exact ⟨ho, hg⟩

/-! ### cells -/
structure Cel where
  r : Int
  set : List Attr
  deriving DecidableEq
def RCel (D : Nat → Prop) (w : World) (r : List Value) (c : Cel) : Prop := ∃ sv, r = [.int .i32 c.r, sv] ∧ RSet D w sv c.set
theorem RCel.one {D : Nat → Prop} {w : World} {r : List Value} {b : Cel} (h : RCel D w r b) : ∀ u ∈ r, u.oneCell' = true := by
  obtain ⟨sv, rfl, hs⟩ := h
  obtain ⟨a, c, rfl, _⟩ := hs.shape
  intro u hu
  simp only [List.mem_cons, List.not_mem_nil, or_false] at hu
  rcases hu with rfl | rfl <;> rfl
theorem RCel.mod {D D' M : Nat → Prop} {w w' : World} {r : List Value} {b : Cel} (h : RCel D w r b) (hm : Mod M w w') (hD : ∀ b, b < w.heap.size → D b → ¬ M b) (hD' : ∀ b, b < w.heap.size → D b → D' b) : RCel D' w' r b := by
  obtain ⟨sv, rfl, hs⟩ := h
  exact ⟨sv, rfl, hs.mono hD' (fun b hb hd => hm.same b hb (hD b hb hd)) (by decide) fun _ _ h => h⟩
theorem elem_cel : ElemOK Try.prog 22 26 2 32 := ⟨Try.t26, .agg #[.int .i32 0, .slice none 0 0], by kernel_rfl, by kernel_rfl, by kernel_rfl, by kernel_rfl, by kernel_rfl, by rfl, by decide⟩
abbrev RCels (S D : Nat → Prop) (w : World) (v : Value) (l : List Cel) : Prop := SlR S 2 (RCel D) w v l
def Cel.inl (c : Cel) : List Attr := if c.r = 10 then [] else c.set
theorem inl_ok {c : Cel} (h : c.set.length * 48 ≤ 140737488355328) : c.inl.length * 48 ≤ 140737488355328 := by
  unfold Cel.inl; split
  · simp
  · exact h
def ofB (l : List Cel) : List Blk := l.foldl (fun acc c => addB acc 1 c.inl) []
theorem foldC_len (l : List Cel) : ∀ acc : List Blk, (l.foldl (fun acc c => addB acc 1 c.inl) acc).length ≤ acc.length + l.length := by
  induction l with
  | nil => intro acc; simp
  | cons b l ih => intro acc; have := ih (addB acc 1 b.inl); have := addB_len acc 1 b.inl; simp only [List.foldl_cons, List.length_cons]; omega
theorem ofB_len (l : List Cel) : (ofB l).length ≤ l.length := by have := foldC_len l []; simpa [ofB] using this
theorem ofB_take {l : List Cel} {k : Nat} (h : k < l.length) : ofB (l.take (k + 1)) = addB (ofB (l.take k)) 1 l[k].inl := by
  rw [List.take_add_one, List.getElem?_eq_getElem h]
  simp only [ofB, List.foldl_append, Option.toList, List.foldl_cons, List.foldl_nil]
theorem of_blk {S D : Nat → Prop} {w : World} {v : Value} {l : List Cel} (h : RCels S D w v l) (hl : l.length < 4398046511104) (hset : ∀ b ∈ l, b.set.length * 48 ≤ 140737488355328) :
    callK Try.prog 15 [v] (fun v' w' => OBlks w.heap.size w' v' (ofB l) ∧ Grow w w') w := by
  apply S15_ok
  unfold S15
  obtain ⟨a, c, rfl, hm⟩ := h.shape
  simp only [KS]
  refine LoopK_i (fun vs w1 => ∃ (k : Nat) (out : Value), k ≤ l.length ∧ vs = [out, .int .i64 k] ∧ OBlks w.heap.size w1 out (ofB (l.take k)) ∧ Grow w w1) (fun vs _ => l.length - iOf vs 1) ⟨0, _, Nat.zero_le _, rfl, OwnR.nil, Mod.refl _ _⟩ ?_
  rintro vs w1 ⟨k, out, hk, rfl, ho, hg⟩ _
  simp only [KS]
  by_cases hlt : k < l.length
  · rw [if_pos (show (k : Int) < l.length by omega)]
    obtain ⟨p, r, rfl, _, hr, hc, sv, rfl, hs⟩ := h.get hlt
    refine ixK_n hlt (ldnK_i hr (fun j u hu => by rw [Addr.add_add]; exact hg.cell (hc j u hu) fun h => h) (newK_i (stnew (vs := [.int .i32 l[k].r, sv]) rfl (RCel.one ⟨sv, rfl, hs⟩) ?_)))
    simp only [KS]
    have hg2 : Grow w (w1.alloc (.cells [.int .i32 l[k].r, sv].toArray 26)) := hg.trans (Mod.alloc _ _ _)
    refine ld1K_i (cell_box (j := 1) rfl) ?_
    refine ld1K_i (cell_box (j := 0) rfl) ?_
    simp only [KS]
    have fin : ∀ sv' set', set' = l[k].inl → RSet D w sv' set' → callK Try.prog 51 [out, .int .i64 1, sv'] (fun t20 w7 => (∃ (k' : Nat) (out : Value), k' ≤ l.length ∧ [t20, Value.int .i64 (IntKind.i64.wrap (k + 1))] = [out, .int .i64 k'] ∧ OBlks w.heap.size w7 out (ofB (l.take k')) ∧ Grow w w7) ∧ l.length - iOf [t20, Value.int .i64 (IntKind.i64.wrap (k + 1))] 1 < l.length - iOf [out, Value.int .i64 k] 1) (w1.alloc (.cells [.int .i32 l[k].r, sv].toArray 26)) := by
      rintro sv' set' rfl hs'
      refine callK_mono (add_next (ho.grow (Mod.alloc (fun _ => False) _ _) (fun _ _ _ h => h)) hg2 hs' (by have := ofB_len (l.take k); simp at this; omega) (inl_ok (hset _ (by simp)))) ?_
      rintro v' w' ⟨h1, h2⟩
      refine ⟨⟨k + 1, v', by omega, by rw [wrap64 (by omega) (by simp only [maxLen] at hm; omega)]; rfl, by rw [ofB_take hlt]; exact h1, h2⟩, ?_⟩
      simp only [iOf, nth, List.headD_cons, List.tail_cons]; rw [wrap64 (by omega) (by simp only [maxLen] at hm; omega)]; omega
    by_cases hr : l[k].r = 10
    · rw [if_pos hr]
      exact fin _ [] (by simp [Cel.inl, hr]) SlR.nil
    · rw [if_neg hr]
      exact fin _ l[k].set (by simp [Cel.inl, hr]) hs
  · rw [if_neg (show ¬ (k : Int) < l.length by omega)]
    have : k = l.length := by omega
    subst this
    rw [List.take_length] at ho
    exact ⟨ho, hg⟩
end Go.Proofs.Ytmfplfaeibehiaa

namespace Go.Proofs.Ytmfplfaeibehiaa
open Go Go.K

theorem bool_inj {a b : Bool} (h : (a = true ↔ b = true)) : Value.bool a = .bool b := by congr 1; exact Bool.eq_iff_iff.2 h
/-- rubricref05.Same -/
theorem rsame_set {S S' : Nat → Prop} {a b : Value} {l m : List Attr} {w : World} (ha : RSet S w a l) (hb : RSet S' w b m) :
    callK Try.prog 21 [a, b] (fun v w' => v = .bool (decide (l = m)) ∧ Grow w w') w := by
  apply S21_ok
  unfold S21
  obtain ⟨pa, ca, rfl, hla⟩ := ha.shape
  obtain ⟨pb, cb, rfl, hlb⟩ := hb.shape
  simp only [KS]
  simp only [maxLen] at hla hlb
  by_cases hlen : l.length = m.length
  · rw [if_neg (show ¬ ¬ (l.length : Int) = m.length by omega)]
    refine LoopK_i (fun vs w' => ∃ k : Nat, k ≤ l.length ∧ vs = [.int .i64 k] ∧ Grow w w' ∧ l.take k = m.take k) (fun vs _ => l.length - iOf vs 0) ⟨0, Nat.zero_le _, rfl, Mod.refl _ _, rfl⟩ ?_
    rintro vs w1 ⟨k, hk, rfl, hg, ht⟩ h
    simp only [KS]
    by_cases hlt : k < l.length
    · rw [if_pos (show (k : Int) < l.length by omega)]
      refine ⟨fun w2 => Grow w1 w2, Mod.drew _ _, ?_⟩
      obtain ⟨p, r, rfl, _, hr, hc, hx⟩ := ha.get hlt
      obtain ⟨q, r', rfl, _, hr', hc', hx'⟩ := hb.get (show k < m.length by omega)
      refine ixK_n hlt (qldnK_i hr (fun w2 h2 j u hu => ?_) ?_)
      · rw [Addr.add_add]; exact h2.cell (hg.cell (hc j u hu) (fun h => h)) (fun h => h)
      refine ixK_n (by omega) (qldnK_i hr' (fun w2 h2 j u hu => ?_) ?_)
      · rw [Addr.add_add]; exact h2.cell (hg.cell (hc' j u hu) (fun h => h)) (fun h => h)
      subst hx; subst hx'
      refine ⟨_, fun w2 _ => run_ne_attr _ _ _ _ w2, fun w2 h2 => ?_⟩
      simp only [KS]
      by_cases he : l[k] = m[k]
      · rw [if_neg (fun h => h he)]
        refine ⟨⟨k + 1, by omega, by rw [wrap64 (by omega) (by omega)]; rfl, hg.trans h2, ?_⟩, ?_⟩
        · rw [List.take_add_one, List.take_add_one, ht]
          simp [hlt, show k < m.length by omega, he]
        · simp only [iOf, nth, List.headD_cons]; rw [wrap64 (by omega) (by omega)]; omega
      · rw [if_pos he]
        refine ⟨?_, hg.trans h2⟩
        congr 1
        symm
        rw [decide_eq_false_iff_not]
        intro e; subst e; exact he rfl
    · rw [if_neg (show ¬ (k : Int) < l.length by omega)]
      refine ⟨?_, hg⟩
      congr 1; symm
      rw [decide_eq_true_eq]
      have : k = l.length := by omega
      subst this
      rw [List.take_length] at ht
      rw [ht, hlen, List.take_length]
  · rw [if_pos (show ¬ (l.length : Int) = m.length by omega)]
    refine ⟨?_, Mod.refl _ _⟩
    congr 1; symm
    rw [decide_eq_false_iff_not]
    intro e; exact hlen (by rw [e])
/-- rubricref12.Same -/
theorem rsame_blk {S S' D D' : Nat → Prop} {a b : Value} {l m : List Blk} {w : World} (ha : RBlks S D w a l) (hb : RBlks S' D' w b m) :
    callK Try.prog 16 [a, b] (fun v w' => v = .bool (decide (l = m)) ∧ Grow w w') w := by
  apply S16_ok
  unfold S16
  obtain ⟨pa, ca, rfl, hla⟩ := ha.shape
  obtain ⟨pb, cb, rfl, hlb⟩ := hb.shape
  simp only [KS]
  simp only [maxLen] at hla hlb
  by_cases hlen : l.length = m.length
  · rw [if_neg (show ¬ ¬ (l.length : Int) = m.length by omega)]
    refine LoopK_i (fun vs w' => ∃ k : Nat, k ≤ l.length ∧ vs = [.int .i64 k] ∧ Grow w w' ∧ l.take k = m.take k) (fun vs _ => l.length - iOf vs 0) ⟨0, Nat.zero_le _, rfl, Mod.refl _ _, rfl⟩ ?_
    rintro vs w1 ⟨k, hk, rfl, hg, ht⟩ h
    simp only [KS]
    by_cases hlt : k < l.length
    · rw [if_pos (show (k : Int) < l.length by omega)]
      refine ⟨fun w2 => Grow w1 w2, Mod.drew _ _, ?_⟩
      obtain ⟨p, r, rfl, _, hr, hc, sv, rfl, hs⟩ := ha.get hlt
      obtain ⟨q, r', rfl, _, hr', hc', sv', rfl, hs'⟩ := hb.get (show k < m.length by omega)
      have cel : ∀ w2, Grow w1 w2 → ∀ {a : Addr} {v : Value}, w.cell? a = some v → w2.cell? a = some v := fun w2 h2 _ _ hc => h2.cell (hg.cell hc (fun h => h)) (fun h => h)
      refine ixK_n hlt ?_
      simp only [KS]
      refine qld1K_i (fun w2 h2 => cel w2 h2 (hc 0 _ rfl)) (ixK_n (by omega) ?_)
      simp only [KS]
      refine qld1K_i (fun w2 h2 => cel w2 h2 (hc' 0 _ rfl)) ?_
      simp only [KS]
      by_cases hn : l[k].n = m[k].n
      · rw [if_neg (fun h => h hn)]
        refine ixK_n hlt ?_
        simp only [KS]
        refine qld1K_i (fun w2 h2 => cel w2 h2 (hc 1 _ rfl)) (ixK_n (by omega) ?_)
        simp only [KS]
        refine qld1K_i (fun w2 h2 => cel w2 h2 (hc' 1 _ rfl)) ?_
        refine ⟨_, fun w2 h2 => callK_mono (rsame_set ((hs.grow hg (by decide) fun _ _ h => h).grow h2 (by decide) fun _ _ h => h) ((hs'.grow hg (by decide) fun _ _ h => h).grow h2 (by decide) fun _ _ h => h)) fun v w3 ⟨e, h3⟩ => ⟨e, h2.trans h3⟩, ?_⟩
        simp only [KS]
        intro w3 h3
        by_cases he : l[k].set = m[k].set
        · rw [if_neg (fun h => h he)]
          refine ⟨⟨k + 1, by omega, by rw [wrap64 (by omega) (by omega)]; rfl, hg.trans h3, ?_⟩, ?_⟩
          · have e : l[k] = m[k] := by
              cases h1 : l[k]; cases h2 : m[k]
              rw [h1, h2] at hn he; simp only at hn he; rw [hn, he]
            rw [List.take_add_one, List.take_add_one, ht]
            simp [hlt, show k < m.length by omega, e]
          · simp only [iOf, nth, List.headD_cons]; rw [wrap64 (by omega) (by omega)]; omega
        · rw [if_pos he]
          refine ⟨?_, hg.trans h3⟩
          congr 1; symm
          rw [decide_eq_false_iff_not]
          intro e; subst e; exact he rfl
      · rw [if_pos hn]
        intro w3 h3
        refine ⟨?_, hg.trans h3⟩
        congr 1; symm
        rw [decide_eq_false_iff_not]
        intro e; subst e; exact hn rfl
    · rw [if_neg (show ¬ (k : Int) < l.length by omega)]
      refine ⟨?_, hg⟩
      congr 1; symm
      rw [decide_eq_true_eq]
      have : k = l.length := by omega
      subst this
      rw [List.take_length] at ht
      rw [ht, hlen, List.take_length]
  · rw [if_pos (show ¬ (l.length : Int) = m.length by omega)]
    refine ⟨?_, Mod.refl _ _⟩
    congr 1; symm
    rw [decide_eq_false_iff_not]
    intro e; exact hlen (by rw [e])
/-- whether blocks are proper -/
def ProperB (l : List Blk) : Prop := ∀ (i : Nat) b, l[i]? = some b → 0 < b.n ∧ ∀ c, 0 < i → l[i - 1]? = some c → c.set ≠ b.set
def properN (l : List Blk) (k : Nat) : Prop := ∀ i, i < k → ∀ b, l[i]? = some b → 0 < b.n ∧ ∀ c, 0 < i → l[i - 1]? = some c → c.set ≠ b.set
open Classical in
theorem proper_blk {S D : Nat → Prop} {w : World} {v : Value} {l : List Blk} (h : RBlks S D w v l) :
    callK Try.prog 23 [v] (fun v' w' => v' = .bool (decide (ProperB l)) ∧ Grow w w') w := by
  apply S23_ok
  unfold S23
  obtain ⟨a, c, rfl, hm⟩ := h.shape
  simp only [maxLen] at hm
  simp only [KS]
  refine LoopK_i (fun vs w1 => ∃ (k : Nat), k ≤ l.length ∧ vs = [.int .i64 k] ∧ properN l k ∧ Grow w w1) (fun vs _ => l.length - iOf vs 0) ⟨0, Nat.zero_le _, rfl, (fun i hi => by omega), Mod.refl _ _⟩ ?_
  rintro vs w1 ⟨k, hk, rfl, ho, hg⟩ _
  simp only [KS]
  by_cases hlt : k < l.length
  · rw [if_pos (show (k : Int) < l.length by omega)]
    obtain ⟨p, r, rfl, _, hr, hc, sv, rfl, hs⟩ := h.get hlt
    refine ixK_n hlt (ldnK_i hr (fun j u hu => by rw [Addr.add_add]; exact hg.cell (hc j u hu) fun h => h) (newK_i (stnew (vs := [.int .i64 l[k].n, sv]) rfl (RBlk.one ⟨sv, rfl, hs⟩) ?_)))
    generalize hw2 : w1.alloc (.cells [.int .i64 l[k].n, sv].toArray 34) = w2
    have hg2 : Grow w w2 := by rw [← hw2]; exact hg.trans (Mod.alloc _ _ _)
    have hbox : ∀ j u, [Value.int .i64 l[k].n, sv][j]? = some u → ∀ w3, Grow w2 w3 → w3.cell? ((⟨w1.heap.size, 0, none⟩ : Addr).add j) = some u := fun j u hu w3 h3 => h3.cell (by rw [← hw2]; exact cell_box hu) fun h => h
    have fin : (¬ ProperB l) → (Value.bool false = .bool (decide (ProperB l))) := fun h => by rw [decide_eq_false h]
    have next : (0 < l[k].n ∧ ∀ c, 0 < k → l[k - 1]? = some c → c.set ≠ l[k].set) → ∀ w3, Grow w2 w3 → (∃ (k' : Nat), k' ≤ l.length ∧ [Value.int .i64 (IntKind.i64.wrap (k + 1))] = [.int .i64 k'] ∧ properN l k' ∧ Grow w w3) ∧ l.length - iOf [Value.int .i64 (IntKind.i64.wrap (k + 1))] 0 < l.length - iOf [Value.int .i64 k] 0 := by
      intro hn w3 h3
      refine ⟨⟨k + 1, by omega, by rw [wrap64 (by omega) (by omega)]; rfl, fun i hi b hb => ?_, hg2.trans h3⟩, ?_⟩
      · by_cases e : i = k
        · subst e
          rw [List.getElem?_eq_getElem hlt] at hb; cases hb
          exact hn
        · exact ho i (by omega) b hb
      · simp only [iOf, nth, List.headD_cons]; rw [wrap64 (by omega) (by omega)]; omega
    refine ⟨fun w3 => Grow w2 w3, Mod.drew _ _, ?_⟩
    simp only [KS]
    refine qld1K_i (fun w3 h3 => hbox 0 _ rfl w3 h3) ?_
    simp only [KS]
    by_cases hn : l[k].n ≤ 0
    · rw [if_pos hn]
      intro w3 h3
      refine ⟨fin fun hp => ?_, hg2.trans h3⟩
      have := (hp k _ (List.getElem?_eq_getElem hlt)).1; omega
    · rw [if_neg hn]
      by_cases h0 : 0 < k
      · rw [if_pos (show (0 : Int) < k by omega), wrap64 (by omega) (by omega)]
        obtain ⟨p', r', hp', _, hr', hc', sv', rfl, hs'⟩ := h.get (show k - 1 < l.length by omega)
        cases hp'
        rw [show ((k : Int) - 1) = ((k - 1 : Nat) : Int) by omega]
        refine ixK_n (by omega) ?_
        simp only [KS]
        refine qld1K_i (fun w3 h3 => h3.cell (hg2.cell (hc' 1 _ rfl) fun h => h) fun h => h) ?_
        refine qld1K_i (fun w3 h3 => hbox 1 _ rfl w3 h3) ?_
        refine ⟨_, fun w3 h3 => callK_mono (same_set ((hs'.grow hg2 (by decide) fun _ _ h => h).grow h3 (by decide) fun _ _ h => h) ((hs.grow hg2 (by decide) fun _ _ h => h).grow h3 (by decide) fun _ _ h => h)) fun v w4 ⟨e, h4⟩ => ⟨e, h3.trans h4⟩, ?_⟩
        intro w3 h3
        simp only [KS]
        by_cases he : l[k - 1].set = l[k].set
        · rw [if_pos he]
          refine ⟨fin fun hp => ?_, hg2.trans h3⟩
          exact (hp k _ (List.getElem?_eq_getElem hlt)).2 _ h0 (List.getElem?_eq_getElem (by omega)) he
        · rw [if_neg he]
          exact next ⟨by omega, fun c _ hc => by rw [List.getElem?_eq_getElem (by omega)] at hc; cases hc; exact he⟩ w3 h3
      · rw [if_neg (show ¬ (0 : Int) < k by omega)]
        intro w3 h3
        exact next ⟨by omega, fun c h1 _ => absurd h1 h0⟩ w3 h3
  · rw [if_neg (show ¬ (k : Int) < l.length by omega)]
    have : k = l.length := by omega
    subst this
    refine ⟨?_, hg⟩
    rw [decide_eq_true]
    intro i b hb
    exact ho i (List.getElem?_eq_some_iff.1 hb).1 b hb
end Go.Proofs.Ytmfplfaeibehiaa

namespace Go.Proofs.Ytmfplfaeibehiaa
open Go Go.K

/-- where the k-th block begins -/
def atB (l : List Blk) (k : Nat) : Int := (l.take k).foldl (fun s b => IntKind.i64.wrap (s + b.n)) 0
theorem atB_succ {l : List Blk} {k : Nat} (h : k < l.length) : atB l (k + 1) = IntKind.i64.wrap (atB l k + l[k].n) := by
  unfold atB
  rw [List.take_add_one, List.getElem?_eq_getElem h]
  simp only [List.foldl_append, Option.toList, List.foldl_cons, List.foldl_nil]
def encB (l : List Blk) (svs : Nat → Value) (k : Nat) : List Value := [.int .i64 (atB l k), .agg #[.int .i64 (match l[k]? with | some b => b.n | none => 0), svs k]]
theorem encB_at {l : List Blk} {svs : Nat → Value} {k : Nat} (h : k < l.length) : encB l svs k = [.int .i64 (atB l k), .agg #[.int .i64 l[k].n, svs k]] := by
  simp [encB, List.getElem?_eq_getElem h]
theorem each_blk {v : Value} {w : World} {a : Option Addr} {n c : Nat} (hv : v = .slice a n c) :
    callK Try.prog 52 [v] (fun f w' => f = .func (.func 78) #[] #[.pointer (some ⟨w.heap.size, 0, none⟩)] ∧ w' = w.alloc (.cells #[v] 27)) w := by
  subst hv
  apply S52_ok
  exact ⟨rfl, rfl, rfl⟩
/-- the cells' values of what a slice of blocks holds -/
theorem sets_of {S D : Nat → Prop} {w : World} {v : Value} {l : List Blk} (h : RBlks S D w v l) : ∃ svs : Nat → Value, ∀ k (hk : k < l.length), ∃ a c p, v = .slice (some a) l.length c ∧ p = a ∧ S a.block ∧ w.cell? (a.add (k * 2)) = some (.int .i64 l[k].n) ∧ w.cell? (a.add (k * 2 + 1)) = some (svs k) ∧ RSet D w (svs k) l[k].set := by
  have : ∀ k, ∃ sv, ∀ (hk : k < l.length), ∃ a c p, v = .slice (some a) l.length c ∧ p = a ∧ S a.block ∧ w.cell? (a.add (k * 2)) = some (.int .i64 l[k].n) ∧ w.cell? (a.add (k * 2 + 1)) = some sv ∧ RSet D w sv l[k].set := by
    intro k
    by_cases hk : k < l.length
    · obtain ⟨a, c, hv, _⟩ := h.shape
      subst hv
      obtain ⟨p, r, rfl, hS, hr, hc, sv, rfl, hs⟩ := h.get hk
      exact ⟨sv, fun _ => ⟨_, _, _, rfl, rfl, hS, hc 0 _ rfl, hc 1 _ rfl, hs⟩⟩
    · exact ⟨undef, fun h => absurd h hk⟩
  exact ⟨fun k => Classical.choose (this k), fun k hk => Classical.choose_spec (this k) hk⟩
theorem each_seq {S D : Nat → Prop} {w : World} {v : Value} {l : List Blk} (h : RBlks S D w v l) {bx : Addr} (hbx : w.cell? bx = some v) (hlt : ∀ b, S b → b < w.heap.size) :
    ∃ svs : Nat → Value, (∀ k (hk : k < l.length), RSet D w (svs k) l[k].set) ∧ SeqK True Try.prog 78 [.pointer (some bx)] (encB l svs) l.length (fun b => S b) w := by
  obtain ⟨svs, hsv⟩ := sets_of h
  refine ⟨svs, fun k hk => by obtain ⟨_, _, _, _, _, _, _, _, h⟩ := hsv k hk; exact h, ?_⟩
  intro yl J Jx w1 hg h0 stJ stJx hRd hround
  apply S78_ok
  unfold S78
  obtain ⟨a, c, rfl, hm⟩ := h.shape
  simp only [maxLen] at hm
  refine ld1K_i (Mod.cell hg hbx fun h => h) ?_
  simp only [KS]
  refine LoopK_i (fun vs W => ∃ (k : Nat) (It : Nat → Prop), k ≤ l.length ∧ vs = [.int .i64 (atB l k), .int .i64 k] ∧ J k It W ∧ ∀ b, It b → b < W.heap.size) (fun vs _ => l.length - iOf vs 1) ⟨0, _, Nat.zero_le _, rfl, h0, fun _ h => h.elim⟩ ?_
  rintro vs W ⟨k, It, hk, rfl, hJ, hIt⟩ _
  simp only [KS]
  by_cases hlk : k < l.length
  · rw [if_pos (show (k : Int) < l.length by omega)]
    obtain ⟨p, c', p', hv, rfl, hS, hc0, hc1, hs⟩ := hsv k hlk
    cases hv
    have old : ∀ {q : Addr} {u : Value}, q.block = p'.block → w.cell? q = some u → W.cell? q = some u := fun {q u} hq hc => by
      rw [← hc]; exact World.cell?_of_block (by rw [hq]; exact hRd k It W hJ _ (hlt _ hS) hS)
    have blk : ∀ x, (p'.add x).block = p'.block := fun x => by unfold Addr.add; split <;> rfl
    refine ixK_n hlk (ldnK_i (vs := [.int .i64 l[k].n, svs k]) rfl (fun j u hu => ?_) (newK_i (stnew (vs := [.int .i64 l[k].n, svs k]) rfl (RBlk.one (b := l[k]) ⟨svs k, rfl, hs⟩) ?_)))
    · rw [Addr.add_add]
      refine old (blk _) ?_
      match j with
      | 0 => cases hu; exact hc0
      | 1 => cases hu; exact hc1
      | j + 2 => simp at hu
    refine ldnK_i (vs := [.int .i64 l[k].n, svs k]) rfl (fun j u hu => cell_box hu) ?_
    generalize hW2 : W.alloc (.cells [.int .i64 l[k].n, svs k].toArray 34) = W2
    have hsz : W2.heap.size = W.heap.size + 1 := by rw [← hW2]; simp
    have hbox : W2.cell? ((⟨W.heap.size, 0, none⟩ : Addr).add 0) = some (.int .i64 l[k].n) := by rw [← hW2]; exact cell_box rfl
    have hJ2 : J k (fun b => It b ∨ b = W.heap.size) W2 := by
      refine stJ k It _ W W2 hJ (by rw [← hW2]; exact Mod.alloc _ _ _) fun b hb => ?_
      rcases hb with hb | rfl
      · exact ⟨.inl hb, by have := hIt b hb; omega⟩
      · exact ⟨.inr (Nat.le_refl _), by omega⟩
    refine .inr ⟨yl, rfl, ?_⟩
    have hr := hround k _ W2 hlk hJ2
    rw [encB_at hlk] at hr
    refine roundK_mono hr ?_
    rintro vv W3 ⟨hz3, hsame, ⟨rfl, hJ3⟩ | ⟨rfl, hJx⟩⟩
    · simp only [KS]
      have hc3 : W3.cell? ((⟨W.heap.size, 0, none⟩ : Addr).add 0) = some (.int .i64 l[k].n) := by
        rw [← hbox]; exact World.cell?_of_block (by rw [show ((⟨W.heap.size, 0, none⟩ : Addr).add 0).block = W.heap.size by unfold Addr.add; split <;> rfl]; exact hsame _ (.inr rfl))
      refine ld1K_i hc3 ?_
      simp only [KS]
      refine ⟨⟨k + 1, _, by omega, by rw [atB_succ hlk, wrap64 (x := (k : Int) + 1) (by omega) (by omega)]; rfl, hJ3, fun b hb => ?_⟩, ?_⟩
      · rcases hb with hb | rfl
        · have := hIt b hb; omega
        · omega
      · simp only [iOf, nth, List.headD_cons, List.tail_cons]; rw [wrap64 (x := (k : Int) + 1) (by omega) (by omega)]; omega
    · simp only [KS]
      exact ⟨_, .inr hJx⟩
  · rw [if_neg (show ¬ (k : Int) < l.length by omega)]
    have : k = l.length := by omega
    subst this
    exact ⟨It, .inl hJ⟩
end Go.Proofs.Ytmfplfaeibehiaa

namespace Go.K
open Go
theorem add_block (a : Addr) (x : Nat) : (a.add x).block = a.block := by unfold Addr.add; split <;> rfl
theorem Mod.putObj {M : Nat → Prop} (w : World) (b : Nat) (o : Obj) (h : M b) : Mod M w (w.putObj b o) := ⟨rfl, rfl, rfl, by simp, fun k _ hk => World.putObj_heap_other fun e => hk (e ▸ h)⟩
theorem add0 (a : Nat) : (⟨a, 0, none⟩ : Addr).add 0 = ⟨a, 0, none⟩ := by unfold Addr.add; split <;> simp_all
theorem begK_i {It : Nat → Prop} {w W : World} {J : World → Prop} {Jx : Exit → World → Prop} {F : (Exit → World → Prop) → World → Prop} {W1 : World} {M : Nat → Prop} (hm : Mod M W W1) (hz : w.heap.size + 2 ≤ W.heap.size) (hIt : ItOk It w W)
    (hM : ∀ b, b < W.heap.size → M b → ¬ It b ∧ b ≠ w.heap.size ∧ b ≠ w.heap.size + 1) (h : ∀ W2, Mod (fun b => b = w.heap.size + 1) W1 W2 → F (rndP It w W2 J Jx) W2) : begK It w W J Jx F W1 := by
  refine ⟨⟨hm.size, fun b hb => hm.same b ?_ fun hb' => ?_⟩, h⟩
  · rcases hb with hb | rfl | rfl
    · exact (hIt b hb).1
    · omega
    · omega
  · rcases hb with hb | rfl | rfl
    · exact (hM _ (hIt b hb).1 hb').1 hb
    · exact (hM _ (by omega) hb').2.1 rfl
    · exact (hM _ (by omega) hb').2.2 rfl
theorem kpW_i {It : Nat → Prop} {w W W' : World} {M : Nat → Prop} (hm : Mod M W W') (hz : w.heap.size + 2 ≤ W.heap.size) (hIt : ∀ b, It b → b < W.heap.size)
    (hM : ∀ b, b < W.heap.size → M b → ¬ It b ∧ b ≠ w.heap.size ∧ b ≠ w.heap.size + 1) : KpW It w W W' := by
  refine ⟨hm.size, fun b hb => hm.same b ?_ fun hb' => ?_⟩
  · rcases hb with hb | rfl | rfl
    · exact hIt b hb
    · omega
    · omega
  · rcases hb with hb | rfl | rfl
    · exact (hM _ (hIt b hb) hb').1 hb
    · exact (hM _ (by omega) hb').2.1 rfl
    · exact (hM _ (by omega) hb').2.2 rfl
end Go.K
namespace Go.Proofs.Ytmfplfaeibehiaa
open Go Go.K

theorem len_blk {S D : Nat → Prop} {w : World} {v : Value} {l : List Blk} (h : RBlks S D w v l) :
    callK Try.prog 19 [v] (fun v' w' => v' = .int .i64 (atB l l.length) ∧ Grow w w') w := by
  apply S19_ok
  unfold S19
  refine newK_i (st1K_i (v := .int .i64 0) rfl rfl (u := .int .i64 0) (by rw [← add0]; exact cell_box rfl) (World.frozen?_alloc_new ..) ?_)
  generalize hw2 : (w.alloc (.cells [Value.int .i64 0].toArray 3)).setCell ⟨w.heap.size, 0, none⟩ (.int .i64 0) = w2
  have hg2 : Grow w w2 := by
    rw [← hw2]
    exact Mod.next (Mod.alloc (fun _ => False) _ _) (Mod.setCell (M := fun b => b = w.heap.size) _ _ _ rfl) fun b hb e => by omega
  have hz2 : w2.heap.size = w.heap.size + 1 := by rw [← hw2]; simp
  have hc2 : w2.cell? ⟨w.heap.size, 0, none⟩ = some (.int .i64 0) := by
    rw [← hw2]; exact World.cell?_setCell_same' _ _ _ (by rw [← add0 w.heap.size]; rw [cell_box rfl]; rfl)
  have hf2 : w2.frozen? ⟨w.heap.size, 0, none⟩ = false := by rw [← hw2, World.frozen?_setCell]; exact World.frozen?_alloc_new ..
  have hv : ∃ a n c, v = .slice a n c := by obtain ⟨a, c, e, _⟩ := h.shape; exact ⟨a, _, c, e⟩
  obtain ⟨a, n, c, hv⟩ := hv
  refine callK_mono (each_blk (w := w2) hv) ?_
  rintro f w3 ⟨rfl, hw3⟩
  have hg3 : Grow w2 w3 := by rw [hw3]; exact Mod.alloc _ _ _
  have hz3 : w3.heap.size = w.heap.size + 2 := by rw [hw3]; simp [hz2]
  have h3 : RBlks (fun b => S b ∧ b < w.heap.size) D w3 v l := (h.old (by decide)).grow (hg2.trans hg3) (by decide) fun r x hx => hx.mod (hg2.trans hg3) (fun _ _ _ h => h) fun _ _ h => h
  obtain ⟨svs, hsv, hseq⟩ := each_seq h3 (bx := ⟨w2.heap.size, 0, none⟩) (by rw [hw3, ← add0]; exact cell_box rfl) (fun b hb => by omega)
  have hc3 := hg3.cell hc2 fun h => h
  have hf3 := (Mod.frozen hg3 (a := ⟨w.heap.size, 0, none⟩) (show w.heap.size < w2.heap.size by omega) fun h => h).trans hf2
  refine ⟨True, _, _, _, _, _, rfl, by kernel_rfl, hseq, fun k _ => rfl, ?_⟩
  refine ⟨fun k It W => W.cell? ⟨w.heap.size, 0, none⟩ = some (.int .i64 (atB l k)) ∧ W.frozen? ⟨w.heap.size, 0, none⟩ = false ∧ Mod (fun b => b = w.heap.size) w3 W, fun _ _ _ => False, ⟨by rw [hc3]; rfl, hf3, Mod.refl _ _⟩, ?_, ?_, ?_, ?_, ?_, ?_⟩
  · rintro k It It' W W' ⟨q1, q2, q3⟩ hm _
    have hne : ¬ ((¬ True ∧ It w.heap.size) ∨ w.heap.size = w3.heap.size ∨ w.heap.size = w3.heap.size + 1) := by rintro (⟨h, _⟩ | h | h); exact h trivial; all_goals omega
    have hlt : w.heap.size < W.heap.size := World.block_lt_of_cell? W ⟨w.heap.size, 0, none⟩ q1
    refine ⟨hm.cell q1 hne, (hm.frozen hlt hne).trans q2, q3.next hm fun b hb => ?_⟩
    rintro (⟨h, _⟩ | h | h)
    · exact (h trivial).elim
    all_goals omega
  · rintro x It It' W W' h; exact h.elim
  · rintro k It W ⟨_, _, q3⟩ b hb hr
    exact q3.same b hb (by omega)
  · rintro k It W hk ⟨q1, q2, q3⟩ hz hIt
    rw [encB_at hk]
    simp only [nth, List.headD_cons, List.tail_cons]
    refine newK_i (stnew (vs := [.int .i64 l[k].n, svs k]) rfl (RBlk.one (b := l[k]) ⟨svs k, rfl, hsv k hk⟩) ?_)
    generalize hW1 : W.alloc (.cells [.int .i64 l[k].n, svs k].toArray 34) = W1
    have hgW : Grow W W1 := by rw [← hW1]; exact Mod.alloc _ _ _
    refine begK_i hgW hz hIt (fun _ _ h => h.elim) fun W2 hm2 => ?_
    have hzW : W1.heap.size = W.heap.size + 1 := by rw [← hW1]; simp
    have hlW : w.heap.size < W.heap.size := World.block_lt_of_cell? W ⟨w.heap.size, 0, none⟩ q1
    have hb1 : W2.cell? ((⟨W.heap.size, 0, none⟩ : Addr).add 0) = some (.int .i64 l[k].n) := hm2.cell (by rw [← hW1]; exact cell_box rfl) (by rw [add_block]; show ¬ W.heap.size = _; omega)
    have hb2 : W2.cell? ⟨w.heap.size, 0, none⟩ = some (.int .i64 (atB l k)) := hm2.cell (hgW.cell q1 fun h => h) (by show ¬ w.heap.size = _; omega)
    have hb3 : W2.frozen? ⟨w.heap.size, 0, none⟩ = false := (hm2.frozen (show w.heap.size < W1.heap.size by omega) (by show ¬ w.heap.size = _; omega)).trans ((hgW.frozen hlW fun h => h).trans q2)
    simp only [KS]
    refine ld1K_i hb1 ?_
    simp only [KS]
    refine st1K_i rfl rfl hb2 hb3 ?_
    have hm3 : Mod (fun b => b = w.heap.size) W2 (W2.setCell ⟨w.heap.size, 0, none⟩ (.int .i64 (IntKind.i64.wrap (atB l k + l[k].n)))) := Mod.setCell _ _ _ rfl
    have hzs := hm2.size
    refine ⟨kpW_i hm3 (by omega) (fun b hb => by have := (hIt b hb).1; omega) (fun b _ e => ⟨fun hb => by have := (hIt b hb).2; omega, by omega, by omega⟩), ?_, ?_, ?_⟩
    · rw [atB_succ hk]; exact World.cell?_setCell_same' _ _ _ (by rw [hb2]; rfl)
    · rw [World.frozen?_setCell]; exact hb3
    · refine ((q3.next hgW fun _ _ h => h.elim).next hm2 fun b hb e => by omega).next hm3 fun b hb e => e
  · rintro It W ⟨q1, q2, q3⟩ _ _ hd
    refine ld1K_i q1 ⟨hd, rfl, ?_⟩
    have hmp : Mod (fun b => b = w3.heap.size) W (W.putObj w3.heap.size (.deferred none)) := Mod.putObj _ _ _ rfl
    exact ((hg2.trans hg3).next q3 fun b hb e => by omega).next hmp fun b hb e => by omega
  · rintro x It W h; exact h.elim
end Go.Proofs.Ytmfplfaeibehiaa

namespace Go.K
open Go
/-- a variable of one cell -/
def Var (W : World) (b : Nat) (v : Value) : Prop := W.cell? ⟨b, 0, none⟩ = some v ∧ W.frozen? ⟨b, 0, none⟩ = false
theorem Var.lt {W : World} {b : Nat} {v : Value} (h : Var W b v) : b < W.heap.size := World.block_lt_of_cell? W ⟨b, 0, none⟩ h.1
theorem Var.mod {M : Nat → Prop} {W W' : World} {b : Nat} {v : Value} (h : Var W b v) (hm : Mod M W W') (hb : ¬ M b) : Var W' b v := ⟨hm.cell h.1 hb, (hm.frozen (show b < W.heap.size from h.lt) hb).trans h.2⟩
theorem Var.grow {W W' : World} {b : Nat} {v : Value} (h : Var W b v) (hm : Grow W W') : Var W' b v := h.mod hm fun h => h
theorem Var.new (w : World) (t : TypeId) (v : Value) : Var (w.alloc (.cells [v].toArray t)) w.heap.size v := ⟨by rw [← add0]; exact cell_box rfl, World.frozen?_alloc_new ..⟩
theorem Var.set {W : World} {b : Nat} {v : Value} (h : Var W b v) (u : Value) : Var (W.setCell ⟨b, 0, none⟩ u) b u := ⟨World.cell?_setCell_same' _ _ _ (by rw [h.1]; rfl), by rw [World.frozen?_setCell]; exact h.2⟩
theorem Var.mset (W : World) (b : Nat) (u : Value) : Mod (fun x => x = b) W (W.setCell ⟨b, 0, none⟩ u) := Mod.setCell _ _ _ rfl
theorem Var.ld {W : World} {b : Nat} {v : Value} {K : Cont} (h : Var W b v) (hK : K v W) : ld1K (.pointer (some ⟨b, 0, none⟩)) K W := ld1K_i h.1 hK
theorem Var.st {W : World} {b : Nat} {v u : Value} {K : World → Prop} (h : Var W b v) (h1 : u.oneCell' = true) (h2 : u.cells = #[u]) (hK : Var (W.setCell ⟨b, 0, none⟩ u) b u → Mod (fun x => x = b) W (W.setCell ⟨b, 0, none⟩ u) → K (W.setCell ⟨b, 0, none⟩ u)) :
    st1K (.pointer (some ⟨b, 0, none⟩)) u K W := st1K_i h1 h2 h.1 h.2 (hK (h.set u) (Var.mset W b u))
theorem OwnR.one {α : Type} {B e k : Nat} {R : World → List Value → α → Prop} {w : World} {v : Value} {l : List α} (h : OwnR B e k R w v l) : v.oneCell' = true ∧ v.cells = #[v] := by
  obtain ⟨a, c, rfl, _⟩ := OwnR.shape h
  exact ⟨rfl, rfl⟩
end Go.K
namespace Go.Proofs.Ytmfplfaeibehiaa
open Go Go.K

theorem OSet.mod {B : Nat} {M : Nat → Prop} {w w' : World} {v : Value} {l : List Attr} (h : OSet B w v l) (hm : Mod M w w') (hM : ∀ b, b < w.heap.size → B ≤ b → ¬ M b) : OSet B w' v l :=
  OwnR.mod h hm (fun g hg => hM g (OwnR.ownB h g hg).2 (OwnR.ownB h g hg).1) fun _ _ _ h => h
def hitB (l : List Blk) (i : Int) (k : Nat) : Prop := atB l k ≤ i ∧ i < atB l (k + 1)
theorem at_blk {S D : Nat → Prop} {w : World} {v : Value} {l : List Blk} {i : Int} (h : RBlks S D w v l) (hset : ∀ b ∈ l, b.set.length * 48 ≤ 140737488355328) :
    callK Try.prog 20 [v, .int .i64 i] (fun v' w' => Grow w w' ∧ ((∃ sv k, ∃ hk : k < l.length, hitB l i k ∧ (∀ j, j < k → ¬ hitB l i j) ∧ v' = .tuple #[sv, .bool true] ∧ OSet w.heap.size w' sv l[k].set) ∨
      ((∀ k, k < l.length → ¬ hitB l i k) ∧ v' = .tuple #[.slice none 0 0, .bool false]))) w := by
  apply S20_ok
  unfold S20
  refine ⟨rfl, newK_i (newK_i (newK_i ?_))⟩
  have V1 := Var.new w 3 (.int .i64 i)
  generalize hw1 : w.alloc (.cells [Value.int .i64 i].toArray 3) = w1 at V1 ⊢
  have g1 : Grow w w1 := by rw [← hw1]; exact Mod.alloc _ _ _
  have z1 : w1.heap.size = w.heap.size + 1 := by rw [← hw1]; simp
  have V2 := Var.new w1 24 (.slice none 0 0)
  generalize hw2 : w1.alloc (.cells [Value.slice none 0 0].toArray 24) = w2 at V2 ⊢
  have g2 : Grow w1 w2 := by rw [← hw2]; exact Mod.alloc _ _ _
  have z2 : w2.heap.size = w.heap.size + 2 := by rw [← hw2]; simp [z1]
  have V3 := Var.new w2 4 (.bool false)
  generalize hw3 : w2.alloc (.cells [Value.bool false].toArray 4) = w3 at V3 ⊢
  have g3 : Grow w2 w3 := by rw [← hw3]; exact Mod.alloc _ _ _
  have z3 : w3.heap.size = w.heap.size + 3 := by rw [← hw3]; simp [z2]
  obtain ⟨a, n, c, hv⟩ : ∃ a n c, v = .slice a n c := by obtain ⟨a, c, e, _⟩ := h.shape; exact ⟨a, _, c, e⟩
  refine callK_mono (each_blk (w := w3) hv) ?_
  rintro f w4 ⟨rfl, hw4⟩
  have g4 : Grow w3 w4 := by rw [hw4]; exact Mod.alloc _ _ _
  have z4 : w4.heap.size = w.heap.size + 4 := by rw [hw4]; simp [z3]
  have g04 : Grow w w4 := ((g1.trans g2).trans g3).trans g4
  have h4 : RBlks (fun b => S b ∧ b < w.heap.size) (fun b => D b ∧ b < w.heap.size) w4 v l := (h.old (by decide)).mono (fun _ _ h => h) (fun b hb _ => g04.same b hb fun h => h) (by decide) fun r x hx => by
    obtain ⟨sv, rfl, hs⟩ := hx
    exact ⟨sv, rfl, (hs.old (by decide)).grow g04 (by decide) fun _ _ h => h⟩
  obtain ⟨svs, hsv, hseq⟩ := each_seq h4 (bx := ⟨w3.heap.size, 0, none⟩) (by rw [hw4, ← add0]; exact cell_box rfl) (fun b hb => by omega)
  replace V1 := ((V1.grow g2).grow g3).grow g4
  replace V2 := (V2.grow g3).grow g4
  replace V3 := V3.grow g4
  rw [z1] at V2
  rw [z2] at V3
  rw [z1, z2]
  refine ⟨True, _, _, _, _, _, rfl, by kernel_rfl, hseq, fun k _ => rfl, ?_⟩
  refine ⟨fun k It W => Var W w.heap.size (.int .i64 i) ∧ Var W (w.heap.size + 1) (.slice none 0 0) ∧ Var W (w.heap.size + 2) (.bool false) ∧ Grow w4 W ∧ ∀ j, j < k → ¬ hitB l i j,
    fun x It W => x = .ret ∧ ∃ sv k, ∃ hk : k < l.length, hitB l i k ∧ (∀ j, j < k → ¬ hitB l i j) ∧ Var W (w.heap.size + 1) sv ∧ Var W (w.heap.size + 2) (.bool true) ∧ Mod (fun b => b = w.heap.size + 1 ∨ b = w.heap.size + 2) w4 W ∧ OSet (w4.heap.size + 2) W sv l[k].set, ⟨V1, V2, V3, Mod.refl _ _, fun j hj => by omega⟩, ?_, ?_, ?_, ?_, ?_, ?_⟩
  · rintro k It It' W W' ⟨q1, q2, q3, q4, q5⟩ hm _
    refine ⟨q1.mod hm ?_, q2.mod hm ?_, q3.mod hm ?_, q4.next hm fun b hb => ?_, q5⟩
    all_goals (rintro (⟨h, _⟩ | h | h); exact (h trivial).elim; all_goals omega)
  · rintro x It It' W W' ⟨rfl, sv, k, hk, q1, q2, q3, q4, q5, q6⟩ hm _
    refine ⟨rfl, sv, k, hk, q1, q2, q3.mod hm ?_, q4.mod hm ?_, q5.next hm fun b hb => ?_, OSet.mod q6 hm fun b hb hB => ?_⟩
    all_goals (rintro (⟨h, _⟩ | h | h); exact (h trivial).elim; all_goals omega)
  · rintro k It W ⟨_, _, _, q4, _⟩ b hb hr
    exact q4.same b hb fun h => h
  · rintro k It W hk ⟨q1, q2, q3, q4, q5⟩ hz hIt
    rw [encB_at hk]
    simp only [nth, List.headD_cons, List.tail_cons]
    refine newK_i (stnew (vs := [.int .i64 l[k].n, svs k]) rfl (RBlk.one (b := l[k]) ⟨svs k, rfl, hsv k hk⟩) ?_)
    generalize hW1 : W.alloc (.cells [.int .i64 l[k].n, svs k].toArray 34) = W1
    have hgW : Grow W W1 := by rw [← hW1]; exact Mod.alloc _ _ _
    refine begK_i hgW hz hIt (fun _ _ h => h.elim) fun W2 hm2 => ?_
    have hzW : W1.heap.size = W.heap.size + 1 := by rw [← hW1]; simp
    have hzs := hm2.size
    have hb0 : W2.cell? ((⟨W.heap.size, 0, none⟩ : Addr).add 0) = some (.int .i64 l[k].n) := hm2.cell (by rw [← hW1]; exact cell_box rfl) (by rw [add_block]; show ¬ W.heap.size = _; omega)
    have hb1 : W2.cell? ((⟨W.heap.size, 0, none⟩ : Addr).add 1) = some (svs k) := hm2.cell (by rw [← hW1]; exact cell_box rfl) (by rw [add_block]; show ¬ W.heap.size = _; omega)
    have U1 := (q1.grow hgW).mod hm2 (by omega)
    have U2 := (q2.grow hgW).mod hm2 (by omega)
    have U3 := (q3.grow hgW).mod hm2 (by omega)
    have hItl : ∀ b, It b → b < W2.heap.size := fun b hb => by have := (hIt b hb).1; omega
    have g5 : Grow w4 W2 := (q4.trans hgW).next hm2 fun b hb e => by omega
    have stay : ¬ hitB l i k → rndP It w4 W2 (fun W => Var W w.heap.size (.int .i64 i) ∧ Var W (w.heap.size + 1) (.slice none 0 0) ∧ Var W (w.heap.size + 2) (.bool false) ∧ Grow w4 W ∧ ∀ j, j < k + 1 → ¬ hitB l i j)
        (fun x W => x = .ret ∧ ∃ sv k, ∃ hk : k < l.length, hitB l i k ∧ (∀ j, j < k → ¬ hitB l i j) ∧ Var W (w.heap.size + 1) sv ∧ Var W (w.heap.size + 2) (.bool true) ∧ Mod (fun b => b = w.heap.size + 1 ∨ b = w.heap.size + 2) w4 W ∧ OSet (w4.heap.size + 2) W sv l[k].set) .normal W2 := fun hn => by
      refine ⟨kpW_i (Mod.refl (fun _ => False) _) (by omega) hItl (fun _ _ h => h.elim), U1, U2, U3, g5, fun j hj => ?_⟩
      by_cases e : j = k
      · rw [e]; exact hn
      · exact q5 j (by omega)
    refine U1.ld ?_
    simp only [KS]
    by_cases h1 : atB l k ≤ i
    · rw [if_pos h1]
      refine U1.ld ?_
      refine ld1K_i hb0 ?_
      simp only [KS]
      by_cases h2 : i < IntKind.i64.wrap (atB l k + l[k].n)
      · rw [if_pos h2]
        refine ld1K_i hb1 ?_
        have hs2 : RSet (fun b => D b ∧ b < w.heap.size) W2 (svs k) l[k].set := (hsv k hk).grow g5 (by decide) fun _ _ h => h
        refine callK_mono (clone_set hs2 (hset _ (by simp))) ?_
        rintro sv W3 ⟨ho, hg3⟩
        have hz3 := hg3.size
        refine (U2.grow hg3).st (OwnR.one ho).1 (OwnR.one ho).2 fun U4 hm4 => ?_
        have U5 := (U3.grow hg3).mod hm4 (by omega)
        refine U5.st rfl rfl fun U6 hm6 => ?_
        have z4' : W3.heap.size ≤ (W3.setCell ⟨w.heap.size + 1, 0, none⟩ sv).heap.size := hm4.size
        refine ⟨kpW_i (M := fun b => b = w.heap.size + 1 ∨ b = w.heap.size + 2) (((Grow.mod hg3).next hm4 fun b hb e => .inl e).next hm6 fun b hb e => .inr e) (by omega) hItl (fun b _ e => ⟨fun hb => by have := (hIt b hb).2; omega, by omega, by omega⟩),
          rfl, sv, k, hk, ⟨h1, by rw [atB_succ hk]; exact h2⟩, q5, U4.mod hm6 (by omega), U6, ?_, ?_⟩
        · exact ((Grow.mod (g5.trans hg3)).next hm4 fun b hb e => .inl e).next hm6 fun b hb e => .inr e
        · have ho' : OSet (w4.heap.size + 2) W3 sv l[k].set := OwnR.base ho fun g hg => by have := (OwnR.ownB ho g hg).1; omega
          exact OSet.mod (OSet.mod ho' hm4 fun b hb hB => by omega) hm6 fun b hb hB => by omega
      · rw [if_neg h2]
        exact stay fun hh => h2 (by have := hh.2; rw [atB_succ hk] at this; exact this)
    · rw [if_neg h1]
      exact stay fun hh => h1 hh.1
  · rintro It W ⟨q1, q2, q3, q4, q5⟩ _ _ hd
    refine q2.st rfl rfl fun U4 hm4 => (q3.mod hm4 (by omega)).st rfl rfl fun U6 hm6 => ⟨?_, ?_⟩
    · rw [hm6.same _ (by have := hm4.size; have := q4.size; omega) (by omega), hm4.same _ (by have := q4.size; omega) (by omega)]; exact hd
    · have hmp := Mod.putObj (M := fun b => b = w4.heap.size) (((W.setCell ⟨w.heap.size + 1, 0, none⟩ (.slice none 0 0))).setCell ⟨w.heap.size + 2, 0, none⟩ (.bool false)) w4.heap.size (.deferred none) rfl
      refine Var.ld ((U4.mod hm6 (by omega)).mod hmp (by omega)) (Var.ld (U6.mod hmp (by omega)) ⟨?_, .inr ⟨q5, rfl⟩⟩)
      exact (((g04.trans q4).next hm4 fun b hb e => by omega).next hm6 fun b hb e => by omega).next hmp fun b hb e => by omega
  · rintro x It W ⟨rfl, sv, k, hk, q1, q2, q3, q4, q5, q6⟩ _ _ hd
    refine ⟨hd, ?_⟩
    have hmp := Mod.putObj (M := fun b => b = w4.heap.size) W w4.heap.size (.deferred none) rfl
    refine Var.ld (q3.mod hmp (by omega)) (Var.ld (q4.mod hmp (by omega)) ⟨?_, .inl ⟨sv, k, hk, q1, q2, rfl, ?_⟩⟩)
    · exact (g04.next q5 fun b hb e => by omega).next hmp fun b hb e => by omega
    · exact OwnR.base (OSet.mod q6 hmp fun b hb hB => by omega) fun g hg => by have := (OwnR.ownB q6 g hg).1; omega
end Go.Proofs.Ytmfplfaeibehiaa

namespace Go.Proofs.Ytmfplfaeibehiaa
open Go Go.K

theorem OBlks.low {B B' : Nat} {w : World} {v : Value} {l : List Blk} (h : OBlks B w v l) (hB : B' ≤ B) : OBlks B' w v l := by
  have h1 : OwnR B 34 2 (OBlk fun b => B' ≤ b ∧ v.ownBlock ≠ some b) w v l := OwnR.mod h (Mod.refl (fun _ => False) _) (fun _ _ h => h) fun r x _ hx => hx.mod (Mod.refl (fun _ => False) _) (fun _ _ _ h => h) fun b hb hd => ⟨by omega, hd.2⟩
  exact OwnR.base h1 fun g hg => by have := (OwnR.ownB h g hg).1; omega
theorem OBlks.one {B : Nat} {w : World} {v : Value} {l : List Blk} (h : OBlks B w v l) : v.oneCell' = true ∧ v.cells = #[v] := OwnR.one h
theorem OBlks.ownB {B : Nat} {w : World} {v : Value} {l : List Blk} (h : OBlks B w v l) : ∀ g, v.ownBlock = some g → B ≤ g ∧ g < w.heap.size := OwnR.ownB h
def maxI (a b : Int) : Int := if b > a then b else a
def minI (a b : Int) : Int := if b < a then b else a
def cutN (t j a i : Int) : Int := IntKind.i64.wrap (minI t j - maxI a i)
def cutT (l : List Blk) (i j : Int) : Nat → List Blk
  | 0 => []
  | k + 1 => match l[k]? with | some b => addB (cutT l i j k) (cutN (atB l (k + 1)) j (atB l k) i) b.set | none => cutT l i j k
theorem cutT_len (l : List Blk) (i j : Int) : ∀ k, (cutT l i j k).length ≤ k := by
  intro k
  induction k with
  | zero => simp [cutT]
  | succ k ih =>
    simp only [cutT]
    split
    · exact Nat.le_trans (addB_len _ _ _) (by omega)
    · omega
theorem cutT_succ {l : List Blk} {i j : Int} {k : Nat} (h : k < l.length) : cutT l i j (k + 1) = addB (cutT l i j k) (cutN (atB l (k + 1)) j (atB l k) i) l[k].set := by
  simp [cutT, List.getElem?_eq_getElem h]
/-- the program's cut -/
def cutB (l : List Blk) (i j : Int) : List Blk :=
  if minI (maxI j 0) (atB l l.length) ≤ maxI i 0 then [] else cutT l (maxI i 0) (minI (maxI j 0) (atB l l.length)) l.length
theorem cut_blk {S D : Nat → Prop} {w : World} {v : Value} {l : List Blk} {i j : Int} (h : RBlks S D w v l) (hl : l.length < 4398046511104) (hset : ∀ b ∈ l, b.set.length * 48 ≤ 140737488355328) :
    callK Try.prog 24 [v, .int .i64 i, .int .i64 j] (fun v' w' => OBlks w.heap.size w' v' (cutB l i j) ∧ Grow w w') w := by
  apply S24_ok
  unfold S24
  refine ⟨rfl, newK_i ⟨rfl, newK_i (newK_i ?_)⟩⟩
  have V1 := Var.new w 3 (.int .i64 i)
  generalize hw1 : w.alloc (.cells [Value.int .i64 i].toArray 3) = w1 at V1 ⊢
  have g1 : Grow w w1 := by rw [← hw1]; exact Mod.alloc _ _ _
  have z1 : w1.heap.size = w.heap.size + 1 := by rw [← hw1]; simp
  have V2 := Var.new w1 3 (.int .i64 j)
  generalize hw2 : w1.alloc (.cells [Value.int .i64 j].toArray 3) = w2 at V2 ⊢
  have g2 : Grow w1 w2 := by rw [← hw2]; exact Mod.alloc _ _ _
  have z2 : w2.heap.size = w.heap.size + 2 := by rw [← hw2]; simp [z1]
  have V3 := Var.new w2 27 (.slice none 0 0)
  generalize hw3 : w2.alloc (.cells [Value.slice none 0 0].toArray 27) = w3 at V3 ⊢
  have g3 : Grow w2 w3 := by rw [← hw3]; exact Mod.alloc _ _ _
  have z3 : w3.heap.size = w.heap.size + 3 := by rw [← hw3]; simp [z2]
  have g4 : Grow w3 w3.drew := Mod.drew _ _
  have z4 : w3.drew.heap.size = w.heap.size + 3 := z3
  generalize w3.drew = w4 at g4 z4 ⊢
  replace V1 := ((V1.grow g2).grow g3).grow g4
  replace V2 := (V2.grow g3).grow g4
  replace V3 := V3.grow g4
  rw [z1] at V2
  rw [z2] at V3
  rw [z1, z2]
  have g04 : Grow w w4 := ((g1.trans g2).trans g3).trans g4
  refine ⟨fun k b => (k = 7 ∧ b = w.heap.size) ∨ (k = 8 ∧ b = w.heap.size + 1), ?_⟩
  refine ⟨_, _, rfl, ⟨V1.1, fun k hk => ?_⟩, ?_⟩
  · have h7 : k ≠ 7 := by rintro rfl; revert hk; decide
    rintro (⟨h, _⟩ | ⟨_, h⟩)
    · exact h7 h
    · simp only at h; omega
  simp only [KS]
  refine ⟨_, _, rfl, ⟨V2.1, fun k hk => ?_⟩, ?_⟩
  · have h8 : k ≠ 8 := by rintro rfl; revert hk; decide
    rintro (⟨_, h⟩ | ⟨h, _⟩)
    · simp only at h; omega
    · exact h8 h
  simp only [KS]
  have h0 : RBlks (fun b => S b ∧ b < w.heap.size) (fun b => D b ∧ b < w.heap.size) w v l := (h.old (by decide)).mono (fun _ _ h => h) (fun b hb _ => rfl) (by decide) fun r x hx => by
    obtain ⟨sv, rfl, hs⟩ := hx
    exact ⟨sv, rfl, hs.old (by decide)⟩
  have gro : ∀ {w'}, Grow w w' → RBlks (fun b => S b ∧ b < w.heap.size) (fun b => D b ∧ b < w.heap.size) w' v l := fun hg => h0.grow hg (by decide) fun r x hx => hx.mod hg (fun _ _ _ h => h) fun _ _ h => h
  refine callK_mono (len_blk (gro g04)) ?_
  rintro t15 w5 ⟨rfl, g5⟩
  refine ⟨Grow.mod g5, ?_⟩
  simp only [KS]
  refine (V1.grow g5).st rfl rfl fun V6 m6 => ⟨m6.mono fun b _ e => .inl ⟨by trivial, e⟩, ?_⟩
  refine ((V2.grow g5).mod m6 (by omega)).st rfl rfl fun V7 m7 => ⟨m7.mono fun b _ e => .inr ⟨by trivial, e⟩, ?_⟩
  replace V6 := V6.mod m7 (by omega)
  have V8 := ((V3.grow g5).mod m6 (by omega)).mod m7 (by omega)
  have g05 : Grow w w5 := g04.trans g5
  have m07 := ((g05.next m6 fun b hb e => by omega).next m7 fun b hb e => by omega : Grow w _)
  have zz := g5.size
  have zz6 := m6.size
  have zz7 := m7.size
  generalize hI : (if i < 0 then (0 : Int) else i) = i'
  generalize hJ : (if atB l l.length < (if j < 0 then (0 : Int) else j) then atB l l.length else (if j < 0 then (0 : Int) else j)) = j'
  have hci : (if (0 : Int) > i then (0 : Int) else i) = i' := hI
  have hcj : (if atB l l.length < (if (0 : Int) > j then (0 : Int) else j) then atB l l.length else (if (0 : Int) > j then (0 : Int) else j)) = j' := hJ
  have hcut : cutB l i j = if j' ≤ i' then [] else cutT l i' j' l.length := by
    unfold cutB maxI minI; rw [hci, hcj]
  simp only [gt_iff_lt] at V6 V7 V8 m07 zz6 zz7 m6 m7 ⊢
  rw [hI] at V6 V7 V8 m07 zz6 zz7 m6 m7
  rw [hJ] at V6 V7 V8 m07 zz7 m7
  generalize hw7 : ((w5.setCell ⟨w.heap.size, 0, none⟩ (.int .i64 i')).setCell ⟨w.heap.size + 1, 0, none⟩ (.int .i64 j')) = w7 at V6 V7 V8 m07 zz7 ⊢
  obtain ⟨a, n, c, hv⟩ : ∃ a n c, v = .slice a n c := by obtain ⟨a, c, e, _⟩ := h.shape; exact ⟨a, _, c, e⟩
  refine callK_mono (each_blk (w := w7) hv) ?_
  rintro f w8 ⟨rfl, hw8⟩
  have g8 : Grow w7 w8 := by rw [hw8]; exact Mod.alloc _ _ _
  have z8 : w.heap.size + 4 ≤ w8.heap.size := by rw [hw8]; simp; omega
  have g08 : Grow w w8 := m07.trans g8
  obtain ⟨svs, hsv, hseq⟩ := each_seq (gro g08) (bx := ⟨w7.heap.size, 0, none⟩) (by rw [hw8, ← add0]; exact cell_box rfl) (fun b hb => by omega)
  replace V6 := V6.grow g8
  replace V7 := V7.grow g8
  replace V8 := V8.grow g8
  refine ⟨True, _, _, _, _, _, rfl, by kernel_rfl, hseq, fun k _ => rfl, ?_⟩
  refine ⟨fun k It W => Var W w.heap.size (.int .i64 i') ∧ Var W (w.heap.size + 1) (.int .i64 j') ∧ (∃ v, Var W (w.heap.size + 2) v ∧ OBlks (w8.heap.size + 2) W v (cutT l i' j' k) ∧ ∀ b, It b → v.ownBlock ≠ some b) ∧ Mod (fun b => b = w.heap.size + 2) w8 W ∧ (0 < k → ¬ j' ≤ i'),
    fun x It W => x = .exit 0 ∧ j' ≤ i' ∧ (∃ v, Var W (w.heap.size + 2) v ∧ OBlks (w8.heap.size + 2) W v []) ∧ Mod (fun b => b = w.heap.size + 2) w8 W, ⟨V6, V7, ⟨_, V8, OwnR.nil, fun _ h => h.elim⟩, Mod.refl _ _, fun h => by omega⟩, ?_, ?_, ?_, ?_, ?_, ?_⟩
  · rintro k It It' W W' ⟨q1, q2, ⟨v, q3, q4, q5⟩, q6, q7⟩ hm hIt
    refine ⟨q1.mod hm ?_, q2.mod hm ?_, ⟨v, q3.mod hm ?_, q4.grow hm fun b hb hB => ?_, fun b hb e => ?_⟩, q6.next hm fun b hb => ?_, q7⟩
    any_goals (rintro (⟨h, _⟩ | h | h); exact (h trivial).elim; all_goals omega)
    rcases (hIt b hb).1 with h1 | h1
    · exact q5 b h1 e
    · have := (OBlks.ownB q4 b e).2; omega
  · rintro x It It' W W' ⟨rfl, q0, ⟨v, q3, q4⟩, q6⟩ hm hIt
    refine ⟨rfl, q0, ⟨v, q3.mod hm ?_, q4.grow hm fun b hb hB => ?_⟩, q6.next hm fun b hb => ?_⟩
    all_goals (rintro (⟨h, _⟩ | h | h); exact (h trivial).elim; all_goals omega)
  · rintro k It W ⟨_, _, _, q6, _⟩ b hb hr
    exact q6.same b hb (by omega)
  · rintro k It W hk ⟨q1, q2, ⟨v, q3, q4, q5⟩, q6, q7⟩ hz hIt
    rw [encB_at hk]
    simp only [nth, List.headD_cons, List.tail_cons]
    refine newK_i (stnew (vs := [.int .i64 l[k].n, svs k]) rfl (RBlk.one (b := l[k]) ⟨svs k, rfl, hsv k hk⟩) ?_)
    generalize hW1 : W.alloc (.cells [.int .i64 l[k].n, svs k].toArray 34) = W1
    have hgW : Grow W W1 := by rw [← hW1]; exact Mod.alloc _ _ _
    refine begK_i hgW hz hIt (fun _ _ h => h.elim) fun W2 hm2 => ?_
    have hzW : W1.heap.size = W.heap.size + 1 := by rw [← hW1]; simp
    have hzs := hm2.size
    have hb0 : W2.cell? ((⟨W.heap.size, 0, none⟩ : Addr).add 0) = some (.int .i64 l[k].n) := hm2.cell (by rw [← hW1]; exact cell_box rfl) (by rw [add_block]; show ¬ W.heap.size = _; omega)
    have hb1 : W2.cell? ((⟨W.heap.size, 0, none⟩ : Addr).add 1) = some (svs k) := hm2.cell (by rw [← hW1]; exact cell_box rfl) (by rw [add_block]; show ¬ W.heap.size = _; omega)
    have U1 := (q1.grow hgW).mod hm2 (by omega)
    have U2 := (q2.grow hgW).mod hm2 (by omega)
    have U3 := (q3.grow hgW).mod hm2 (by omega)
    have U4 : OBlks (w8.heap.size + 2) W2 v (cutT l i' j' k) := (q4.grow hgW fun _ _ _ h => h).grow hm2 fun b hb hB => by omega
    have hItl : ∀ b, It b → b < W2.heap.size := fun b hb => by have := (hIt b hb).1; omega
    have q62 : Mod (fun b => b = w.heap.size + 2) w8 W2 := (q6.next hgW fun _ _ h => h.elim).next hm2 fun b hb e => by omega
    refine U1.ld (U2.ld ?_)
    simp only [KS]
    by_cases hij : j' ≤ i'
    · rw [if_pos hij]
      have hk0 : k = 0 := by
        rcases Nat.eq_zero_or_pos k with h | h
        · exact h
        · exact (q7 h hij).elim
      subst hk0
      exact ⟨kpW_i (Mod.refl (fun _ => False) _) (by omega) hItl (fun _ _ h => h.elim), rfl, hij, ⟨v, U3, U4⟩, q62⟩
    · rw [if_neg hij]
      refine U3.ld ?_
      refine ld1K_i hb0 ?_
      simp only [KS]
      refine U2.ld ?_
      simp only [KS]
      refine U1.ld ?_
      simp only [KS]
      refine ld1K_i hb1 ?_
      have hs2 : RSet (fun b => D b ∧ b < w.heap.size) W2 (svs k) l[k].set := SlR.mod (hsv k hk) q62 (fun b hb hd => by omega) (by decide) fun _ _ h => h
      refine callK_mono (add_blk U4 hs2 (fun b hb e => by have := (OBlks.ownB U4 b e).1; omega) (by omega) (by have := cutT_len l i' j' k; omega) (hset _ (by simp))) ?_
      rintro v' W3 ⟨ho, hm3, hown⟩
      have hne : ∀ b, v.ownBlock = some b → w8.heap.size + 2 ≤ b ∧ b < W2.heap.size := fun b hb => OBlks.ownB U4 b hb
      have hz3 := hm3.size
      have U5 := U3.mod hm3 fun e => by have := (hne _ e).1; omega
      refine U5.st (OBlks.one ho).1 (OBlks.one ho).2 fun U6 hm6 => ?_
      refine ⟨kpW_i (M := fun b => v.ownBlock = some b ∨ b = w.heap.size + 2) ((hm3.mono fun b _ e => .inl e).next hm6 fun b hb e => .inr e) (by omega) hItl (fun b _ e => ?_), ?_, ?_, ⟨v', U6, ?_, fun b hb e => ?_⟩, ?_, fun _ => hij⟩
      · rcases e with e | e
        · have := (hne _ e).1
          exact ⟨fun hb => q5 b hb e, by omega, by omega⟩
        · exact ⟨fun hb => by have := (hIt b hb).2; omega, by omega, by omega⟩
      · exact (U1.mod hm3 fun e => by have := (hne _ e).1; omega).mod hm6 (by omega)
      · exact (U2.mod hm3 fun e => by have := (hne _ e).1; omega).mod hm6 (by omega)
      · rw [cutT_succ hk, atB_succ hk]
        exact OBlks.grow ho hm6 fun b hb hB e => by omega
      · rcases hown b e with h1 | h1
        · exact q5 b hb h1
        · have := hItl b hb; omega
      · exact (q62.next hm3 fun b hb e => by have := (hne _ e).1; omega).next hm6 fun b hb e => e
  · rintro It W ⟨q1, q2, ⟨v, q3, q4, q5⟩, q6, q7⟩ _ hz hd
    have hmp := Mod.putObj (M := fun b => b = w8.heap.size) W w8.heap.size (.deferred none) rfl
    refine q3.ld ⟨hd, ?_, (g08.next q6 fun b hb e => by omega).next hmp fun b hb e => by omega⟩
    have h1 := (q4.grow hmp fun b hb hB e => by omega).low (B' := w.heap.size) (by omega)
    have : cutB l i j = cutT l i' j' l.length := by
      rw [hcut]
      by_cases hij : j' ≤ i'
      · rcases Nat.eq_zero_or_pos l.length with h | h
        · rw [if_pos hij, h]; rfl
        · exact (q7 h hij).elim
      · rw [if_neg hij]
    rw [this]; exact h1
  · rintro x It W ⟨rfl, q0, ⟨v, q3, q4⟩, q6⟩ _ hz hd
    have hmp := Mod.putObj (M := fun b => b = w8.heap.size) W w8.heap.size (.deferred none) rfl
    show lookN _ _ _
    simp only [lookN, Nat.beq_refl, cond_true]
    refine q3.ld ⟨hd, ?_, (g08.next q6 fun b hb e => by omega).next hmp fun b hb e => by omega⟩
    have h1 := (q4.grow hmp fun b hb hB e => by omega).low (B' := w.heap.size) (by omega)
    have : cutB l i j = [] := by rw [hcut, if_pos q0]
    rw [this]; exact h1
end Go.Proofs.Ytmfplfaeibehiaa

namespace Go.Proofs.Ytmfplfaeibehiaa
open Go Go.K

/-- append to a fresh empty set -/
theorem fresh_set {S : Nat → Prop} {w : World} {sv : Value} {set : List Attr} {K : Cont} (hs : RSet S w sv set) (hset : set.length * 48 ≤ 140737488355328)
    (hK : ∀ v' w', OSet w.heap.size w' v' set → Grow w w' → K v' w') :
    rowK 46 5 0 [] [] (fun t w1 => runK Try.prog (Builtin.append_ #[24, 24] 24 [t, sv].toArray) K w1) w := by
  refine rowK_empty ?_
  have hm : set.length ≤ maxLen := by obtain ⟨_, _, _, h⟩ := hs.shape; exact h
  have hg : Grow w (w.alloc (.cells #[] 46)) := Mod.alloc _ _ _
  have ho : OSet w.heap.size (w.alloc (.cells #[] 46)) (.slice (some ⟨w.heap.size, 0, none⟩) 0 0) [] := OwnR.made (Nat.le_refl _)
  obtain ⟨v', w', h1, h2, h3, h4⟩ := OwnR.append (ty := 24) elem_attr ho (hs.grow hg (by decide) fun _ _ h => h) (fun _ _ => RAttr.one) (by simpa using hset) (by simp) (by simpa using hm) (fun _ _ _ _ h => h)
  refine runK_i h1 (hK v' w' ?_ (hg.next (Mod.of_grownBy h3) ?_))
  · refine OwnR.base h2 fun g hg' => ?_
    rcases h4 g hg' with h | h
    · cases h; exact Nat.le_refl _
    · simp only [World.size_alloc] at h; omega
  · intro b hb e; simp only [Value.ownBlock, Option.some.injEq] at e; omega
theorem radd_blk {S : Nat → Prop} {B : Nat} {w : World} {v sv : Value} {l : List Blk} {n : Int} {set : List Attr} (h : OBlks B w v l) (hs : RSet S w sv set) (hS : ∀ b, S b → v.ownBlock ≠ some b) (hB : B ≤ w.heap.size) (hl : l.length < 4398046511104)
    (hset : set.length * 48 ≤ 140737488355328) :
    callK Try.prog 54 [v, .int .i64 n, sv] (fun v' w' => OBlks B w' v' (addB l n set) ∧ Mod (fun b => v.ownBlock = some b) w w' ∧ (∀ g, v'.ownBlock = some g → v.ownBlock = some g ∨ w.heap.size ≤ g)) w := by
  apply S54_ok
  unfold S54
  obtain ⟨a, c, rfl, hc, hcm, hp, hnil⟩ := OwnR.shape h
  simp only [KS]
  by_cases hn : n ≤ 0
  · rw [if_pos hn]
    exact ⟨by rw [addB, if_pos hn]; exact h, Mod.refl _ _, fun g hg => .inl hg⟩
  rw [if_neg hn]
  rw [wrap64 (by omega) (by omega)]
  refine JoinK_i (fun vs w1 => vs = [.bool (lastSame l set)] ∧ Grow w w1) ?_ ?_
  · rintro vs w1 ⟨rfl, hg⟩ _
    simp only [KS]
    have h1 : OBlks B w1 (.slice a l.length c) l := h.grow hg (fun _ _ _ h => h)
    cases hls : lastSame l set with
    | true =>
      rw [if_pos rfl]
      unfold lastSame at hls
      cases hlast : l.getLast? with
      | none => rw [hlast] at hls; cases hls
      | some b =>
        rw [hlast] at hls
        simp only [decide_eq_true_eq] at hls
        have hlen : 0 < l.length := by cases l with | nil => simp at hlast | cons => simp
        have hbi : l[l.length - 1]? = some b := by rw [← List.getLast?_eq_getElem?]; exact hlast
        have hbg : l[l.length - 1] = b := by simpa [show l.length - 1 < l.length by omega] using hbi
        cases a with
        | none => have := hnil rfl; subst this; simp at hlen
        | some p =>
          have e1 : ((l.length : Int) - 1) = ((l.length - 1 : Nat) : Int) := by omega
          rw [e1]
          obtain ⟨p', r, hp', _, hr, hcell, sv0, hr0, hs0⟩ := (OwnR.sl h1).get (show l.length - 1 < l.length by omega)
          cases hp'
          rw [hbg] at hr0
          subst hr0
          refine ixK_n (by omega) ?_
          simp only [KS]
          refine ld1K_i (hcell 0 _ rfl) ?_
          simp only [KS]
          refine ixK_n (by omega) ?_
          simp only [KS]
          obtain ⟨⟨u, hu⟩, hf, ho, hm⟩ := OwnR.store (R' := OBlk fun b => B ≤ b ∧ (Value.slice (some p) l.length c).ownBlock ≠ some b) (u := .int .i64 (IntKind.i64.wrap (b.n + n))) (x' := ⟨IntKind.i64.wrap (b.n + n), b.set⟩) (j := 0) h1 (show l.length - 1 < l.length by omega) (by decide) rfl
            (fun r y _ hy => hy.mod (Mod.setCell (M := fun b => b = p.block) _ _ _ (by unfold Addr.add; split <;> rfl)) (fun b _ hd e => hd.2 (by rw [e]; rfl)) fun _ _ h => h)
            (fun r hy => by
              rw [hbg] at hy
              obtain ⟨sv1, rfl, hs1⟩ := hy.mod (D' := fun b => B ≤ b ∧ (Value.slice (some p) l.length c).ownBlock ≠ some b) (Mod.setCell (M := fun b => b = p.block) w1 (p.add ((l.length - 1) * 2 + 0)) (.int .i64 (IntKind.i64.wrap (b.n + n))) (by unfold Addr.add; split <;> rfl)) (fun b _ hd e => hd.2 (by rw [e]; rfl)) fun _ _ h => h
              exact ⟨sv1, rfl, hs1⟩)
          refine st1K_i rfl rfl hu hf ⟨?_, hg.mod.next hm ?_, fun g hg => .inl hg⟩
          · rw [addB, if_neg hn, hlast]
            simp only [hls, if_true]
            rw [← hls]
            exact ho
          · intro b' _ e; rw [e]; rfl
    | false =>
      rw [if_neg (by simp)]
      refine fresh_set (hs.grow hg (by decide) fun _ _ h => h) hset fun v1 w2 ho hg2 => ?_
      have hv1 : ∃ sa sc, v1 = .slice sa set.length sc := by obtain ⟨sa, sc, e, _⟩ := OwnR.shape ho; exact ⟨sa, sc, e⟩
      refine ⟨#[.int .i64 n, v1], ?_, ?_⟩
      · obtain ⟨sa, sc, rfl⟩ := hv1; kernel_rfl
      have h2 := h1.grow hg2 (fun _ _ _ h => h)
      refine push_blk h2 (by have := hg.size; have := hg2.size; omega) (OwnR.base ho fun g _ => Nat.zero_le _) (fun b hb => ?_) hl ?_
      · have hbb := OwnR.ownB ho b hb
        have := hg.size
        refine ⟨by omega, fun e => ?_, hbb.2⟩
        cases a with
        | none => cases e
        | some p =>
          obtain ⟨g, rfl, q1, q2, q3⟩ := hp p rfl
          simp only [Value.ownBlock, Option.some.injEq] at e
          omega
      · intro v' w' k1 k2 k3
        refine ⟨?_, (hg.mod.trans hg2.mod).trans k2, fun g hg' => ?_⟩
        · rw [addB, if_neg hn]
          unfold lastSame at hls
          cases hlast : l.getLast? with
          | none => exact k1
          | some b => rw [hlast] at hls; simp only [decide_eq_false_iff_not] at hls; simp only [if_neg hls]; exact k1
        · rcases k3 g hg' with h | h
          · exact .inl h
          · exact .inr (by have := hg.size; have := hg2.size; omega)
  · by_cases hlen : 0 < l.length
    · rw [if_pos (show (0 : Int) ≤ (l.length : Int) - 1 by omega)]
      cases a with
      | none => have := hnil rfl; subst this; simp at hlen
      | some p =>
        have e1 : ((l.length : Int) - 1) = ((l.length - 1 : Nat) : Int) := by omega
        rw [e1]
        obtain ⟨p', r, hp', _, hr, hcell, sv0, hr0, hs0⟩ := (OBlks.sl h).get (show l.length - 1 < l.length by omega)
        cases hp'
        subst hr0
        refine ixK_n (by omega) ?_
        simp only [KS]
        refine ld1K_i (hcell 1 _ rfl) ?_
        refine callK_mono (rsame_set hs0 hs) ?_
        rintro v1 w1 ⟨rfl, hg⟩
        refine ⟨?_, hg⟩
        have : l.getLast? = some l[l.length - 1] := by rw [List.getLast?_eq_getElem?]; simp [show l.length - 1 < l.length by omega]
        simp [lastSame, this]
    · have : l = [] := List.eq_nil_of_length_eq_zero (by omega)
      subst this
      rw [if_neg (by simp)]
      exact ⟨rfl, Mod.refl _ _⟩
theorem radd_next {S : Nat → Prop} {w w1 : World} {v sv : Value} {l : List Blk} {n : Int} {set : List Attr} (h : OBlks w.heap.size w1 v l) (hg : Grow w w1) (hs : RSet S w sv set) (hl : l.length < 4398046511104)
    (hset : set.length * 48 ≤ 140737488355328) :
    callK Try.prog 54 [v, .int .i64 n, sv] (fun v' w' => OBlks w.heap.size w' v' (addB l n set) ∧ Grow w w' ∧ Mod (fun b => v.ownBlock = some b) w1 w') w1 := by
  refine callK_mono (radd_blk h ((hs.old (by decide)).grow hg (by decide) fun _ _ h => h) (fun b hb e => by have := (OwnR.ownB h b e).1; omega) hg.size hl hset) ?_
  rintro v' w' ⟨h1, h2, _⟩
  exact ⟨h1, hg.next h2 fun b hb hv => by have := (OwnR.ownB h b hv).1; omega, h2⟩
/-- rubricref12.Join -/
theorem rjoin_blk {S D : Nat → Prop} {w : World} {v : Value} {l : List Blk} (h : RBlks S D w v l) (hl : l.length < 4398046511104) (hset : ∀ b ∈ l, b.set.length * 48 ≤ 140737488355328) :
    callK Try.prog 26 [v] (fun v' w' => OBlks w.heap.size w' v' (joinB l) ∧ Grow w w') w := by
  apply S26_ok
  unfold S26
  obtain ⟨a, c, rfl, hm⟩ := h.shape
  refine LoopK_i (fun vs w1 => ∃ (k : Nat) (out : Value), k ≤ l.length ∧ vs = [out, .int .i64 k] ∧ OBlks w.heap.size w1 out (joinB (l.take k)) ∧ Grow w w1) (fun vs _ => l.length - iOf vs 1) ⟨0, _, Nat.zero_le _, rfl, OwnR.nil, Mod.refl _ _⟩ ?_
  rintro vs w1 ⟨k, out, hk, rfl, ho, hg⟩ _
  simp only [KS]
  by_cases hlt : k < l.length
  · rw [if_pos (show (k : Int) < l.length by omega)]
    obtain ⟨p, r, rfl, hS, hr, hc, sv, rfl, hs⟩ := ((h.old (by decide)).get hlt)
    have hgd : Grow w w1.drew := hg.trans (Mod.drew _ _)
    refine ⟨fun j b => out.ownBlock = some b, ?_⟩
    have stay : ∀ x, ¬ out.ownBlock = some (p.add x).block := fun x e => by rw [add_block] at e; have := (OBlks.ownB ho _ e).1; omega
    refine ixK_n hlt ?_
    simp only [KS]
    refine ⟨_, _, rfl, ⟨hgd.cell (hc 0 _ rfl) fun h => h, fun j _ => stay _⟩, ?_⟩
    refine ixK_n hlt ?_
    simp only [KS]
    refine ⟨_, _, rfl, ⟨hgd.cell (hc 1 _ rfl) fun h => h, fun j _ => stay _⟩, ?_⟩
    refine callK_mono (radd_next (OBlks.grow ho (Mod.drew (fun _ => False) _) fun _ _ _ h => h) hgd hs (by have := joinB_len (l.take k); simp at this; omega) (hset _ (by simp))) ?_
    rintro v' w' ⟨h1, h2, h3⟩
    refine ⟨h3, ?_⟩
    refine ⟨⟨k + 1, v', by omega, by rw [wrap64 (by omega) (by simp only [maxLen] at hm; omega)]; rfl, by rw [joinB_take hlt]; exact h1, h2⟩, ?_⟩
    simp only [iOf, nth, List.headD_cons, List.tail_cons]; rw [wrap64 (by omega) (by simp only [maxLen] at hm; omega)]; omega
  · rw [if_neg (show ¬ (k : Int) < l.length by omega)]
    have : k = l.length := by omega
    subst this
    rw [List.take_length] at ho
    exact ⟨ho, hg⟩
/-- rubricref12.Of -/
theorem rof_blk {S D : Nat → Prop} {w : World} {v : Value} {l : List Cel} (h : RCels S D w v l) (hl : l.length < 4398046511104) (hset : ∀ b ∈ l, b.set.length * 48 ≤ 140737488355328) :
    callK Try.prog 22 [v] (fun v' w' => OBlks w.heap.size w' v' (ofB l) ∧ Grow w w') w := by
  apply S22_ok
  unfold S22
  obtain ⟨a, c, rfl, hm⟩ := h.shape
  refine LoopK_i (fun vs w1 => ∃ (k : Nat) (out : Value), k ≤ l.length ∧ vs = [out, .int .i64 k] ∧ OBlks w.heap.size w1 out (ofB (l.take k)) ∧ Grow w w1) (fun vs _ => l.length - iOf vs 1) ⟨0, _, Nat.zero_le _, rfl, OwnR.nil, Mod.refl _ _⟩ ?_
  rintro vs w1 ⟨k, out, hk, rfl, ho, hg⟩ _
  simp only [KS]
  by_cases hlt : k < l.length
  · rw [if_pos (show (k : Int) < l.length by omega)]
    obtain ⟨p, r, rfl, hS, hr, hc, sv, rfl, hs⟩ := h.get hlt
    have fin : ∀ sv' set', set' = l[k].inl → RSet D w sv' set' → callK Try.prog 54 [out, .int .i64 1, sv'] (fun t20 w7 => (∃ (k' : Nat) (out : Value), k' ≤ l.length ∧ [t20, Value.int .i64 (IntKind.i64.wrap (k + 1))] = [out, .int .i64 k'] ∧ OBlks w.heap.size w7 out (ofB (l.take k')) ∧ Grow w w7) ∧ l.length - iOf [t20, Value.int .i64 (IntKind.i64.wrap (k + 1))] 1 < l.length - iOf [out, Value.int .i64 k] 1) w1 := by
      rintro sv' set' rfl hs'
      refine callK_mono (radd_next ho hg hs' (by have := ofB_len (l.take k); simp at this; omega) (inl_ok (hset _ (by simp)))) ?_
      rintro v' w' ⟨h1, h2, _⟩
      refine ⟨⟨k + 1, v', by omega, by rw [wrap64 (by omega) (by simp only [maxLen] at hm; omega)]; rfl, by rw [ofB_take hlt]; exact h1, h2⟩, ?_⟩
      simp only [iOf, nth, List.headD_cons, List.tail_cons]; rw [wrap64 (by omega) (by simp only [maxLen] at hm; omega)]; omega
    refine ixK_n hlt ?_
    simp only [KS]
    refine ld1K_i (hg.cell (hc 0 _ rfl) fun h => h) ?_
    simp only [KS]
    by_cases hr : l[k].r = 10
    · rw [if_pos hr]
      exact fin _ [] (by simp [Cel.inl, hr]) SlR.nil
    · rw [if_neg hr]
      refine ixK_n hlt ?_
      simp only [KS]
      refine ld1K_i (hg.cell (hc 1 _ rfl) fun h => h) ?_
      exact fin _ l[k].set (by simp [Cel.inl, hr]) hs
  · rw [if_neg (show ¬ (k : Int) < l.length by omega)]
    have : k = l.length := by omega
    subst this
    rw [List.take_length] at ho
    exact ⟨ho, hg⟩
/-- rubricref12.Len -/
theorem rlen_blk {S D : Nat → Prop} {w : World} {v : Value} {l : List Blk} (h : RBlks S D w v l) :
    callK Try.prog 29 [v] (fun v' w' => v' = .int .i64 (atB l l.length) ∧ Grow w w') w := by
  apply S29_ok
  unfold S29
  obtain ⟨a, c, rfl, hm⟩ := h.shape
  refine LoopK_i (fun vs w1 => ∃ (k : Nat), k ≤ l.length ∧ vs = [.int .i64 (atB l k), .int .i64 k] ∧ Grow w w1) (fun vs _ => l.length - iOf vs 1) ⟨0, Nat.zero_le _, rfl, Mod.refl _ _⟩ ?_
  rintro vs w1 ⟨k, hk, rfl, hg⟩ _
  simp only [KS]
  by_cases hlt : k < l.length
  · rw [if_pos (show (k : Int) < l.length by omega)]
    obtain ⟨p, r, rfl, hS, hr, hc, sv, rfl, hs⟩ := h.get hlt
    refine ixK_n hlt ?_
    simp only [KS]
    refine ld1K_i (hg.cell (hc 0 _ rfl) fun h => h) ?_
    simp only [KS]
    refine ⟨⟨k + 1, by omega, by rw [atB_succ hlt, wrap64 (x := (k : Int) + 1) (by omega) (by simp only [maxLen] at hm; omega)]; rfl, hg⟩, ?_⟩
    simp only [iOf, nth, List.headD_cons, List.tail_cons]; rw [wrap64 (x := (k : Int) + 1) (by omega) (by simp only [maxLen] at hm; omega)]; omega
  · rw [if_neg (show ¬ (k : Int) < l.length by omega)]
    have : k = l.length := by omega
    subst this
    exact ⟨rfl, hg⟩
/-- rubricref12.Proper -/
theorem rproper_blk {S D : Nat → Prop} {w : World} {v : Value} {l : List Blk} (h : RBlks S D w v l) (hl : l.length < 4398046511104) (hset : ∀ b ∈ l, b.set.length * 48 ≤ 140737488355328) :
    callK Try.prog 28 [v] (fun v' w' => v' = .bool (decide (joinB l = l)) ∧ Grow w w') w := by
  apply S28_ok
  unfold S28
  refine callK_mono (rjoin_blk h hl hset) ?_
  rintro v1 w1 ⟨ho, hg⟩
  refine callK_mono (rsame_blk (OBlks.sl ho) (h.grow hg (by decide) fun r x hx => hx.mod hg (fun _ _ _ h => h) fun _ _ h => h)) ?_
  rintro v2 w2 ⟨rfl, hg2⟩
  exact ⟨rfl, hg.trans hg2⟩
end Go.Proofs.Ytmfplfaeibehiaa

namespace Go.K
open Go
theorem SlR.made {α : Type} {k : Nat} {R : World → List Value → α → Prop} {w : World} {t : TypeId} {l : List α} (rows : List (List Value)) (hr : ∀ r ∈ rows, r.length = k) (hl : rows.length = l.length) (hlm : l.length ≤ maxLen)
    (hR : ∀ (i : Nat) (r : List Value) (x : α), rows[i]? = some r → l[i]? = some x → R (w.alloc (.cells rows.flatten.toArray t)) r x) : SlR (fun b => b = w.heap.size) k R (w.alloc (.cells rows.flatten.toArray t)) (.slice (some ⟨w.heap.size, 0, none⟩) l.length l.length) l := by
  refine ⟨_, _, rfl, Nat.le_refl _, hlm, fun i x hx => ?_⟩
  have hi : i < rows.length := by rw [hl]; exact (List.getElem?_eq_some_iff.1 hx).1
  refine ⟨_, rows[i], rfl, rfl, hr _ (by simp), fun j u hu => ?_, hR i _ x (by simp [hi]) hx⟩
  have hj : j < k := by rw [← hr rows[i] (by simp)]; exact (List.getElem?_eq_some_iff.1 hu).1
  refine cell_box ?_
  rw [flat_get rows i j rows[i] hr (by simp [hi]) hj]; exact hu
end Go.K
namespace Go.Proofs.Ytmfplfaeibehiaa
open Go Go.K

def knownX : List Attr := [⟨1, ⟨1, 1, 0, ByteArray.mk #[]⟩⟩]
theorem known_ok {w : World} : callK Try.prog 14 [] (fun v w' => v = .bool true ∧ Grow w w') w := by
  apply S14_ok
  unfold S14
  refine ⟨#[.int .u8 1, .int .i64 1, .int .u64 0, .string (ByteArray.mk #[])], by kernel_rfl, ?_⟩
  refine ⟨#[.int .i64 1, .int .u8 1, .int .i64 1, .int .u64 0, .string (ByteArray.mk #[])], by kernel_rfl, ?_⟩
  refine ⟨#[.int .i64 1, .int .u8 1, .int .i64 1, .int .u64 0, .string (ByteArray.mk #[])], by kernel_rfl, ?_⟩
  have hX : RSet (fun b => b = w.heap.size) (w.alloc (.cells #[.int .i64 1, .int .u8 1, .int .i64 1, .int .u64 0, .string (ByteArray.mk #[])] 46)) (.slice (some ⟨w.heap.size, 0, none⟩) 1 1) knownX := by
    refine SlR.made (l := knownX) (t := 46) [[.int .i64 1, .int .u8 1, .int .i64 1, .int .u64 0, .string (ByteArray.mk #[])]] (by simp) rfl (by simp [knownX, maxLen]) fun i r x hr hx => ?_
    match i with
    | 0 => cases hr; cases hx; rfl
    | i + 1 => simp at hr
  have g1 : Grow w (w.alloc (.cells #[.int .i64 1, .int .u8 1, .int .i64 1, .int .u64 0, .string (ByteArray.mk #[])] 46)) := Mod.alloc _ _ _
  generalize w.alloc (.cells #[.int .i64 1, .int .u8 1, .int .i64 1, .int .u64 0, .string (ByteArray.mk #[])] 46) = w1 at hX g1 ⊢
  have hX1 : RSet (fun _ => True) w1 (.slice (some ⟨w.heap.size, 0, none⟩) 1 1) knownX := hX.sub (fun _ _ _ => trivial) (by decide) fun _ _ h => h
  generalize hxv : Value.slice (some ⟨w.heap.size, 0, none⟩) 1 1 = xv at hX1 ⊢
  refine ⟨#[.int .i64 2, xv], by subst hxv; kernel_rfl, ?_⟩
  refine ⟨#[.int .i64 0, .slice none 0 0], by kernel_rfl, ?_⟩
  refine ⟨#[.int .i64 3, xv], by subst hxv; kernel_rfl, ?_⟩
  refine ⟨#[.int .i64 2, xv, .int .i64 0, .slice none 0 0, .int .i64 3, xv], by subst hxv; kernel_rfl, ?_⟩
  have g2 : Grow w1 (w1.alloc (.cells #[.int .i64 2, xv, .int .i64 0, .slice none 0 0, .int .i64 3, xv] 34)) := Mod.alloc _ _ _
  have hL : RBlks (fun b => b = w1.heap.size) (fun _ => True) (w1.alloc (.cells #[.int .i64 2, xv, .int .i64 0, .slice none 0 0, .int .i64 3, xv] 34)) (.slice (some ⟨w1.heap.size, 0, none⟩) 3 3) [⟨2, knownX⟩, ⟨0, []⟩, ⟨3, knownX⟩] := by
    refine SlR.made (l := [(⟨2, knownX⟩ : Blk), ⟨0, []⟩, ⟨3, knownX⟩]) (t := 34) [[.int .i64 2, xv], [.int .i64 0, .slice none 0 0], [.int .i64 3, xv]] (by simp) rfl (by simp [maxLen]) fun i r x hr hx => ?_
    match i with
    | 0 => cases hr; cases hx; exact ⟨_, rfl, hX1.grow g2 (by decide) fun _ _ h => h⟩
    | 1 => cases hr; cases hx; exact ⟨_, rfl, SlR.nil⟩
    | 2 => cases hr; cases hx; exact ⟨_, rfl, hX1.grow g2 (by decide) fun _ _ h => h⟩
    | i + 3 => simp at hr
  generalize w1.alloc (.cells #[.int .i64 2, xv, .int .i64 0, .slice none 0 0, .int .i64 3, xv] 34) = w2 at hL g2 ⊢
  refine callK_mono (join_blk hL (by decide) (by decide)) ?_
  rintro v3 w3 ⟨o3, g3⟩
  have e3 : joinB [⟨2, knownX⟩, ⟨0, []⟩, ⟨3, knownX⟩] = [⟨5, knownX⟩] := by decide
  rw [e3] at o3
  refine ⟨#[.int .i32 97, xv], by subst hxv; kernel_rfl, ?_⟩
  refine ⟨#[.int .i32 98, xv], by subst hxv; kernel_rfl, ?_⟩
  refine ⟨#[.int .i32 10, .slice none 0 0], by kernel_rfl, ?_⟩
  refine ⟨#[.int .i32 99, .slice none 0 0], by kernel_rfl, ?_⟩
  refine ⟨#[.int .i32 97, xv, .int .i32 98, xv, .int .i32 10, .slice none 0 0, .int .i32 99, .slice none 0 0], by subst hxv; kernel_rfl, ?_⟩
  have hX3 := (hX1.grow g2 (by decide) fun _ _ h => h).grow g3 (by decide) fun _ _ h => h
  have g4 : Grow w3 (w3.alloc (.cells #[.int .i32 97, xv, .int .i32 98, xv, .int .i32 10, .slice none 0 0, .int .i32 99, .slice none 0 0] 26)) := Mod.alloc _ _ _
  have hC : RCels (fun b => b = w3.heap.size) (fun _ => True) (w3.alloc (.cells #[.int .i32 97, xv, .int .i32 98, xv, .int .i32 10, .slice none 0 0, .int .i32 99, .slice none 0 0] 26)) (.slice (some ⟨w3.heap.size, 0, none⟩) 4 4) [⟨97, knownX⟩, ⟨98, knownX⟩, ⟨10, []⟩, ⟨99, []⟩] := by
    refine SlR.made (l := [(⟨97, knownX⟩ : Cel), ⟨98, knownX⟩, ⟨10, []⟩, ⟨99, []⟩]) (t := 26) [[.int .i32 97, xv], [.int .i32 98, xv], [.int .i32 10, .slice none 0 0], [.int .i32 99, .slice none 0 0]] (by simp) rfl (by simp [maxLen]) fun i r x hr hx => ?_
    match i with
    | 0 => cases hr; cases hx; exact ⟨_, rfl, hX3.grow g4 (by decide) fun _ _ h => h⟩
    | 1 => cases hr; cases hx; exact ⟨_, rfl, hX3.grow g4 (by decide) fun _ _ h => h⟩
    | 2 => cases hr; cases hx; exact ⟨_, rfl, SlR.nil⟩
    | 3 => cases hr; cases hx; exact ⟨_, rfl, SlR.nil⟩
    | i + 4 => simp at hr
  generalize w3.alloc (.cells #[.int .i32 97, xv, .int .i32 98, xv, .int .i32 10, .slice none 0 0, .int .i32 99, .slice none 0 0] 26) = w4 at hC g4 ⊢
  refine callK_mono (of_blk hC (by decide) (by decide)) ?_
  rintro v5 w5 ⟨o5, g5⟩
  have e5 : ofB [⟨97, knownX⟩, ⟨98, knownX⟩, ⟨10, []⟩, ⟨99, []⟩] = [⟨2, knownX⟩, ⟨2, []⟩] := by decide
  rw [e5] at o5
  have s3 := (OBlks.sl (o3.grow (M := fun _ => False) (g4.trans g5) fun _ _ _ h => h))
  have s5 := OBlks.sl o5
  have g05 : Grow w w5 := (((g1.trans g2).trans g3).trans g4).trans g5
  obtain ⟨a3, c3, rfl, _⟩ := OwnR.shape o3
  obtain ⟨a5, c5, rfl, _⟩ := OwnR.shape o5
  simp only [KS]
  simp only [List.length_cons, List.length_nil]
  rw [if_pos (by decide)]
  obtain ⟨p3, r3, rfl, _, _, hc3, sv3, rfl, _⟩ := s3.get (i := 0) (by decide)
  refine ixK_n (j := 0) (by decide) ?_
  simp only [KS]
  refine ld1K_i (hc3 0 _ rfl) ?_
  simp only [KS]
  rw [if_pos (by rfl), if_pos (by decide)]
  obtain ⟨p5, r5, rfl, _, _, hc5, sv5, rfl, _⟩ := s5.get (i := 1) (by decide)
  refine ixK_n (j := 1) (by decide) ?_
  simp only [KS]
  refine ld1K_i (hc5 0 _ rfl) ?_
  simp only [KS]
  rw [if_pos (by rfl)]
  refine callK_mono (len_blk s5) ?_
  rintro v6 w6 ⟨rfl, g6⟩
  simp only [KS]
  refine ⟨?_, g05.trans g6⟩
  congr 1
end Go.Proofs.Ytmfplfaeibehiaa

namespace Go.Proofs.Ytmfplfaeibehiaa
open Go Go.K

theorem wrap_add (x m : Int) : IntKind.i64.wrap (IntKind.i64.wrap x + m) = IntKind.i64.wrap (x + m) := by
  have e1 : (2 : Int) ^ IntKind.i64.bits = 18446744073709551616 := by decide
  have e2 : (2 : Int) ^ (IntKind.i64.bits - 1) = 9223372036854775808 := by decide
  simp only [IntKind.wrap, e1, e2, IntKind.signed, Bool.true_and, decide_eq_true_eq]
  split <;> split <;> split <;> omega
theorem snoc_cases {α : Type} (l : List α) : l = [] ∨ ∃ i b, l = i ++ [b] := by
  rcases List.eq_nil_or_concat l with h | ⟨i, b, h⟩
  · exact .inl h
  · exact .inr ⟨i, b, by simpa using h⟩
theorem addB_nil {n : Int} {s : List Attr} (h : 0 < n) : addB [] n s = [⟨n, s⟩] := by
  simp [addB, show ¬ n ≤ 0 by omega]
theorem addB_snoc {i : List Blk} {b : Blk} {n : Int} {s : List Attr} (h : 0 < n) : addB (i ++ [b]) n s = if b.set = s then i ++ [⟨IntKind.i64.wrap (b.n + n), b.set⟩] else i ++ [b] ++ [⟨n, s⟩] := by
  unfold addB
  rw [if_neg (by omega)]
  simp only [List.getLast?_append, List.getLast?_singleton, Option.some_or]
  split
  · simp
  · rfl
theorem addB_zero {l : List Blk} {n : Int} {s : List Attr} (h : n ≤ 0) : addB l n s = l := by simp [addB, h]
theorem addB_two {acc : List Blk} {n m : Int} {s : List Attr} (h1 : 0 < n) (h2 : 0 < m) (h3 : n + m ≤ 9223372036854775807) : addB (addB acc n s) m s = addB acc (n + m) s := by
  rcases snoc_cases acc with rfl | ⟨i, b, rfl⟩
  · rw [addB_nil h1, addB_nil (by omega), show [(⟨n, s⟩ : Blk)] = [] ++ [⟨n, s⟩] from rfl, addB_snoc h2, if_pos rfl, wrap64 (by simp; omega) (by simpa using h3)]; rfl
  · rw [addB_snoc h1, addB_snoc (by omega)]
    by_cases hs : b.set = s
    · rw [if_pos hs, if_pos hs, addB_snoc h2, if_pos hs]
      simp only
      rw [wrap_add, Int.add_assoc]
    · rw [if_neg hs, if_neg hs, addB_snoc h2, if_pos rfl]
      simp only
      rw [wrap64 (by omega) (by omega)]
def foldJ (acc l : List Blk) : List Blk := l.foldl (fun acc b => addB acc b.n b.set) acc
def foldO (acc : List Blk) (l : List Cel) : List Blk := l.foldl (fun acc c => addB acc 1 c.inl) acc
theorem foldJ_snoc (acc l : List Blk) (b : Blk) : foldJ acc (l ++ [b]) = addB (foldJ acc l) b.n b.set := by simp [foldJ]
theorem foldO_snoc (acc : List Blk) (l : List Cel) (c : Cel) : foldO acc (l ++ [c]) = addB (foldO acc l) 1 c.inl := by simp [foldO]
theorem rev_ind {α : Type} {p : List α → Prop} (h0 : p []) (h1 : ∀ l a, p l → p (l ++ [a])) : ∀ l, p l := by
  intro l
  have : ∀ n, ∀ l : List α, l.length = n → p l := by
    intro n
    induction n with
    | zero => intro l hl; rw [List.eq_nil_of_length_eq_zero hl]; exact h0
    | succ n ih =>
      intro l hl
      rcases snoc_cases l with rfl | ⟨i, b, rfl⟩
      · simp at hl
      · exact h1 i b (ih i (by simp at hl; omega))
  exact this _ l rfl
/-- blocks of cells: each from 1 to as many as there are cells -/
theorem ofB_n (m : List Cel) (hm : (m.length : Int) ≤ 9223372036854775807) : ∀ b ∈ ofB m, 1 ≤ b.n ∧ b.n ≤ m.length := by
  revert hm
  refine rev_ind (p := fun m => (m.length : Int) ≤ 9223372036854775807 → ∀ b ∈ ofB m, 1 ≤ b.n ∧ b.n ≤ m.length) ?_ ?_ m
  · intro _ b hb; simp [ofB] at hb
  · intro m c ih hm
    have hm' : (m.length : Int) + 1 ≤ 9223372036854775807 := by simpa using hm
    have ih := ih (by omega)
    have e : ofB (m ++ [c]) = addB (ofB m) 1 c.inl := foldO_snoc [] m c
    rw [e]
    rcases snoc_cases (ofB m) with h | ⟨i, b, h⟩
    · rw [h, addB_nil (by decide)]
      intro b hb; simp at hb; subst hb; simp; omega
    · rw [h] at ih
      rw [h, addB_snoc (by decide)]
      have hb := ih b (by simp)
      intro x hx
      split at hx
      · simp only [List.mem_append, List.mem_singleton] at hx
        rcases hx with hx | hx
        · have := ih x (by simp [hx]); simp; omega
        · subst hx
          simp only [List.length_append, List.length_singleton]
          rw [wrap64 (by omega) (by omega)]; omega
      · simp only [List.mem_append, List.mem_singleton] at hx
        rcases hx with (hx | hx) | hx
        · have := ih x (by simp [hx]); simp; omega
        · subst hx; simp; omega
        · subst hx; simp; omega
theorem foldJ_of (acc : List Blk) (m : List Cel) (hm : (m.length : Int) ≤ 9223372036854775806) : foldJ acc (ofB m) = foldO acc m := by
  revert hm
  refine rev_ind (p := fun m => (m.length : Int) ≤ 9223372036854775806 → foldJ acc (ofB m) = foldO acc m) ?_ ?_ m
  · intro _; rfl
  · intro m c ih hm
    have hm' : (m.length : Int) + 1 ≤ 9223372036854775806 := by simpa using hm
    have ih := ih (by omega)
    have hn := ofB_n m (by omega)
    have e : ofB (m ++ [c]) = addB (ofB m) 1 c.inl := foldO_snoc [] m c
    rw [e, foldO_snoc, ← ih]
    rcases snoc_cases (ofB m) with h | ⟨i, b, h⟩
    · rw [h, addB_nil (by decide)]; rfl
    · rw [h] at hn ⊢
      have hb := hn b (by simp)
      rw [addB_snoc (by decide)]
      by_cases hs : b.set = c.inl
      · rw [if_pos hs, foldJ_snoc, foldJ_snoc]
        simp only
        rw [hs, wrap64 (by omega) (by omega), addB_two (by omega) (by decide) (by omega)]
      · rw [if_neg hs, foldJ_snoc]
/-- BlocksJoin's law -/
theorem join_of_app (l m : List Cel) (hl : l.length ≤ 1000) (hm : m.length ≤ 1000) : joinB (ofB l ++ ofB m) = ofB (l ++ m) := by
  have h1 : joinB (ofB l ++ ofB m) = foldJ (foldJ [] (ofB l)) (ofB m) := by simp [joinB, foldJ]
  rw [h1, foldJ_of [] l (by omega), foldJ_of _ m (by omega)]
  simp [foldO, ofB]
/-- the sets of what is added to -/
theorem addB_sets {acc : List Blk} {n : Int} {s : List Attr} : ∀ b ∈ addB acc n s, b.set = s ∨ ∃ c ∈ acc, b.set = c.set := by
  intro x hx
  by_cases hn : n ≤ 0
  · rw [addB_zero hn] at hx; exact .inr ⟨x, hx, rfl⟩
  rcases snoc_cases acc with rfl | ⟨i, b, rfl⟩
  · rw [addB_nil (by omega)] at hx; simp at hx; subst hx; exact .inl rfl
  · rw [addB_snoc (by omega)] at hx
    split at hx
    · simp only [List.mem_append, List.mem_singleton] at hx
      rcases hx with hx | hx
      · exact .inr ⟨x, by simp [hx], rfl⟩
      · subst hx; exact .inr ⟨b, by simp, rfl⟩
    · simp only [List.mem_append, List.mem_singleton] at hx
      rcases hx with (hx | hx) | hx
      · exact .inr ⟨x, by simp [hx], rfl⟩
      · exact .inr ⟨x, by simp [hx], rfl⟩
      · subst hx; exact .inl rfl
theorem foldJ_sets {p : List Attr → Prop} : ∀ (l acc : List Blk), (∀ b ∈ acc, p b.set) → (∀ b ∈ l, p b.set) → ∀ b ∈ foldJ acc l, p b.set := by
  intro l
  induction l with
  | nil => intro acc h _; exact h
  | cons c l ih =>
    intro acc h h2
    refine ih (addB acc c.n c.set) (fun b hb => ?_) fun b hb => h2 b (by simp [hb])
    rcases addB_sets b hb with e | ⟨d, hd, e⟩
    · rw [e]; exact h2 c (by simp)
    · rw [e]; exact h d hd
theorem foldO_sets {p : List Attr → Prop} : ∀ (l : List Cel) (acc : List Blk), (∀ b ∈ acc, p b.set) → (∀ c ∈ l, p c.inl) → ∀ b ∈ foldO acc l, p b.set := by
  intro l
  induction l with
  | nil => intro acc h _; exact h
  | cons c l ih =>
    intro acc h h2
    refine ih (addB acc 1 c.inl) (fun b hb => ?_) fun b hb => h2 b (by simp [hb])
    rcases addB_sets b hb with e | ⟨d, hd, e⟩
    · rw [e]; exact h2 c (by simp)
    · rw [e]; exact h d hd
theorem inl_len {c : Cel} {m : Nat} (h : c.set.length ≤ m) : c.inl.length ≤ m := by
  unfold Cel.inl; split
  · simp
  · exact h
theorem ofB_sets {l : List Cel} {m : Nat} (h : ∀ c ∈ l, c.set.length ≤ m) : ∀ b ∈ ofB l, b.set.length ≤ m := foldO_sets (p := fun s => s.length ≤ m) l [] (fun _ h => nomatch h) fun c hc => inl_len (h c hc)
theorem joinB_sets {l : List Blk} {m : Nat} (h : ∀ c ∈ l, c.set.length ≤ m) : ∀ b ∈ joinB l, b.set.length ≤ m := foldJ_sets (p := fun s => s.length ≤ m) l [] (fun _ h => nomatch h) h
end Go.Proofs.Ytmfplfaeibehiaa

namespace Go.Proofs.Ytmfplfaeibehiaa
open Go Go.K

theorem RCel.low {D : Nat → Prop} {w : World} {r : List Value} {c : Cel} (h : RCel D w r c) : RCel (fun b => b < w.heap.size) w r c := by
  obtain ⟨sv, rfl, hs⟩ := h
  exact ⟨sv, rfl, hs.sub (fun b hb _ => hb) (by decide) fun _ _ h => h⟩
theorem RCels.grow {S D : Nat → Prop} {w w' : World} {v : Value} {l : List Cel} (h : RCels S D w v l) (hg : Grow w w') : RCels S D w' v l :=
  SlR.grow h hg (by decide) fun _ _ hx => hx.mod hg (fun _ _ _ h => h) fun _ _ h => h
theorem RBlks.grow {S D : Nat → Prop} {w w' : World} {v : Value} {l : List Blk} (h : RBlks S D w v l) (hg : Grow w w') : RBlks S D w' v l :=
  SlR.grow h hg (by decide) fun _ _ hx => hx.mod hg (fun _ _ _ h => h) fun _ _ h => h
/-- cells appended to cells of one's own -/
theorem app_cel {S D : Nat → Prop} {B : Nat} {w : World} {v x : Value} {l m : List Cel} {K : Cont} (h : OwnR B 26 2 (RCel fun b => b < B) w v l) (hx : RCels S D w x m) (hD : ∀ b, D b → b < B) (hB : B ≤ w.heap.size)
    (hl : l.length + m.length < 4398046511104) (hK : ∀ v' w', OwnR B 26 2 (RCel fun b => b < B) w' v' (l ++ m) → Mod (fun b => v.ownBlock = some b) w w' → K v' w') :
    runK Try.prog (Builtin.append_ #[22, 22] 22 [v, x].toArray) K w := by
  have hx' : SlR S 2 (RCel fun b => b < B) w x m := SlR.sub hx (fun _ _ h => h) (by decide) fun r c hc => hc.mod (Mod.refl (fun _ => False) _) (fun _ _ _ h => h) fun b _ hb => hD b hb
  obtain ⟨v', w', h1, h2, h3, h4⟩ := OwnR.append (ty := 22) elem_cel h hx' (fun _ _ => RCel.one) (by omega) hB (by simp only [maxLen]; omega)
    (fun w' hg r y hy => hy.mod (Mod.of_grownBy hg) (fun b _ hd e => by have := (OwnR.ownB h b e).1; omega) fun _ _ h => h)
  exact runK_i h1 (hK v' w' h2 (Mod.of_grownBy h3))
/-- blocks of one's own, others' appended -/
theorem app_blk {B B' : Nat} {w : World} {v x : Value} {l m : List Blk} {K : Cont} (h : OBlks B w v l) (hx : OBlks B' w x m) (hBB : B ≤ B') (hv : ∀ g, v.ownBlock = some g → g < B') (hB : B ≤ w.heap.size)
    (hl : l.length + m.length < 4398046511104) (hK : ∀ v' w', RBlks (fun _ => True) (fun _ => True) w' v' (l ++ m) → Mod (fun b => v.ownBlock = some b) w w' → K v' w') :
    runK Try.prog (Builtin.append_ #[27, 27] 27 [v, x].toArray) K w := by
  have hx' : SlR (fun _ => True) 2 (OBlk fun b => B ≤ b ∧ v.ownBlock ≠ some b) w x m := SlR.sub (OwnR.sl hx) (fun _ _ _ => trivial) (by decide) fun r c hc => hc.mod (Mod.refl (fun _ => False) _) (fun _ _ _ h => h) fun b _ hb => ⟨by omega, fun e => by have := hv b e; omega⟩
  obtain ⟨v', w', h1, h2, h3, h4⟩ := OwnR.append (ty := 27) elem_blk h hx' (fun _ _ => OBlk.one) (by omega) hB (by simp only [maxLen]; omega)
    (fun w' hg r y hy => hy.mod (Mod.of_grownBy hg) (fun b _ hd e => hd.2 e) fun _ _ h => h)
  refine runK_i h1 (hK v' w' ?_ (Mod.of_grownBy h3))
  exact SlR.sub (OwnR.sl h2) (fun _ _ _ => trivial) (by decide) fun r c hc => hc.rd.mod (Mod.refl (fun _ => False) _) (fun _ _ _ h => h) fun _ _ _ => trivial

theorem BlocksJoin_ok {S S' D D' : Nat → Prop} {w : World} {a b : Value} {l m : List Cel} (ha : RCels S D w a l) (hb : RCels S' D' w b m) :
    callK Try.prog 3 [a, b] (fun v w' => v = .bool true ∧ Grow w w') w := by
  apply S3_ok
  unfold S3
  obtain ⟨pa, ca, hav, hla⟩ := ha.shape
  obtain ⟨pb, cb, hbv, hlb⟩ := hb.shape
  have kn : ∀ {w1}, Grow w w1 → callK Try.prog 14 [] (fun v w' => v = .bool true ∧ Grow w w') w1 := fun hg => callK_mono known_ok fun v w' ⟨e, h⟩ => ⟨e, hg.trans h⟩
  refine JoinK_i (fun vs w1 => w1 = w ∧ l.length ≤ 250 ∧ m.length ≤ 250) ?_ ?_
  · rintro vs _ ⟨rfl, hl, hm⟩ _
    rename World => w
    refine rowK_empty ?_
    have g0 : Grow w (w.alloc (.cells #[] 26)) := Mod.alloc _ _ _
    have o0 : OwnR w.heap.size 26 2 (RCel fun b => b < w.heap.size) (w.alloc (.cells #[] 26)) (.slice (some ⟨w.heap.size, 0, none⟩) 0 0) [] := OwnR.made (Nat.le_refl _)
    have low : ∀ {S D : Nat → Prop} {v : Value} {l : List Cel}, RCels S D w v l → RCels S (fun b => b < w.heap.size) w v l := fun h => SlR.sub h (fun _ _ h => h) (by decide) fun _ _ h => h.low
    refine app_cel o0 ((low ha).grow g0) (fun _ h => h) (by simp) (by simp; omega) fun v1 w1 o1 m1 => ?_
    have g1 : Grow w w1 := g0.next m1 fun b hb e => by simp only [Value.ownBlock, Option.some.injEq] at e; omega
    refine app_cel o1 ((low hb).grow g1) (fun _ h => h) g1.size (by simp; omega) fun v2 w2 o2 m2 => ?_
    have g2 : Grow w w2 := g1.next m2 fun b hb e => by have := (OwnR.ownB o1 b e).1; omega
    simp only [List.nil_append] at o2
    have s2 := OwnR.sl o2
    obtain ⟨p2, c2, hv2, _⟩ := s2.shape
    subst hv2
    simp only [KS]
    refine LoopK_i (fun vs w1 => ∃ (k : Nat), k ≤ (l ++ m).length ∧ vs = [.int .i64 k] ∧ Grow w2 w1 ∧ ∀ i c, i < k → (l ++ m)[i]? = some c → c.set.length ≤ 30) (fun vs _ => (l ++ m).length - iOf vs 0) ⟨0, Nat.zero_le _, rfl, Mod.refl _ _, fun i c h => by omega⟩ ?_
    rintro vs w3 ⟨k, hk, rfl, g3, hset⟩ _
    simp only [KS]
    by_cases hlt : k < (l ++ m).length
    · rw [if_pos (show (k : Int) < (l ++ m).length by omega)]
      obtain ⟨p, r, rfl, _, hr, hc, sv, rfl, hs⟩ := s2.get hlt
      refine ixK_n hlt ?_
      simp only [KS]
      refine ld1K_i (g3.cell (hc 1 _ rfl) fun h => h) ?_
      obtain ⟨ps, cs, rfl, _⟩ := hs.shape
      simp only [KS]
      by_cases h30 : (30 : Int) < (l ++ m)[k].set.length
      · rw [if_pos h30]; exact kn (g2.trans g3)
      · rw [if_neg h30]
        have hll : (l ++ m).length ≤ 500 := by simp; omega
        refine ⟨⟨k + 1, by omega, by rw [wrap64 (by omega) (by omega)]; rfl, g3, fun i c hi hc' => ?_⟩, ?_⟩
        · by_cases e : i = k
          · subst e; rw [List.getElem?_eq_getElem hlt] at hc'; cases hc'; omega
          · exact hset i c (by omega) hc'
        · simp only [iOf, nth, List.headD_cons]; rw [wrap64 (by omega) (by omega)]; omega
    · rw [if_neg (show ¬ (k : Int) < (l ++ m).length by omega)]
      have hke : k = (l ++ m).length := by omega
      subst hke
      have hall : ∀ c ∈ l ++ m, c.set.length ≤ 30 := fun c hc => by
        obtain ⟨i, hi⟩ := List.mem_iff_getElem?.1 hc
        exact hset i c (List.getElem?_eq_some_iff.1 hi).1 hi
      have g23 := g2.trans g3
      refine callK_mono (of_blk (ha.grow g23) (by omega) fun c hc => by have := hall c (by simp [hc]); omega) ?_
      rintro v4 w4 ⟨o4, g4⟩
      have g24 := g23.trans g4
      refine callK_mono (of_blk (hb.grow g24) (by omega) fun c hc => by have := hall c (by simp [hc]); omega) ?_
      rintro v5 w5 ⟨o5, g5⟩
      have s5 : RCels (fun _ => True) (fun b => b < w.heap.size) w5 (.slice p2 (l ++ m).length c2) (l ++ m) := RCels.grow (RCels.grow (RCels.grow (SlR.sub s2 (fun _ _ _ => trivial) (by decide) fun _ _ h => h) g3) g4) g5
      refine callK_mono (of_blk s5 (by simp; omega) fun c hc => by have := hall c hc; omega) ?_
      rintro v6 w6 ⟨o6, g6⟩
      have o4' := (o4.grow g5 fun _ _ _ h => h).grow g6 fun _ _ _ h => h
      have ll := ofB_len l
      have lm := ofB_len m
      refine app_blk o4' (o5.grow g6 fun _ _ _ h => h) (by have := g4.size; omega) (fun g hg => by have := (OBlks.ownB o4 g hg).2; omega) (by have := g4.size; have := g5.size; have := g6.size; omega) (by omega) fun v7 w7 o7 m7 => ?_
      have g7 : Grow w6 w7 ∨ True := .inr trivial
      refine callK_mono (join_blk o7 (by simp; omega) fun b hb => ?_) ?_
      · rcases List.mem_append.1 hb with hb | hb
        · have := ofB_sets (m := 30) (fun c hc => hall c (by simp [hc])) b hb; omega
        · have := ofB_sets (m := 30) (fun c hc => hall c (by simp [hc])) b hb; omega
      rintro v8 w8 ⟨o8, g8⟩
      have o6' : OBlks w5.heap.size w8 v6 (ofB (l ++ m)) := (o6.grow m7 fun b hb hB e => by have := (OBlks.ownB o4 b e).2; have := g5.size; omega).grow g8 fun _ _ _ h => h
      refine callK_mono (rsame_blk (OBlks.sl o6') (OBlks.sl o8)) ?_
      rintro v9 w9 ⟨rfl, g9⟩
      have g09 : Grow w w9 := ((((g24.trans g5).trans g6).next m7 fun b hb e => by have := (OBlks.ownB o4 b e).1; have := g23.size; omega).trans g8).trans g9
      rw [join_of_app l m (by omega) (by omega)]
      rw [decide_eq_true rfl]
      exact kn g09
  · subst hav hbv
    simp only [KS]
    by_cases h1 : (250 : Int) < l.length
    · rw [if_pos h1]; exact kn (Mod.refl _ _)
    · rw [if_neg h1]
      by_cases h2 : (250 : Int) < m.length
      · rw [if_pos h2]; exact kn (Mod.refl _ _)
      · rw [if_neg h2]
        exact ⟨by trivial, by omega, by omega⟩
end Go.Proofs.Ytmfplfaeibehiaa
