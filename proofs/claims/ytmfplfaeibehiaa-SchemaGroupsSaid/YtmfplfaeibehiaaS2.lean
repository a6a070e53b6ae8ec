/- By a program of ours: of each function below the predicate that its code comes to, and that it is sound. No conditions. -/
import Derived.Test.YtmfplfaeibehiaaKE
import Derived.Test.YtmfplfaeibehiaaKM
namespace Go.Proofs.Ytmfplfaeibehiaa
open Go Go.K
/-- rubric/rubriclaw04.SchemaGroups -/
def S13 (v0 : Value) (K : Cont) (w : World) : Prop :=
  lenK v0 fun t14 =>
  gtK .i64 t14 (.int .i64 64) fun t15 =>
  condK t15
  (callK Try.prog 46 [] (fun t16 w1 =>
  K t16 w1) w)
  (lenK v0 fun t18 =>
  LoopK [(.slice none 0 0), (.int .i64 0)] (fun vs again w2 => ∀ _h : Env,
  ltK .i64 (nth vs 1) t18 fun t20 =>
  condK t20
  (lenK v0 fun t25 =>
  subK .i64 t25 (.int .i64 1) fun t26 =>
  subK .i64 t26 (nth vs 1) fun t28 =>
  ixK 6 v0 t28 fun t29 =>
  ldnK 6 t29 (fun t30 w3 =>
  rowK 72 6 1 [(.int .i64 0), (.bool false), (.int .u8 0), (.bool false), (.bool false), (.int .i64 0)] [(0, t30)] (fun t31 w4 =>
  runK Try.prog (Builtin.append_ #[49, 49] 49 [(nth vs 0), t31].toArray) (fun t32 w5 =>
  addK .i64 (nth vs 1) (.int .i64 1) fun t33 =>
  again [t32, t33] w5) w4) w3) w2)
  (callK Try.prog 47 [v0] (fun t36 w6 =>
  extK 0 t36 fun t37 =>
  extK 1 t36 fun t38 =>
  callK Try.prog 47 [(nth vs 0)] (fun t41 w7 =>
  extK 0 t41 fun t42 =>
  extK 1 t41 fun t43 =>
  neK .i64 t38 t43 fun t46 =>
  condK t46
  (K (.bool false) w7)
  (neK .i64 t38 (.int .i64 0) fun t48 =>
  condK t48
  (callK Try.prog 46 [] (fun t49 w8 =>
  K t49 w8) w7)
  (callK Try.prog 48 [t37] (fun t51 w9 =>
  callK Try.prog 48 [t42] (fun t53 w10 =>
  JoinK (fun _vs_1 w11 => ∀ _h_1 : Env,
  lenK t51 fun t67 =>
  LoopK [(.int .i64 0)] (fun vs_2 again_1 w12 => ∀ _h_2 : Env,
  ltK .i64 (nth vs_2 0) t67 fun t69 =>
  condK t69
  (JoinK (fun _vs_3 w13 => ∀ _h_3 : Env,
  lenK t51 fun t99 =>
  LoopK [(.int .i64 0)] (fun vs_4 again_2 w14 => ∀ _h_4 : Env,
  ltK .i64 (nth vs_4 0) t99 fun t101 =>
  condK t101
  (DrawC [6, 12, 19, 25, 38, 44] [[], [], [], [1, 2], [1, 2, 3], [1, 2, 3, 4], [0, 1, 2, 3, 4, 5], [], [], [7, 8], [7, 8, 9], [7, 8, 9, 10], [0, 1, 2, 3, 4, 5, 6, 7, 8, 9, 10, 11], [], [], [], [14, 15], [14, 15, 16], [14, 15, 16, 17], [0, 1, 2, 3, 4, 5, 6, 7, 8, 9, 10, 11, 12, 13, 14, 15, 16, 17, 18], [], [], [20, 21], [20, 21, 22], [20, 21, 22, 23], [0, 1, 2, 3, 4, 5, 6, 7, 8, 9, 10, 11, 12, 13, 14, 15, 16, 17, 18, 19, 20, 21, 22, 23, 24], [0, 1, 2, 3, 4, 5, 6, 7, 8, 9, 10, 11, 12, 13, 14, 15, 16, 17, 18, 19, 20, 21, 22, 23, 24, 25], [0, 1, 2, 3, 4, 5, 6, 7, 8, 9, 10, 11, 12, 13, 14, 15, 16, 17, 18, 19, 20, 21, 22, 23, 24, 25, 26], [0, 1, 2, 3, 4, 5, 6, 7, 8, 9, 10, 11, 12, 13, 14, 15, 16, 17, 18, 19, 20, 21, 22, 23, 24, 25, 26, 27], [0, 1, 2, 3, 4, 5, 6, 7, 8, 9, 10, 11, 12, 13, 14, 15, 16, 17, 18, 19, 20, 21, 22, 23, 24, 25, 26, 27], [0, 1, 2, 3, 4, 5, 6, 7, 8, 9, 10, 11, 12, 13, 14, 15, 16, 17, 18, 19, 20, 21, 22, 23, 24, 25, 26, 27, 28, 29], [0, 1, 2, 3, 4, 5, 6, 7, 8, 9, 10, 11, 12, 13, 14, 15, 16, 17, 18, 19, 20, 21, 22, 23, 24, 25, 26, 27, 28, 29, 30], [0, 1, 2, 3, 4, 5, 6, 7, 8, 9, 10, 11, 12, 13, 14, 15, 16, 17, 18, 19, 20, 21, 22, 23, 24, 25, 26, 27, 28, 29, 30, 31], [0, 1, 2, 3, 4, 5, 6, 7, 8, 9, 10, 11, 12, 13, 14, 15, 16, 17, 18, 19, 20, 21, 22, 23, 24, 25, 26, 27, 28, 29, 30, 31], [0, 1, 2, 3, 4, 5, 6, 7, 8, 9, 10, 11, 12, 13, 14, 15, 16, 17, 18, 19, 20, 21, 22, 23, 24, 25, 26, 27, 28, 29, 30, 31], [0, 1, 2, 3, 4, 5, 6, 7, 8, 9, 10, 11, 12, 13, 14, 15, 16, 17, 18, 19, 20, 21, 22, 23, 24, 25, 26, 27, 28, 29, 30, 31, 33, 34], [0, 1, 2, 3, 4, 5, 6, 7, 8, 9, 10, 11, 12, 13, 14, 15, 16, 17, 18, 19, 20, 21, 22, 23, 24, 25, 26, 27, 28, 29, 30, 31, 33, 34, 35], [0, 1, 2, 3, 4, 5, 6, 7, 8, 9, 10, 11, 12, 13, 14, 15, 16, 17, 18, 19, 20, 21, 22, 23, 24, 25, 26, 27, 28, 29, 30, 31, 33, 34, 35, 36], [0, 1, 2, 3, 4, 5, 6, 7, 8, 9, 10, 11, 12, 13, 14, 15, 16, 17, 18, 19, 20, 21, 22, 23, 24, 25, 26, 27, 28, 29, 30, 31, 32, 33, 34, 35, 36, 37], [0, 1, 2, 3, 4, 5, 6, 7, 8, 9, 10, 11, 12, 13, 14, 15, 16, 17, 18, 19, 20, 21, 22, 23, 24, 25, 26, 27, 28, 29, 30, 31], [0, 1, 2, 3, 4, 5, 6, 7, 8, 9, 10, 11, 12, 13, 14, 15, 16, 17, 18, 19, 20, 21, 22, 23, 24, 25, 26, 27, 28, 29, 30, 31], [0, 1, 2, 3, 4, 5, 6, 7, 8, 9, 10, 11, 12, 13, 14, 15, 16, 17, 18, 19, 20, 21, 22, 23, 24, 25, 26, 27, 28, 29, 30, 31, 39, 40], [0, 1, 2, 3, 4, 5, 6, 7, 8, 9, 10, 11, 12, 13, 14, 15, 16, 17, 18, 19, 20, 21, 22, 23, 24, 25, 26, 27, 28, 29, 30, 31, 39, 40, 41], [0, 1, 2, 3, 4, 5, 6, 7, 8, 9, 10, 11, 12, 13, 14, 15, 16, 17, 18, 19, 20, 21, 22, 23, 24, 25, 26, 27, 28, 29, 30, 31, 39, 40, 41, 42], [0, 1, 2, 3, 4, 5, 6, 7, 8, 9, 10, 11, 12, 13, 14, 15, 16, 17, 18, 19, 20, 21, 22, 23, 24, 25, 26, 27, 28, 29, 30, 31, 32, 33, 34, 35, 36, 37, 38, 39, 40, 41, 42, 43], [0, 1, 2, 3, 4, 5, 6, 7, 8, 9, 10, 11, 12, 13, 14, 15, 16, 17, 18, 19, 20, 21, 22, 23, 24, 25, 26, 27, 28, 29, 30, 31, 32, 33, 34, 35, 36, 37, 38, 39, 40, 41, 42, 43, 44], [0, 1, 2, 3, 4, 5, 6, 7, 8, 9, 10, 11, 12, 13, 14, 15, 16, 17, 18, 19, 20, 21, 22, 23, 24, 25, 26, 27, 28, 29, 30, 31, 32, 33, 34, 35, 36, 37, 38, 39, 40, 41, 42, 43, 44, 45]] w14.drew (fun M St =>
  ixK 6 t51 (nth vs_2 0) fun t106 =>
  faK 0 t106 fun t107 =>
  sld1 (St 5) t107 fun t108 =>
  callK Try.prog 50 [t37, t108] (fun t109 w15 =>
  Mod (M 6) w14.drew w15 ∧
  ixK 6 t51 (nth vs_4 0) fun t112 =>
  faK 0 t112 fun t113 =>
  sld1 (St 11) t113 fun t114 =>
  callK Try.prog 49 [t109, t114] (fun t115 w16 =>
  Mod (M 12) w15 w16 ∧
  ixK 6 t51 (nth vs_4 0) fun t119 =>
  faK 0 t119 fun t120 =>
  sld1 (St 18) t120 fun t121 =>
  callK Try.prog 50 [t37, t121] (fun t122 w17 =>
  Mod (M 19) w16 w17 ∧
  ixK 6 t51 (nth vs_2 0) fun t125 =>
  faK 0 t125 fun t126 =>
  sld1 (St 24) t126 fun t127 =>
  callK Try.prog 49 [t122, t127] (fun t128 w18 =>
  Mod (M 25) w17 w18 ∧
  bneK t115 t128 fun t129 =>
  condK t129
  (K (.bool false) w18)
  (eqK .i64 (nth vs_2 0) (nth vs_4 0) fun t133 =>
  condK t133
  (ixK 6 t51 (nth vs_2 0) fun t138 =>
  faK 0 t138 fun t139 =>
  sld1 (St 37) t139 fun t140 =>
  callK Try.prog 50 [t37, t140] (fun t141 w19 =>
  Mod (M 38) w18 w19 ∧
  ixK 6 t51 (nth vs_2 0) fun t144 =>
  faK 0 t144 fun t145 =>
  sld1 (St 43) t145 fun t146 =>
  callK Try.prog 49 [t141, t146] (fun t147 w20 =>
  Mod (M 44) w19 w20 ∧
  condK t147
  (K (.bool false) w20)
  (addK .i64 (nth vs_4 0) (.int .i64 1) fun t150_1 =>
  again_2 [t150_1] w20)) w19) w18)
  (addK .i64 (nth vs_4 0) (.int .i64 1) fun t150_2 =>
  again_2 [t150_2] w18))) w17) w16) w15) w14.drew))
  (addK .i64 (nth vs_2 0) (.int .i64 1) fun t151 =>
  again_1 [t151] w14)) w13) (fun J_1 =>
  DrawK w12 (fun C =>
  ixK 6 t51 (nth vs_2 0) fun t73 =>
  qldnK C 6 t73 fun t74 =>
  ixK 6 t53 (nth vs_2 0) fun t77 =>
  qldnK C 6 t77 fun t78 =>
  qrunK Try.prog C (binS .neq 72 (.tmp 74) (.tmp 78) t74 t78) fun t79 =>
  condK t79
  (∀ w21 : World, C w21 →
  K (.bool false) w21)
  (gtK .i64 (nth vs_2 0) (.int .i64 0) fun t82 =>
  condK t82
  (subK .i64 (nth vs_2 0) (.int .i64 1) fun t86 =>
  ixK 6 t51 t86 fun t87 =>
  faK 0 t87 fun t88 =>
  qld1K C t88 fun t89 =>
  ixK 6 t51 (nth vs_2 0) fun t92 =>
  faK 0 t92 fun t93 =>
  qld1K C t93 fun t94 =>
  geK .i64 t89 t94 fun t95 =>
  ∀ w22 : World, C w22 →
  condK t95
  (K (.bool false) w22)
  (J_1 [] w22))
  (∀ w23 : World, C w23 →
  J_1 [] w23)))))
  (callK Try.prog 46 [] (fun t152 w24 =>
  K t152 w24) w12)) w11) (fun J =>
  lenK t51 fun t55 =>
  lenK t53 fun t57 =>
  neK .i64 t55 t57 fun t58 =>
  condK t58
  (K (.bool false) w10)
  (lenK t51 fun t61 =>
  lenK v0 fun t63 =>
  neK .i64 t61 t63 fun t64 =>
  condK t64
  (K (.bool false) w10)
  (J [] w10)))) w9) w7))) w6) w2)) w)
theorem S13_eq (v0 : Value) (K : Cont) (w : World) : S13 v0 K w = D Try.prog okf 153 (bodyOf Try.f13) (.node [] [] .nil (.node [] [] (.node [] [] .nil (.node [] [] (.node [] [] .nil .nil) .nil)) (.node [] [] .nil (.node [] [] (.node [] [] .nil (.node [3, 19] [(3, 4), (19, 33)] (.node [] [] .nil (.node [] [] (.node [] [] .nil .nil) (.node [] [] (.node [] [] .nil .nil) .nil))) .nil)) (.node [] [] .nil (.node [] [] .nil (.node [] [] (.node [] [] .nil (.node [] [] (.node [] [] .nil .nil) .nil)) (.node [] [] (.node [] [] .nil (.node [] [] (.node [] [] .nil .nil) .nil)) (.node [] [] .nil (.node [] [] .nil (.cut [] [(2, 2), (54, 65)] (.node [] [] .nil (.node [] [] (.node [] [] .nil .nil) .nil)) (.node [] [] (.node [] [] .nil (.node [68] [(2, 2), (11, 12), (68, 151)] (.node [] [] .nil (.node [] [] (.node [] [] .nil .nil) (.node [] [] (.node [] [] .nil (.cut [] [(2, 2), (71, 97)] (.node [] [] .draw (.node [] [] (.node [] [] .nil .nil) .nil)) (.node [] [] .nil (.node [100] [(2, 2), (12, 12), (100, 150)] (.node [] [] .nil (.node [] [] (.node [] [] .nil .nil) (.node [] [] (.node [] [] .nil (.node [] [] (.dc [6, 12, 19, 25, 38, 44] [[], [], [], [1, 2], [1, 2, 3], [1, 2, 3, 4], [0, 1, 2, 3, 4, 5], [], [], [7, 8], [7, 8, 9], [7, 8, 9, 10], [0, 1, 2, 3, 4, 5, 6, 7, 8, 9, 10, 11], [], [], [], [14, 15], [14, 15, 16], [14, 15, 16, 17], [0, 1, 2, 3, 4, 5, 6, 7, 8, 9, 10, 11, 12, 13, 14, 15, 16, 17, 18], [], [], [20, 21], [20, 21, 22], [20, 21, 22, 23], [0, 1, 2, 3, 4, 5, 6, 7, 8, 9, 10, 11, 12, 13, 14, 15, 16, 17, 18, 19, 20, 21, 22, 23, 24], [0, 1, 2, 3, 4, 5, 6, 7, 8, 9, 10, 11, 12, 13, 14, 15, 16, 17, 18, 19, 20, 21, 22, 23, 24, 25], [0, 1, 2, 3, 4, 5, 6, 7, 8, 9, 10, 11, 12, 13, 14, 15, 16, 17, 18, 19, 20, 21, 22, 23, 24, 25, 26], [0, 1, 2, 3, 4, 5, 6, 7, 8, 9, 10, 11, 12, 13, 14, 15, 16, 17, 18, 19, 20, 21, 22, 23, 24, 25, 26, 27], [0, 1, 2, 3, 4, 5, 6, 7, 8, 9, 10, 11, 12, 13, 14, 15, 16, 17, 18, 19, 20, 21, 22, 23, 24, 25, 26, 27], [0, 1, 2, 3, 4, 5, 6, 7, 8, 9, 10, 11, 12, 13, 14, 15, 16, 17, 18, 19, 20, 21, 22, 23, 24, 25, 26, 27, 28, 29], [0, 1, 2, 3, 4, 5, 6, 7, 8, 9, 10, 11, 12, 13, 14, 15, 16, 17, 18, 19, 20, 21, 22, 23, 24, 25, 26, 27, 28, 29, 30], [0, 1, 2, 3, 4, 5, 6, 7, 8, 9, 10, 11, 12, 13, 14, 15, 16, 17, 18, 19, 20, 21, 22, 23, 24, 25, 26, 27, 28, 29, 30, 31], [0, 1, 2, 3, 4, 5, 6, 7, 8, 9, 10, 11, 12, 13, 14, 15, 16, 17, 18, 19, 20, 21, 22, 23, 24, 25, 26, 27, 28, 29, 30, 31], [0, 1, 2, 3, 4, 5, 6, 7, 8, 9, 10, 11, 12, 13, 14, 15, 16, 17, 18, 19, 20, 21, 22, 23, 24, 25, 26, 27, 28, 29, 30, 31], [0, 1, 2, 3, 4, 5, 6, 7, 8, 9, 10, 11, 12, 13, 14, 15, 16, 17, 18, 19, 20, 21, 22, 23, 24, 25, 26, 27, 28, 29, 30, 31, 33, 34], [0, 1, 2, 3, 4, 5, 6, 7, 8, 9, 10, 11, 12, 13, 14, 15, 16, 17, 18, 19, 20, 21, 22, 23, 24, 25, 26, 27, 28, 29, 30, 31, 33, 34, 35], [0, 1, 2, 3, 4, 5, 6, 7, 8, 9, 10, 11, 12, 13, 14, 15, 16, 17, 18, 19, 20, 21, 22, 23, 24, 25, 26, 27, 28, 29, 30, 31, 33, 34, 35, 36], [0, 1, 2, 3, 4, 5, 6, 7, 8, 9, 10, 11, 12, 13, 14, 15, 16, 17, 18, 19, 20, 21, 22, 23, 24, 25, 26, 27, 28, 29, 30, 31, 32, 33, 34, 35, 36, 37], [0, 1, 2, 3, 4, 5, 6, 7, 8, 9, 10, 11, 12, 13, 14, 15, 16, 17, 18, 19, 20, 21, 22, 23, 24, 25, 26, 27, 28, 29, 30, 31], [0, 1, 2, 3, 4, 5, 6, 7, 8, 9, 10, 11, 12, 13, 14, 15, 16, 17, 18, 19, 20, 21, 22, 23, 24, 25, 26, 27, 28, 29, 30, 31], [0, 1, 2, 3, 4, 5, 6, 7, 8, 9, 10, 11, 12, 13, 14, 15, 16, 17, 18, 19, 20, 21, 22, 23, 24, 25, 26, 27, 28, 29, 30, 31, 39, 40], [0, 1, 2, 3, 4, 5, 6, 7, 8, 9, 10, 11, 12, 13, 14, 15, 16, 17, 18, 19, 20, 21, 22, 23, 24, 25, 26, 27, 28, 29, 30, 31, 39, 40, 41], [0, 1, 2, 3, 4, 5, 6, 7, 8, 9, 10, 11, 12, 13, 14, 15, 16, 17, 18, 19, 20, 21, 22, 23, 24, 25, 26, 27, 28, 29, 30, 31, 39, 40, 41, 42], [0, 1, 2, 3, 4, 5, 6, 7, 8, 9, 10, 11, 12, 13, 14, 15, 16, 17, 18, 19, 20, 21, 22, 23, 24, 25, 26, 27, 28, 29, 30, 31, 32, 33, 34, 35, 36, 37, 38, 39, 40, 41, 42, 43], [0, 1, 2, 3, 4, 5, 6, 7, 8, 9, 10, 11, 12, 13, 14, 15, 16, 17, 18, 19, 20, 21, 22, 23, 24, 25, 26, 27, 28, 29, 30, 31, 32, 33, 34, 35, 36, 37, 38, 39, 40, 41, 42, 43, 44], [0, 1, 2, 3, 4, 5, 6, 7, 8, 9, 10, 11, 12, 13, 14, 15, 16, 17, 18, 19, 20, 21, 22, 23, 24, 25, 26, 27, 28, 29, 30, 31, 32, 33, 34, 35, 36, 37, 38, 39, 40, 41, 42, 43, 44, 45]] [[6, 12, 19, 25]]) (.node [] [] (.node [] [] .nil .nil) .nil))) .nil))) .nil)))) .nil))) .nil)) (.node [] [] .nil .nil))))))))))))) (retK Try.prog [.tmp 2] K) (nth [v0]) w := by kernel_rfl
theorem S13_ok {v0 : Value} {K : Cont} {w : World} (h : S13 v0 K w) : callK Try.prog 13 [v0] K w :=
  callK_of (P := Try.prog) (ok := okf) (n := 153) (fn := Try.f13) (c := bodyOf Try.f13) (rs := [.tmp 2]) (an := (.node [] [] .nil (.node [] [] (.node [] [] .nil (.node [] [] (.node [] [] .nil .nil) .nil)) (.node [] [] .nil (.node [] [] (.node [] [] .nil (.node [3, 19] [(3, 4), (19, 33)] (.node [] [] .nil (.node [] [] (.node [] [] .nil .nil) (.node [] [] (.node [] [] .nil .nil) .nil))) .nil)) (.node [] [] .nil (.node [] [] .nil (.node [] [] (.node [] [] .nil (.node [] [] (.node [] [] .nil .nil) .nil)) (.node [] [] (.node [] [] .nil (.node [] [] (.node [] [] .nil .nil) .nil)) (.node [] [] .nil (.node [] [] .nil (.cut [] [(2, 2), (54, 65)] (.node [] [] .nil (.node [] [] (.node [] [] .nil .nil) .nil)) (.node [] [] (.node [] [] .nil (.node [68] [(2, 2), (11, 12), (68, 151)] (.node [] [] .nil (.node [] [] (.node [] [] .nil .nil) (.node [] [] (.node [] [] .nil (.cut [] [(2, 2), (71, 97)] (.node [] [] .draw (.node [] [] (.node [] [] .nil .nil) .nil)) (.node [] [] .nil (.node [100] [(2, 2), (12, 12), (100, 150)] (.node [] [] .nil (.node [] [] (.node [] [] .nil .nil) (.node [] [] (.node [] [] .nil (.node [] [] (.dc [6, 12, 19, 25, 38, 44] [[], [], [], [1, 2], [1, 2, 3], [1, 2, 3, 4], [0, 1, 2, 3, 4, 5], [], [], [7, 8], [7, 8, 9], [7, 8, 9, 10], [0, 1, 2, 3, 4, 5, 6, 7, 8, 9, 10, 11], [], [], [], [14, 15], [14, 15, 16], [14, 15, 16, 17], [0, 1, 2, 3, 4, 5, 6, 7, 8, 9, 10, 11, 12, 13, 14, 15, 16, 17, 18], [], [], [20, 21], [20, 21, 22], [20, 21, 22, 23], [0, 1, 2, 3, 4, 5, 6, 7, 8, 9, 10, 11, 12, 13, 14, 15, 16, 17, 18, 19, 20, 21, 22, 23, 24], [0, 1, 2, 3, 4, 5, 6, 7, 8, 9, 10, 11, 12, 13, 14, 15, 16, 17, 18, 19, 20, 21, 22, 23, 24, 25], [0, 1, 2, 3, 4, 5, 6, 7, 8, 9, 10, 11, 12, 13, 14, 15, 16, 17, 18, 19, 20, 21, 22, 23, 24, 25, 26], [0, 1, 2, 3, 4, 5, 6, 7, 8, 9, 10, 11, 12, 13, 14, 15, 16, 17, 18, 19, 20, 21, 22, 23, 24, 25, 26, 27], [0, 1, 2, 3, 4, 5, 6, 7, 8, 9, 10, 11, 12, 13, 14, 15, 16, 17, 18, 19, 20, 21, 22, 23, 24, 25, 26, 27], [0, 1, 2, 3, 4, 5, 6, 7, 8, 9, 10, 11, 12, 13, 14, 15, 16, 17, 18, 19, 20, 21, 22, 23, 24, 25, 26, 27, 28, 29], [0, 1, 2, 3, 4, 5, 6, 7, 8, 9, 10, 11, 12, 13, 14, 15, 16, 17, 18, 19, 20, 21, 22, 23, 24, 25, 26, 27, 28, 29, 30], [0, 1, 2, 3, 4, 5, 6, 7, 8, 9, 10, 11, 12, 13, 14, 15, 16, 17, 18, 19, 20, 21, 22, 23, 24, 25, 26, 27, 28, 29, 30, 31], [0, 1, 2, 3, 4, 5, 6, 7, 8, 9, 10, 11, 12, 13, 14, 15, 16, 17, 18, 19, 20, 21, 22, 23, 24, 25, 26, 27, 28, 29, 30, 31], [0, 1, 2, 3, 4, 5, 6, 7, 8, 9, 10, 11, 12, 13, 14, 15, 16, 17, 18, 19, 20, 21, 22, 23, 24, 25, 26, 27, 28, 29, 30, 31], [0, 1, 2, 3, 4, 5, 6, 7, 8, 9, 10, 11, 12, 13, 14, 15, 16, 17, 18, 19, 20, 21, 22, 23, 24, 25, 26, 27, 28, 29, 30, 31, 33, 34], [0, 1, 2, 3, 4, 5, 6, 7, 8, 9, 10, 11, 12, 13, 14, 15, 16, 17, 18, 19, 20, 21, 22, 23, 24, 25, 26, 27, 28, 29, 30, 31, 33, 34, 35], [0, 1, 2, 3, 4, 5, 6, 7, 8, 9, 10, 11, 12, 13, 14, 15, 16, 17, 18, 19, 20, 21, 22, 23, 24, 25, 26, 27, 28, 29, 30, 31, 33, 34, 35, 36], [0, 1, 2, 3, 4, 5, 6, 7, 8, 9, 10, 11, 12, 13, 14, 15, 16, 17, 18, 19, 20, 21, 22, 23, 24, 25, 26, 27, 28, 29, 30, 31, 32, 33, 34, 35, 36, 37], [0, 1, 2, 3, 4, 5, 6, 7, 8, 9, 10, 11, 12, 13, 14, 15, 16, 17, 18, 19, 20, 21, 22, 23, 24, 25, 26, 27, 28, 29, 30, 31], [0, 1, 2, 3, 4, 5, 6, 7, 8, 9, 10, 11, 12, 13, 14, 15, 16, 17, 18, 19, 20, 21, 22, 23, 24, 25, 26, 27, 28, 29, 30, 31], [0, 1, 2, 3, 4, 5, 6, 7, 8, 9, 10, 11, 12, 13, 14, 15, 16, 17, 18, 19, 20, 21, 22, 23, 24, 25, 26, 27, 28, 29, 30, 31, 39, 40], [0, 1, 2, 3, 4, 5, 6, 7, 8, 9, 10, 11, 12, 13, 14, 15, 16, 17, 18, 19, 20, 21, 22, 23, 24, 25, 26, 27, 28, 29, 30, 31, 39, 40, 41], [0, 1, 2, 3, 4, 5, 6, 7, 8, 9, 10, 11, 12, 13, 14, 15, 16, 17, 18, 19, 20, 21, 22, 23, 24, 25, 26, 27, 28, 29, 30, 31, 39, 40, 41, 42], [0, 1, 2, 3, 4, 5, 6, 7, 8, 9, 10, 11, 12, 13, 14, 15, 16, 17, 18, 19, 20, 21, 22, 23, 24, 25, 26, 27, 28, 29, 30, 31, 32, 33, 34, 35, 36, 37, 38, 39, 40, 41, 42, 43], [0, 1, 2, 3, 4, 5, 6, 7, 8, 9, 10, 11, 12, 13, 14, 15, 16, 17, 18, 19, 20, 21, 22, 23, 24, 25, 26, 27, 28, 29, 30, 31, 32, 33, 34, 35, 36, 37, 38, 39, 40, 41, 42, 43, 44], [0, 1, 2, 3, 4, 5, 6, 7, 8, 9, 10, 11, 12, 13, 14, 15, 16, 17, 18, 19, 20, 21, 22, 23, 24, 25, 26, 27, 28, 29, 30, 31, 32, 33, 34, 35, 36, 37, 38, 39, 40, 41, 42, 43, 44, 45]] [[6, 12, 19, 25]]) (.node [] [] (.node [] [] .nil .nil) .nil))) .nil))) .nil)))) .nil))) .nil)) (.node [] [] .nil .nil)))))))))))))) good mixed Try.func13 (by kernel_rfl) (by kernel_rfl) (by kernel_rfl) (by kernel_rfl) (Eq.mp (S13_eq v0 K w) h)

/-- rubric/rubriclaw04.known -/
def S46 (K : Cont) (w : World) : Prop :=
  buildK [(0, 1), (1, 1), (2, 1), (3, 1), (4, 1), (5, 1)] [(.int .i64 0), (.bool false), (.int .u8 0), (.bool false), (.bool false), (.int .i64 0)] [(0, (.int .i64 9)), (1, (.bool true)), (2, (.int .u8 1)), (5, (.int .i64 1))] fun t7 =>
  buildK [(0, 1), (1, 1), (2, 1), (3, 1), (4, 1), (5, 1)] [(.int .i64 0), (.bool false), (.int .u8 0), (.bool false), (.bool false), (.int .i64 0)] [(0, (.int .i64 5)), (1, (.bool true)), (2, (.int .u8 2)), (5, (.int .i64 1))] fun t8 =>
  buildK [(0, 1), (1, 1), (2, 1), (3, 1), (4, 1), (5, 1)] [(.int .i64 0), (.bool false), (.int .u8 0), (.bool false), (.bool false), (.int .i64 0)] [(0, (.int .i64 7)), (1, (.bool true)), (2, (.int .u8 3)), (5, (.int .i64 1))] fun t9 =>
  buildK [(0, 1), (1, 1), (2, 1), (3, 1), (4, 1), (5, 1)] [(.int .i64 0), (.bool false), (.int .u8 0), (.bool false), (.bool false), (.int .i64 0)] [(0, (.int .i64 1)), (2, (.int .u8 4))] fun t10 =>
  rowK 72 6 4 [(.int .i64 0), (.bool false), (.int .u8 0), (.bool false), (.bool false), (.int .i64 0)] [(0, t7), (1, t8), (2, t9), (3, t10)] (fun t11 w1 =>
  callK Try.prog 47 [t11] (fun t12 w2 =>
  extK 0 t12 fun t13 =>
  extK 1 t12 fun t14 =>
  callK Try.prog 50 [t13, (.int .i64 7)] (fun t16 w3 =>
  buildK [(0, 1), (1, 1), (2, 1), (3, 1), (4, 1), (5, 1)] [(.int .i64 0), (.bool false), (.int .u8 0), (.bool false), (.bool false), (.int .i64 0)] [(0, (.int .i64 3)), (2, (.int .u8 1))] fun t18 =>
  buildK [(0, 1), (1, 1), (2, 1), (3, 1), (4, 1), (5, 1)] [(.int .i64 0), (.bool false), (.int .u8 0), (.bool false), (.bool false), (.int .i64 0)] [(0, (.int .i64 3)), (2, (.int .u8 1))] fun t19 =>
  rowK 72 6 2 [(.int .i64 0), (.bool false), (.int .u8 0), (.bool false), (.bool false), (.int .i64 0)] [(0, t18), (1, t19)] (fun t20 w4 =>
  callK Try.prog 47 [t20] (fun t21 w5 =>
  extK 0 t21 fun _t22 =>
  extK 1 t21 fun t23 =>
  eqK .i64 t14 (.int .i64 0) fun t25 =>
  condK t25
  (lenK t16 fun t28 =>
  eqK .i64 t28 (.int .i64 2) fun t29 =>
  condK t29
  (ixK 1 t16 (.int .i64 0) fun t33 =>
  ld1K t33 (fun t34 w6 =>
  eqK .i64 t34 (.int .i64 5) fun t35 =>
  condK t35
  (ixK 1 t16 (.int .i64 1) fun t39 =>
  ld1K t39 (fun t40 w7 =>
  eqK .i64 t40 (.int .i64 9) fun t41 =>
  condK t41
  (eqK .i64 t23 (.int .i64 3) fun t45 =>
  condK t45
  (callK Try.prog 71 [t13] (fun t49 w8 =>
  eqK .i64 t49 (.int .i64 4) fun t50 =>
  K t50 w8) w7)
  (K (.bool false) w7))
  (K (.bool false) w7)) w6)
  (K (.bool false) w6)) w5)
  (K (.bool false) w5))
  (K (.bool false) w5)) w4) w3) w2) w1) w
theorem S46_eq (K : Cont) (w : World) : S46  K w = D Try.prog okf 52 (bodyOf Try.f46) (.node [] [] .nil (.node [] [] .nil (.node [] [] .nil (.node [] [] .nil (.node [] [] .nil .nil))))) (retK Try.prog [.tmp 0] K) (nth []) w := by kernel_rfl
theorem S46_ok {K : Cont} {w : World} (h : S46  K w) : callK Try.prog 46 [] K w :=
  callK_of (P := Try.prog) (ok := okf) (n := 52) (fn := Try.f46) (c := bodyOf Try.f46) (rs := [.tmp 0]) (an := (.node [] [] .nil (.node [] [] .nil (.node [] [] .nil (.node [] [] .nil (.node [] [] .nil .nil)))))) good mixed Try.func46 (by kernel_rfl) (by kernel_rfl) (by kernel_rfl) (by kernel_rfl) (Eq.mp (S46_eq  K w) h)

/-- rubric/schema.New -/
def S47 (v0 : Value) (K : Cont) (w : World) : Prop :=
  lenK v0 fun t10 =>
  gtK .i64 t10 (.int .i64 64) fun t11 =>
  condK t11
  (K (.tuple #[(.pointer none), (.int .i64 3)]) w)
  (callK Try.prog 72 [v0] (fun t13 w1 =>
  runK Try.prog (Instr.makeMap 97 none) (fun t14 w2 =>
  buildK [(0, 1), (1, 1)] [(.slice none 0 0), (.map none)] [(0, t13), (1, t14)] fun t15 =>
  boxnK 99 t15 (fun t16 w3 =>
  lenK v0 fun t18 =>
  LoopK [(.int .i64 0)] (fun vs again w4 => ∀ _h : Env,
  ltK .i64 (nth vs 0) t18 fun t20 =>
  condK t20
  (ixK 6 v0 (nth vs 0) fun t21 =>
  ldnK 6 t21 (fun t22 w5 =>
  newK 72 [(.int .i64 0), (.bool false), (.int .u8 0), (.bool false), (.bool false), (.int .i64 0)] (fun t6 w6 =>
  stnK 6 t6 t22 (fun w7 =>
  JoinK (fun _vs_1 w8 => ∀ _h_1 : Env,
  DrawC [7] [[], [0], [0, 1], [0, 1, 2], [], [4], [], [0, 1, 2, 3, 4, 5, 6]] w8.drew (fun M St =>
  nilckK t16 fun t40 =>
  faK 1 t40 fun t41 =>
  sld1 (St 3) t41 fun t42 =>
  faK 0 t6 fun t43 =>
  sld1 (St 5) t43 fun t44 =>
  sldn (St 6) 6 t6 fun t45 =>
  runK Try.prog (do Instr.mapUpdate 97 t42 t44 t45; pure undef) (fun _u w9 =>
  Mod (M 7) w8.drew w9 ∧
  addK .i64 (nth vs 0) (.int .i64 1) fun t46 =>
  again [t46] w9) w8.drew)) (fun J =>
  JoinK (fun vs_2 w10 => ∀ _h_2 : Env,
  condK (nth vs_2 0)
  (K (.tuple #[(.pointer none), (.int .i64 3)]) w10)
  (ldnK 6 t6 (fun t35 w11 =>
  callK Try.prog 73 [t35] (fun t36 w12 =>
  notK t36 fun t37 =>
  condK t37
  (K (.tuple #[(.pointer none), (.int .i64 3)]) w12)
  (J [] w12)) w11) w10)) (fun J_1 =>
  DrawC [6, 10, 11] [[], [0], [0, 1], [0, 1, 2], [], [4], [0, 1, 2, 3, 4, 5], [0, 1, 2, 3, 4, 5, 6], [0, 1, 2, 3, 4, 5, 6, 7], [0, 1, 2, 3, 4, 5, 6, 7], [], [0, 1, 2, 3, 4, 5, 6, 7, 8, 10], [0, 1, 2, 3, 4, 5, 6, 7, 8, 9, 10, 11]] w7.drew (fun M_1 St_1 =>
  nilckK t16 fun t25 =>
  faK 1 t25 fun t26 =>
  sld1 (St_1 3) t26 fun t27 =>
  faK 0 t6 fun t28 =>
  sld1 (St_1 5) t28 fun t29 =>
  (runK Try.prog (Instr.lookup 97 t27 t29 true) (fun t30 w13 =>
  Mod (M_1 6) w7.drew w13 ∧
  extK 0 t30 fun t31 =>
  extK 1 t30 fun t32 =>
  newK 72 [(.int .i64 0), (.bool false), (.int .u8 0), (.bool false), (.bool false), (.int .i64 0)] (fun t7 w14 =>
  Mod (M_1 10) w13 w14 ∧
  stnK 6 t7 t31 (fun w15 =>
  Mod (M_1 11) w14 w15 ∧
  J_1 [t32] w15) w14) w13) w7.drew) ∧
  (newK 72 [(.int .i64 0), (.bool false), (.int .u8 0), (.bool false), (.bool false), (.int .i64 0)] (fun t7_1 w16 =>
  Mod (M_1 10) w7.drew w16 ∧
  runK Try.prog (Instr.lookup 97 t27 t29 true) (fun t30_1 w17 =>
  Mod (M_1 6) w16 w17 ∧
  extK 0 t30_1 fun t31_1 =>
  extK 1 t30_1 fun t32_1 =>
  stnK 6 t7_1 t31_1 (fun w18 =>
  Mod (M_1 11) w17 w18 ∧
  J_1 [t32_1] w18) w17) w16) w7.drew))))) w6) w5) w4)
  (nilckK t16 fun t48 =>
  faK 0 t48 fun t49 =>
  ld1K t49 (fun t50 w19 =>
  callK Try.prog 74 [t50, (.func (.func 75) #[] #[])] (fun _t51 w20 =>
  K (.tuple #[t16, (.int .i64 0)]) w20) w19) w4)) w3) w2) w1) w)
theorem S47_eq (v0 : Value) (K : Cont) (w : World) : S47 v0 K w = D Try.prog okf 53 (bodyOf Try.f47) (.node [] [] .nil (.node [] [] (.node [] [] .nil (.node [] [] (.node [] [] .nil .nil) .nil)) (.node [] [] .nil (.node [] [] (.node [] [] .nil (.node [19] [(2, 3), (6, 8), (19, 46)] (.node [] [] .nil (.node [] [] (.node [] [] .nil .nil) (.node [] [] (.node [] [] .nil (.cut [] [(2, 3), (7, 8), (23, 38)] (.cut [8] [(7, 8), (23, 32)] (.dt [6, 10, 11] [[], [0], [0, 1], [0, 1, 2], [], [4], [0, 1, 2, 3, 4, 5], [0, 1, 2, 3, 4, 5, 6], [0, 1, 2, 3, 4, 5, 6, 7], [0, 1, 2, 3, 4, 5, 6, 7], [], [0, 1, 2, 3, 4, 5, 6, 7, 8, 10], [0, 1, 2, 3, 4, 5, 6, 7, 8, 9, 10, 11]] [[6]] (.op 0 (.op 1 (.op 2 (.op 3 (.op 4 (.op 5 (.br (.op 6 (.op 7 (.op 8 (.op 9 (.op 10 (.op 11 (.op 12 .nil))))))) (.op 10 (.op 6 (.op 7 (.op 8 (.op 9 (.op 11 (.op 12 .nil))))))))))))))) (.node [] [] .nil (.node [] [] (.node [] [] .nil .nil) .nil))) (.dc [7] [[], [0], [0, 1], [0, 1, 2], [], [4], [], [0, 1, 2, 3, 4, 5, 6]] []))) .nil))) .nil)) (.node [] [] .nil (.node [] [] .nil .nil)))))) (retK Try.prog [.tmp 2, .tmp 3] K) (nth [v0]) w := by kernel_rfl
theorem S47_ok {v0 : Value} {K : Cont} {w : World} (h : S47 v0 K w) : callK Try.prog 47 [v0] K w :=
  callK_of (P := Try.prog) (ok := okf) (n := 53) (fn := Try.f47) (c := bodyOf Try.f47) (rs := [.tmp 2, .tmp 3]) (an := (.node [] [] .nil (.node [] [] (.node [] [] .nil (.node [] [] (.node [] [] .nil .nil) .nil)) (.node [] [] .nil (.node [] [] (.node [] [] .nil (.node [19] [(2, 3), (6, 8), (19, 46)] (.node [] [] .nil (.node [] [] (.node [] [] .nil .nil) (.node [] [] (.node [] [] .nil (.cut [] [(2, 3), (7, 8), (23, 38)] (.cut [8] [(7, 8), (23, 32)] (.dt [6, 10, 11] [[], [0], [0, 1], [0, 1, 2], [], [4], [0, 1, 2, 3, 4, 5], [0, 1, 2, 3, 4, 5, 6], [0, 1, 2, 3, 4, 5, 6, 7], [0, 1, 2, 3, 4, 5, 6, 7], [], [0, 1, 2, 3, 4, 5, 6, 7, 8, 10], [0, 1, 2, 3, 4, 5, 6, 7, 8, 9, 10, 11]] [[6]] (.op 0 (.op 1 (.op 2 (.op 3 (.op 4 (.op 5 (.br (.op 6 (.op 7 (.op 8 (.op 9 (.op 10 (.op 11 (.op 12 .nil))))))) (.op 10 (.op 6 (.op 7 (.op 8 (.op 9 (.op 11 (.op 12 .nil))))))))))))))) (.node [] [] .nil (.node [] [] (.node [] [] .nil .nil) .nil))) (.dc [7] [[], [0], [0, 1], [0, 1, 2], [], [4], [], [0, 1, 2, 3, 4, 5, 6]] []))) .nil))) .nil)) (.node [] [] .nil (.node [] [] .nil .nil))))))) good mixed Try.func47 (by kernel_rfl) (by kernel_rfl) (by kernel_rfl) (by kernel_rfl) (Eq.mp (S47_eq v0 K w) h)

/-- (*rubric/schema.Schema).Keys -/
def S48 (v0 : Value) (K : Cont) (w : World) : Prop :=
  pnilK v0 fun b4 =>
  condK (.bool b4)
  (K (.slice none 0 0) w)
  (nilckK v0 fun t6 =>
  faK 0 t6 fun t7 =>
  ld1K t7 (fun t8 w1 =>
  callK Try.prog 72 [t8] (fun t9 w2 =>
  K t9 w2) w1) w)
theorem S48_eq (v0 : Value) (K : Cont) (w : World) : S48 v0 K w = D Try.prog okf 10 (bodyOf Try.f48) (.node [] [] .nil (.node [] [] (.node [] [] .nil (.node [] [] (.node [] [] .nil .nil) .nil)) (.node [] [] .nil .nil))) (retK Try.prog [.tmp 2] K) (nth [v0]) w := by kernel_rfl
theorem S48_ok {v0 : Value} {K : Cont} {w : World} (h : S48 v0 K w) : callK Try.prog 48 [v0] K w :=
  callK_of (P := Try.prog) (ok := okf) (n := 10) (fn := Try.f48) (c := bodyOf Try.f48) (rs := [.tmp 2]) (an := (.node [] [] .nil (.node [] [] (.node [] [] .nil (.node [] [] (.node [] [] .nil .nil) .nil)) (.node [] [] .nil .nil)))) good mixed Try.func48 (by kernel_rfl) (by kernel_rfl) (by kernel_rfl) (by kernel_rfl) (Eq.mp (S48_eq v0 K w) h)

/-- rubric/rubriclaw04.has -/
def S49 (v0 v1 : Value) (K : Cont) (w : World) : Prop :=
  lenK v0 fun t7 =>
  LoopK [(.int .i64 0)] (fun vs again w1 => ∀ _h : Env,
  ltK .i64 (nth vs 0) t7 fun t9 =>
  condK t9
  (ixK 1 v0 (nth vs 0) fun t13 =>
  ld1K t13 (fun t14 w2 =>
  eqK .i64 t14 v1 fun t16 =>
  condK t16
  (K (.bool true) w2)
  (addK .i64 (nth vs 0) (.int .i64 1) fun t17 =>
  again [t17] w2)) w1)
  (K (.bool false) w1)) w
theorem S49_eq (v0 v1 : Value) (K : Cont) (w : World) : S49 v0 v1 K w = D Try.prog okf 18 (bodyOf Try.f49) (.node [] [] .nil (.node [] [] (.node [] [] .nil (.node [8] [(4, 5), (8, 17)] (.node [] [] .nil (.node [] [] (.node [] [] .nil .nil) (.node [] [] (.node [] [] .nil (.node [] [] .nil (.node [] [] (.node [] [] .nil .nil) .nil))) .nil))) .nil)) (.node [] [] .nil .nil))) (retK Try.prog [.tmp 4] K) (nth [v0, v1]) w := by kernel_rfl
theorem S49_ok {v0 v1 : Value} {K : Cont} {w : World} (h : S49 v0 v1 K w) : callK Try.prog 49 [v0, v1] K w :=
  callK_of (P := Try.prog) (ok := okf) (n := 18) (fn := Try.f49) (c := bodyOf Try.f49) (rs := [.tmp 4]) (an := (.node [] [] .nil (.node [] [] (.node [] [] .nil (.node [8] [(4, 5), (8, 17)] (.node [] [] .nil (.node [] [] (.node [] [] .nil .nil) (.node [] [] (.node [] [] .nil (.node [] [] .nil (.node [] [] (.node [] [] .nil .nil) .nil))) .nil))) .nil)) (.node [] [] .nil .nil)))) good mixed Try.func49 (by kernel_rfl) (by kernel_rfl) (by kernel_rfl) (by kernel_rfl) (Eq.mp (S49_eq v0 v1 K w) h)

/-- (*rubric/schema.Schema).Group -/
def S50 (v0 v1 : Value) (K : Cont) (w : World) : Prop :=
  callK Try.prog 77 [v0, v1] (fun t13 w1 =>
  extK 0 t13 fun t14 =>
  extK 1 t13 fun t15 =>
  newK 72 [(.int .i64 0), (.bool false), (.int .u8 0), (.bool false), (.bool false), (.int .i64 0)] (fun t5 w2 =>
  stnK 6 t5 t14 (fun w3 =>
  JoinK (fun _vs w4 => ∀ _h : Env,
  nilckK v0 fun t24 =>
  faK 0 t24 fun t25 =>
  ld1K t25 (fun t26 w5 =>
  lenK t26 fun t27 =>
  LoopK [(.slice none 0 0), (.int .i64 0)] (fun vs_1 again w6 => ∀ _h_1 : Env,
  ltK .i64 (nth vs_1 1) t27 fun t29 =>
  condK t29
  (JoinK (fun vs_2 w7 => ∀ _h_2 : Env,
  addK .i64 (nth vs_1 1) (.int .i64 1) fun t48 =>
  again [(nth vs_2 0), t48] w7) (fun J_1 =>
  ixK 6 t26 (nth vs_1 1) fun t30 =>
  ldnK 6 t30 (fun t31 w8 =>
  newK 72 [(.int .i64 0), (.bool false), (.int .u8 0), (.bool false), (.bool false), (.int .i64 0)] (fun t9 w9 =>
  stnK 6 t9 t31 (fun w10 =>
  faK 5 t9 fun t32 =>
  ld1K t32 (fun t33 w11 =>
  faK 5 t5 fun t34 =>
  ld1K t34 (fun t35 w12 =>
  eqK .i64 t33 t35 fun t36 =>
  condK t36
  (faK 0 t9 fun t38 =>
  ld1K t38 (fun t39 w13 =>
  neK .i64 t39 v1 fun t41 =>
  condK t41
  (faK 0 t9 fun t44 =>
  ld1K t44 (fun t45 w14 =>
  rowK 3 1 1 [(.int .i64 0)] [(0, t45)] (fun t46 w15 =>
  runK Try.prog (Builtin.append_ #[79, 79] 79 [(nth vs_1 0), t46].toArray) (fun t47 w16 =>
  J_1 [t47] w16) w15) w14) w13)
  (J_1 [(nth vs_1 0)] w13)) w12)
  (J_1 [(nth vs_1 0)] w12)) w11) w10) w9) w8) w6))
  (K (nth vs_1 0) w6)) w5) w4) (fun J =>
  notK t15 fun t17 =>
  condK t17
  (K (.slice none 0 0) w3)
  (faK 5 t5 fun t19 =>
  ld1K t19 (fun t20 w20 =>
  eqK .i64 t20 (.int .i64 0) fun t21 =>
  condK t21
  (K (.slice none 0 0) w20)
  (J [] w20)) w3))) w2) w1) w
theorem S50_eq (v0 v1 : Value) (K : Cont) (w : World) : S50 v0 v1 K w = D Try.prog okf 50 (bodyOf Try.f50) (.node [] [] .nil (.node [] [] .nil (.cut [] [(4, 4), (16, 22)] (.node [] [] .nil (.node [] [] (.node [] [] .nil .nil) .nil)) (.node [] [] .nil (.node [] [] (.node [] [] .nil (.node [7, 28] [(7, 7), (9, 9), (28, 48)] (.node [] [] .nil (.node [] [] (.node [] [] .nil .nil) (.cut [7] [(7, 7), (9, 9), (30, 47)] (.node [] [] .nil (.node [] [] .nil (.node [] [] .nil .nil))) .nil))) .nil)) (.node [] [] .nil .nil)))))) (retK Try.prog [.tmp 4] K) (nth [v0, v1]) w := by kernel_rfl
theorem S50_ok {v0 v1 : Value} {K : Cont} {w : World} (h : S50 v0 v1 K w) : callK Try.prog 50 [v0, v1] K w :=
  callK_of (P := Try.prog) (ok := okf) (n := 50) (fn := Try.f50) (c := bodyOf Try.f50) (rs := [.tmp 4]) (an := (.node [] [] .nil (.node [] [] .nil (.cut [] [(4, 4), (16, 22)] (.node [] [] .nil (.node [] [] (.node [] [] .nil .nil) .nil)) (.node [] [] .nil (.node [] [] (.node [] [] .nil (.node [7, 28] [(7, 7), (9, 9), (28, 48)] (.node [] [] .nil (.node [] [] (.node [] [] .nil .nil) (.cut [7] [(7, 7), (9, 9), (30, 47)] (.node [] [] .nil (.node [] [] .nil (.node [] [] .nil .nil))) .nil))) .nil)) (.node [] [] .nil .nil))))))) good mixed Try.func50 (by kernel_rfl) (by kernel_rfl) (by kernel_rfl) (by kernel_rfl) (Eq.mp (S50_eq v0 v1 K w) h)

/-- (*rubric/schema.Schema).Len -/
def S71 (v0 : Value) (K : Cont) (w : World) : Prop :=
  pnilK v0 fun b4 =>
  condK (.bool b4)
  (K (.int .i64 0) w)
  (nilckK v0 fun t6 =>
  faK 0 t6 fun t7 =>
  ld1K t7 (fun t8 w1 =>
  lenK t8 fun t9 =>
  K t9 w1) w)
theorem S71_eq (v0 : Value) (K : Cont) (w : World) : S71 v0 K w = D Try.prog okf 10 (bodyOf Try.f71) (.node [] [] .nil (.node [] [] (.node [] [] .nil (.node [] [] (.node [] [] .nil .nil) .nil)) (.node [] [] .nil .nil))) (retK Try.prog [.tmp 2] K) (nth [v0]) w := by kernel_rfl
theorem S71_ok {v0 : Value} {K : Cont} {w : World} (h : S71 v0 K w) : callK Try.prog 71 [v0] K w :=
  callK_of (P := Try.prog) (ok := okf) (n := 10) (fn := Try.f71) (c := bodyOf Try.f71) (rs := [.tmp 2]) (an := (.node [] [] .nil (.node [] [] (.node [] [] .nil (.node [] [] (.node [] [] .nil .nil) .nil)) (.node [] [] .nil .nil)))) good mixed Try.func71 (by kernel_rfl) (by kernel_rfl) (by kernel_rfl) (by kernel_rfl) (Eq.mp (S71_eq v0 K w) h)

/-- slices.Clone[[]rubric/api.Key,rubric/api.Key] -/
def S72 (v0 : Value) (K : Cont) (w : World) : Prop :=
  snilK v0 fun b4 =>
  condK (.bool b4)
  (K (.slice none 0 0) w)
  (rowK 72 6 0 [] [] (fun t5 w1 =>
  runK Try.prog (Builtin.append_ #[49, 49] 49 [t5, v0].toArray) (fun t7 w2 =>
  K t7 w2) w1) w)
theorem S72_eq (v0 : Value) (K : Cont) (w : World) : S72 v0 K w = D Try.prog okf 8 (bodyOf Try.f72) (.node [] [] .nil (.node [] [] (.node [] [] .nil (.node [] [] (.node [] [] .nil .nil) .nil)) (.node [] [] .nil .nil))) (retK Try.prog [.tmp 2] K) (nth [v0]) w := by kernel_rfl
theorem S72_ok {v0 : Value} {K : Cont} {w : World} (h : S72 v0 K w) : callK Try.prog 72 [v0] K w :=
  callK_of (P := Try.prog) (ok := okf) (n := 8) (fn := Try.f72) (c := bodyOf Try.f72) (rs := [.tmp 2]) (an := (.node [] [] .nil (.node [] [] (.node [] [] .nil (.node [] [] (.node [] [] .nil .nil) .nil)) (.node [] [] .nil .nil)))) good mixed Try.func72 (by kernel_rfl) (by kernel_rfl) (by kernel_rfl) (by kernel_rfl) (Eq.mp (S72_eq v0 K w) h)

/-- rubric/schema.may -/
def S73 (v0 : Value) (K : Cont) (w : World) : Prop :=
  boxnK 72 v0 (fun t1 w1 =>
  JoinK (fun vs w2 => ∀ _h : Env,
  condK (nth vs 0)
  (K (.bool false) w2)
  (faK 1 t1 fun t23 =>
  ld1K t23 (fun t24 w3 =>
  condK t24
  (faK 4 t1 fun t25 =>
  ld1K t25 (fun t26 w4 =>
  notK t26 fun t27 =>
  condK t27
  (faK 5 t1 fun t29 =>
  ld1K t29 (fun t30 w5 =>
  geK .i64 t30 (.int .i64 0) fun t31 =>
  condK t31
  (faK 5 t1 fun t34 =>
  ld1K t34 (fun t35 w6 =>
  leK .i64 t35 (.int .i64 8) fun t36 =>
  K t36 w6) w5)
  (K (.bool false) w5)) w4)
  (K (.bool false) w4)) w3)
  (faK 5 t1 fun t38 =>
  ld1K t38 (fun t39 w7 =>
  eqK .i64 t39 (.int .i64 0) fun t40 =>
  K t40 w7) w3)) w2)) (fun J =>
  faK 0 t1 fun t4 =>
  ld1K t4 (fun t5 w8 =>
  ltK .i64 t5 (.int .i64 1) fun t6 =>
  condK t6
  (J [(.bool true)] w8)
  (faK 0 t1 fun t8 =>
  ld1K t8 (fun t9 w9 =>
  gtK .i64 t9 (.int .i64 1000) fun t10 =>
  condK t10
  (J [(.bool true)] w9)
  (faK 2 t1 fun t13 =>
  ld1K t13 (fun t14 w10 =>
  ltK .u8 t14 (.int .u8 1) fun t15 =>
  condK t15
  (J [(.bool true)] w10)
  (faK 2 t1 fun t18 =>
  ld1K t18 (fun t19 w11 =>
  gtK .u8 t19 (.int .u8 4) fun t20 =>
  J [t20] w11) w10)) w9)) w8)) w1)) w
theorem S73_eq (v0 : Value) (K : Cont) (w : World) : S73 v0 K w = D Try.prog okf 41 (bodyOf Try.f73) (.node [] [] .nil (.node [] [] (.cut [3] [(3, 21)] .nil (.node [] [] (.node [] [] .nil .nil) (.node [] [] .nil (.node [] [] (.node [] [] .nil .nil) .nil)))) (.node [] [] .nil .nil))) (retK Try.prog [.tmp 2] K) (nth [v0]) w := by kernel_rfl
theorem S73_ok {v0 : Value} {K : Cont} {w : World} (h : S73 v0 K w) : callK Try.prog 73 [v0] K w :=
  callK_of (P := Try.prog) (ok := okf) (n := 41) (fn := Try.f73) (c := bodyOf Try.f73) (rs := [.tmp 2]) (an := (.node [] [] .nil (.node [] [] (.cut [3] [(3, 21)] .nil (.node [] [] (.node [] [] .nil .nil) (.node [] [] .nil (.node [] [] (.node [] [] .nil .nil) .nil)))) (.node [] [] .nil .nil)))) good mixed Try.func73 (by kernel_rfl) (by kernel_rfl) (by kernel_rfl) (by kernel_rfl) (Eq.mp (S73_eq v0 K w) h)

/-- rubric/schema.New$1 -/
def S75 (v0 v1 : Value) (K : Cont) (w : World) : Prop :=
  boxnK 72 v0 (fun t2 w1 =>
  boxnK 72 v1 (fun t3 w2 =>
  faK 0 t2 fun t5 =>
  ld1K t5 (fun t6 w3 =>
  faK 0 t3 fun t7 =>
  ld1K t7 (fun t8 w4 =>
  callK Try.prog 76 [t6, t8] (fun t9 w5 =>
  K t9 w5) w4) w3) w2) w1) w
theorem S75_eq (v0 v1 : Value) (K : Cont) (w : World) : S75 v0 v1 K w = D Try.prog okf 10 (bodyOf Try.f75) (.node [] [] .nil (.node [] [] .nil .nil)) (retK Try.prog [.tmp 4] K) (nth [v0, v1]) w := by kernel_rfl
theorem S75_ok {v0 v1 : Value} {K : Cont} {w : World} (h : S75 v0 v1 K w) : callK Try.prog 75 [v0, v1] K w :=
  callK_of (P := Try.prog) (ok := okf) (n := 10) (fn := Try.f75) (c := bodyOf Try.f75) (rs := [.tmp 4]) (an := (.node [] [] .nil (.node [] [] .nil .nil))) good mixed Try.func75 (by kernel_rfl) (by kernel_rfl) (by kernel_rfl) (by kernel_rfl) (Eq.mp (S75_eq v0 v1 K w) h)

/-- cmp.Compare[int] -/
def S76 (v0 v1 : Value) (K : Cont) (w : World) : Prop :=
  callK Try.prog 91 [v0] (fun t8 w1 =>
  callK Try.prog 91 [v1] (fun t10 w2 =>
  condK t8
  (condK t10
  (K (.int .i64 0) w2)
  (K (.int .i64 (-1)) w2))
  (condK t10
  (K (.int .i64 1) w2)
  (ltK .i64 v0 v1 fun t16 =>
  condK t16
  (K (.int .i64 (-1)) w2)
  (gtK .i64 v0 v1 fun t19 =>
  condK t19
  (K (.int .i64 1) w2)
  (K (.int .i64 0) w2))))) w1) w
theorem S76_eq (v0 v1 : Value) (K : Cont) (w : World) : S76 v0 v1 K w = D Try.prog okf 20 (bodyOf Try.f76) (.node [] [] .nil (.node [] [] .nil (.node [] [] .nil (.node [] [] (.node [] [] .nil (.node [] [] (.node [] [] (.node [] [] .nil (.node [] [] (.node [] [] .nil .nil) .nil)) (.node [] [] .nil .nil)) .nil)) (.node [] [] (.node [] [] .nil (.node [] [] (.node [] [] .nil .nil) .nil)) (.node [] [] (.node [] [] .nil (.node [] [] (.node [] [] .nil .nil) .nil)) (.node [] [] (.node [] [] .nil (.node [] [] (.node [] [] .nil .nil) .nil)) (.node [] [] .nil .nil)))))))) (retK Try.prog [.tmp 4] K) (nth [v0, v1]) w := by kernel_rfl
theorem S76_ok {v0 v1 : Value} {K : Cont} {w : World} (h : S76 v0 v1 K w) : callK Try.prog 76 [v0, v1] K w :=
  callK_of (P := Try.prog) (ok := okf) (n := 20) (fn := Try.f76) (c := bodyOf Try.f76) (rs := [.tmp 4]) (an := (.node [] [] .nil (.node [] [] .nil (.node [] [] .nil (.node [] [] (.node [] [] .nil (.node [] [] (.node [] [] (.node [] [] .nil (.node [] [] (.node [] [] .nil .nil) .nil)) (.node [] [] .nil .nil)) .nil)) (.node [] [] (.node [] [] .nil (.node [] [] (.node [] [] .nil .nil) .nil)) (.node [] [] (.node [] [] .nil (.node [] [] (.node [] [] .nil .nil) .nil)) (.node [] [] (.node [] [] .nil (.node [] [] (.node [] [] .nil .nil) .nil)) (.node [] [] .nil .nil))))))))) good mixed Try.func76 (by kernel_rfl) (by kernel_rfl) (by kernel_rfl) (by kernel_rfl) (Eq.mp (S76_eq v0 v1 K w) h)

/-- (*rubric/schema.Schema).Find -/
def S77 (v0 v1 : Value) (K : Cont) (w : World) : Prop :=
  newK 72 [(.int .i64 0), (.bool false), (.int .u8 0), (.bool false), (.bool false), (.int .i64 0)] (fun t4 w1 =>
  pnilK v0 fun b9 =>
  condK (.bool b9)
  (buildK [(0, 1), (1, 1), (2, 1), (3, 1), (4, 1), (5, 1)] [(.int .i64 0), (.bool false), (.int .u8 0), (.bool false), (.bool false), (.int .i64 0)] [] fun t10 =>
  stnK 6 t4 t10 (fun w2 =>
  ldnK 6 t4 (fun r0 w3 =>
  K (.tuple #[r0, (.bool false)]) w3) w2) w1)
  (nilckK v0 fun t13 =>
  faK 1 t13 fun t14 =>
  ld1K t14 (fun t15 w4 =>
  runK Try.prog (Instr.lookup 97 t15 v1 true) (fun t17 w5 =>
  extK 0 t17 fun t18 =>
  extK 1 t17 fun t19 =>
  newK 72 [(.int .i64 0), (.bool false), (.int .u8 0), (.bool false), (.bool false), (.int .i64 0)] (fun t6 w6 =>
  stnK 6 t6 t18 (fun w7 =>
  ldnK 6 t6 (fun t20 w8 =>
  stnK 6 t4 t20 (fun w9 =>
  ldnK 6 t4 (fun r0_1 w10 =>
  K (.tuple #[r0_1, t19]) w10) w9) w8) w7) w6) w5) w4) w1)) w
theorem S77_eq (v0 v1 : Value) (K : Cont) (w : World) : S77 v0 v1 K w = D Try.prog okf 22 (bodyOf Try.f77) (.node [] [] .nil (.node [] [] (.node [] [] .nil (.node [] [] (.node [] [] .nil .nil) .nil)) (.node [] [] .nil (.node [] [] .nil .nil)))) (retK Try.prog [.cell 4 72, .tmp 5] K) (nth [v0, v1]) w := by kernel_rfl
theorem S77_ok {v0 v1 : Value} {K : Cont} {w : World} (h : S77 v0 v1 K w) : callK Try.prog 77 [v0, v1] K w :=
  callK_of (P := Try.prog) (ok := okf) (n := 22) (fn := Try.f77) (c := bodyOf Try.f77) (rs := [.cell 4 72, .tmp 5]) (an := (.node [] [] .nil (.node [] [] (.node [] [] .nil (.node [] [] (.node [] [] .nil .nil) .nil)) (.node [] [] .nil (.node [] [] .nil .nil))))) good mixed Try.func77 (by kernel_rfl) (by kernel_rfl) (by kernel_rfl) (by kernel_rfl) (Eq.mp (S77_eq v0 v1 K w) h)

/-- cmp.isNaN[int] -/
def S91 (v0 : Value) (K : Cont) (w : World) : Prop :=
  neK .i64 v0 v0 fun t5 =>
  K t5 w
theorem S91_eq (v0 : Value) (K : Cont) (w : World) : S91 v0 K w = D Try.prog okf 6 (bodyOf Try.f91) (.node [] [] .nil (.node [] [] .nil .nil)) (retK Try.prog [.tmp 2] K) (nth [v0]) w := by kernel_rfl
theorem S91_ok {v0 : Value} {K : Cont} {w : World} (h : S91 v0 K w) : callK Try.prog 91 [v0] K w :=
  callK_of (P := Try.prog) (ok := okf) (n := 6) (fn := Try.f91) (c := bodyOf Try.f91) (rs := [.tmp 2]) (an := (.node [] [] .nil (.node [] [] .nil .nil))) good mixed Try.func91 (by kernel_rfl) (by kernel_rfl) (by kernel_rfl) (by kernel_rfl) (Eq.mp (S91_eq v0 K w) h)

end Go.Proofs.Ytmfplfaeibehiaa
