/- By a program of ours: of each function below the predicate that its code comes to, and that it is sound. No conditions. Copying and comparing rows, for any kind of element; at runes, patches, ops. No conditions but the sizes. -/
import Derived.Test.YtmfplfaeibehiaaZNormalMakesUpto3
namespace Go.Proofs.Ytmfplfaeibehiaa
open Go Go.K
/-- rubric/rubriclaw16.NormalForms -/
def S8 (v0 v1 : Value) (K : Cont) (w : World) : Prop :=
  callK Try.prog 30 [v0, v1] (fun t13 w1 =>
  notK t13 fun t14 =>
  condK t14
  (callK Try.prog 31 [v1] (fun t16 w2 =>
  leK .i64 t16 (.int .i64 20000) fun t17 =>
  condK t17
  (callK Try.prog 33 [v1] (fun t19 w3 =>
  callK Try.prog 32 [t19] (fun _t20 w4 =>
  callK Try.prog 34 [v1] (fun _t22 w5 =>
  callK Try.prog 35 [] (fun t23 w6 =>
  K t23 w6) w5) w4) w3) w2)
  (callK Try.prog 35 [] (fun t23_1 w7 =>
  K t23_1 w7) w2)) w1)
  (callK Try.prog 33 [v1] (fun t25 w8 =>
  callK Try.prog 32 [t25] (fun t27 w9 =>
  JoinK (fun _vs w10 => ∀ _h : Env,
  lenK t27 fun t46 =>
  LoopK [(.int .i64 0)] (fun vs_1 again w11 => ∀ _h_1 : Env,
  ltK .i64 (nth vs_1 0) t46 fun t48 =>
  condK t48
  (ixK 5 t27 (nth vs_1 0) fun t52 =>
  faK 2 t52 fun t53 =>
  ld1K t53 (fun t54 w12 =>
  lenK t54 fun t55 =>
  LoopK [(.int .i64 0)] (fun vs_2 again_1 w13 => ∀ _h_2 : Env,
  ltK .i64 (nth vs_2 0) t55 fun t57 =>
  condK t57
  (ixK 5 t27 (nth vs_1 0) fun t61 =>
  faK 2 t61 fun t62 =>
  ld1K t62 (fun t63 w14 =>
  ixK 1 t63 (nth vs_2 0) fun t65 =>
  ld1K t65 (fun t66 w15 =>
  addK .i32 t66 (.int .i32 1) fun t67 =>
  ixK 1 t63 (nth vs_2 0) fun t68 =>
  st1K t68 t67 (fun w16 =>
  addK .i64 (nth vs_2 0) (.int .i64 1) fun t69 =>
  again_1 [t69] w16) w15) w14) w13)
  (ixK 5 t27 (nth vs_1 0) fun t72 =>
  faK 3 t72 fun t73 =>
  ld1K t73 (fun t74 w17 =>
  lenK t74 fun t75 =>
  LoopK [(.int .i64 0)] (fun vs_3 again_2 w18 => ∀ _h_3 : Env,
  ltK .i64 (nth vs_3 0) t75 fun t77 =>
  condK t77
  (ixK 5 t27 (nth vs_1 0) fun t81 =>
  faK 3 t81 fun t82 =>
  ld1K t82 (fun t83 w19 =>
  ixK 5 t83 (nth vs_3 0) fun t85 =>
  faK 0 t85 fun t86 =>
  ld1K t86 (fun t87 w20 =>
  addK .i64 t87 (.int .i64 1) fun t88 =>
  ixK 5 t83 (nth vs_3 0) fun t89 =>
  faK 0 t89 fun t90 =>
  st1K t90 t88 (fun w21 =>
  addK .i64 (nth vs_3 0) (.int .i64 1) fun t91 =>
  again_2 [t91] w21) w20) w19) w18)
  (ixK 5 t27 (nth vs_1 0) fun t94 =>
  faK 4 t94 fun t95 =>
  ld1K t95 (fun t96 w22 =>
  lenK t96 fun t97 =>
  LoopK [(.int .i64 0)] (fun vs_4 again_3 w23 => ∀ _h_4 : Env,
  ltK .i64 (nth vs_4 0) t97 fun t99 =>
  condK t99
  (ixK 5 t27 (nth vs_1 0) fun t103 =>
  faK 4 t103 fun t104 =>
  ld1K t104 (fun t105 w24 =>
  ixK 6 t105 (nth vs_4 0) fun t107 =>
  faK 0 t107 fun t108 =>
  ld1K t108 (fun t109 w25 =>
  addK .i64 t109 (.int .i64 1) fun t110 =>
  ixK 6 t105 (nth vs_4 0) fun t111 =>
  faK 0 t111 fun t112 =>
  st1K t112 t110 (fun w26 =>
  addK .i64 (nth vs_4 0) (.int .i64 1) fun t113 =>
  again_3 [t113] w26) w25) w24) w23)
  (addK .i64 (nth vs_1 0) (.int .i64 1) fun t114 =>
  again [t114] w23)) w22) w18)) w17) w13)) w12) w11)
  (callK Try.prog 36 [t25, v1] (fun t117 w27 =>
  condK t117
  (callK Try.prog 35 [] (fun t119 w28 =>
  K t119 w28) w27)
  (K (.bool false) w27)) w11)) w10) (fun J =>
  callK Try.prog 37 [v1] (fun t30 w29 =>
  callK Try.prog 36 [t27, t30] (fun t31 w30 =>
  notK t31 fun t32 =>
  condK t32
  (K (.bool false) w30)
  (callK Try.prog 34 [t25] (fun t35 w31 =>
  callK Try.prog 38 [v1] (fun t37 w32 =>
  bneK t35 t37 fun t38 =>
  condK t38
  (K (.bool false) w32)
  (callK Try.prog 34 [t27] (fun t42 w33 =>
  notK t42 fun t43 =>
  condK t43
  (K (.bool false) w33)
  (J [] w33)) w32)) w31) w30)) w29) w9)) w8) w1)) w
theorem S8_eq (v0 v1 : Value) (K : Cont) (w : World) : S8 v0 v1 K w = D Try.prog okf 121 (bodyOf Try.f8) (.node [] [] .nil (.node [] [] (.node [] [] .nil (.node [] [] (.node [] [] (.node [] [] .nil (.node [] [] (.node [] [] .nil .nil) .nil)) (.node [] [] .nil .nil)) .nil)) (.node [] [] .nil (.node [] [] .nil (.cut [] [(4, 4), (28, 44)] (.node [] [] .nil (.node [] [] (.node [] [] .nil .nil) .nil)) (.node [] [] (.node [] [] .nil (.node [47] [(7, 10), (47, 114)] (.node [] [] .nil (.node [] [] (.node [] [] .nil .nil) (.node [] [] (.node [] [] .nil (.node [] [] (.node [] [] .nil (.node [56] [(8, 8), (56, 69)] (.node [] [] .nil (.node [] [] (.node [] [] .nil .nil) (.node [] [] (.node [] [] .nil .nil) .nil))) .nil)) (.node [] [] (.node [] [] .nil (.node [76] [(9, 9), (76, 91)] (.node [] [] .nil (.node [] [] (.node [] [] .nil .nil) (.node [] [] (.node [] [] .nil .nil) .nil))) .nil)) (.node [] [] .nil (.node [98] [(10, 10), (98, 113)] (.node [] [] .nil (.node [] [] (.node [] [] .nil .nil) (.node [] [] (.node [] [] .nil .nil) .nil))) .nil))))) .nil))) .nil)) (.node [] [] .nil .nil))))))) (retK Try.prog [.tmp 4] K) (nth [v0, v1]) w := by kernel_rfl
theorem S8_ok {v0 v1 : Value} {K : Cont} {w : World} (h : S8 v0 v1 K w) : callK Try.prog 8 [v0, v1] K w :=
  callK_of (P := Try.prog) (ok := okf) (n := 121) (fn := Try.f8) (c := bodyOf Try.f8) (rs := [.tmp 4]) (an := (.node [] [] .nil (.node [] [] (.node [] [] .nil (.node [] [] (.node [] [] (.node [] [] .nil (.node [] [] (.node [] [] .nil .nil) .nil)) (.node [] [] .nil .nil)) .nil)) (.node [] [] .nil (.node [] [] .nil (.cut [] [(4, 4), (28, 44)] (.node [] [] .nil (.node [] [] (.node [] [] .nil .nil) .nil)) (.node [] [] (.node [] [] .nil (.node [47] [(7, 10), (47, 114)] (.node [] [] .nil (.node [] [] (.node [] [] .nil .nil) (.node [] [] (.node [] [] .nil (.node [] [] (.node [] [] .nil (.node [56] [(8, 8), (56, 69)] (.node [] [] .nil (.node [] [] (.node [] [] .nil .nil) (.node [] [] (.node [] [] .nil .nil) .nil))) .nil)) (.node [] [] (.node [] [] .nil (.node [76] [(9, 9), (76, 91)] (.node [] [] .nil (.node [] [] (.node [] [] .nil .nil) (.node [] [] (.node [] [] .nil .nil) .nil))) .nil)) (.node [] [] .nil (.node [98] [(10, 10), (98, 113)] (.node [] [] .nil (.node [] [] (.node [] [] .nil .nil) (.node [] [] (.node [] [] .nil .nil) .nil))) .nil))))) .nil))) .nil)) (.node [] [] .nil .nil)))))))) good mixed Try.func8 (by kernel_rfl) (by kernel_rfl) (by kernel_rfl) (by kernel_rfl) (Eq.mp (S8_eq v0 v1 K w) h)

/-- rubric/rubriclaw16.NormalMakes -/
def S9 (v0 v1 : Value) (K : Cont) (w : World) : Prop :=
  JoinK (fun _vs w1 => ∀ _h : Env,
  callK Try.prog 39 [] (fun t28 w2 =>
  newK 65 [(.slice none 0 0), (.slice none 0 0), (.int .i64 0)] (fun t6 w3 =>
  lenK v1 fun t30 =>
  LoopK [(.int .i64 0)] (fun vs_1 again w4 => ∀ _h_1 : Env,
  ltK .i64 (nth vs_1 0) t30 fun t32 =>
  condK t32
  (addK .i64 (nth vs_1 0) (.int .i64 1) fun t37 =>
  runK Try.prog (Instr.sliceAt 50 v1 (some (nth vs_1 0)) (some t37) none) (fun t38 w5 =>
  callK Try.prog 33 [t38] (fun t39 w6 =>
  ixK 5 t39 (.int .i64 0) fun t40 =>
  ldnK 5 t40 (fun t41 w7 =>
  newK 59 [(.int .u8 0), (.int .i64 0), (.slice none 0 0), (.slice none 0 0), (.slice none 0 0)] (fun t9 w8 =>
  stnK 5 t9 t41 (fun w9 =>
  JoinK (fun _vs_2 w10 => ∀ _h_2 : Env,
  callK Try.prog 40 [t28, (.int .i64 0), (.slice none 0 0)] (fun _t129 w11 =>
  callK Try.prog 41 [t28, (.slice none 0 0), (.slice none 0 0)] (fun _t131 w12 =>
  callK Try.prog 42 [t28, (.int .i64 (-1))] (fun _t133 w13 =>
  callK Try.prog 43 [t28] (fun t135 w14 =>
  JoinK (fun _vs_3 w15 => ∀ _h_3 : Env,
  lenK t135 fun t157 =>
  LoopK [(.int .i64 0)] (fun vs_4 again_1 w16 => ∀ _h_4 : Env,
  ltK .i64 (nth vs_4 0) t157 fun t159 =>
  condK t159
  (ixK 5 t135 (nth vs_4 0) fun t163 =>
  faK 2 t163 fun t164 =>
  ld1K t164 (fun t165 w17 =>
  lenK t165 fun t166 =>
  LoopK [(.int .i64 0)] (fun vs_5 again_2 w18 => ∀ _h_5 : Env,
  ltK .i64 (nth vs_5 0) t166 fun t168 =>
  condK t168
  (ixK 5 t135 (nth vs_4 0) fun t172 =>
  faK 2 t172 fun t173 =>
  ld1K t173 (fun t174 w19 =>
  ixK 1 t174 (nth vs_5 0) fun t176 =>
  ld1K t176 (fun t177 w20 =>
  addK .i32 t177 (.int .i32 1) fun t178 =>
  ixK 1 t174 (nth vs_5 0) fun t179 =>
  st1K t179 t178 (fun w21 =>
  addK .i64 (nth vs_5 0) (.int .i64 1) fun t180 =>
  again_2 [t180] w21) w20) w19) w18)
  (ixK 5 t135 (nth vs_4 0) fun t183 =>
  faK 4 t183 fun t184 =>
  ld1K t184 (fun t185 w22 =>
  lenK t185 fun t186 =>
  LoopK [(.int .i64 0)] (fun vs_6 again_3 w23 => ∀ _h_6 : Env,
  ltK .i64 (nth vs_6 0) t186 fun t188 =>
  condK t188
  (ixK 5 t135 (nth vs_4 0) fun t192 =>
  faK 4 t192 fun t193 =>
  ld1K t193 (fun t194 w24 =>
  ixK 6 t194 (nth vs_6 0) fun t196 =>
  faK 0 t196 fun t197 =>
  ld1K t197 (fun t198 w25 =>
  addK .i64 t198 (.int .i64 1) fun t199 =>
  ixK 6 t194 (nth vs_6 0) fun t200 =>
  faK 0 t200 fun t201 =>
  st1K t201 t199 (fun w26 =>
  addK .i64 (nth vs_6 0) (.int .i64 1) fun t202 =>
  again_3 [t202] w26) w25) w24) w23)
  (ixK 5 t135 (nth vs_4 0) fun t205 =>
  faK 3 t205 fun t206 =>
  ld1K t206 (fun t207 w27 =>
  lenK t207 fun t208 =>
  LoopK [(.int .i64 0)] (fun vs_7 again_4 w28 => ∀ _h_7 : Env,
  ltK .i64 (nth vs_7 0) t208 fun t210 =>
  condK t210
  (ixK 5 t135 (nth vs_4 0) fun t214 =>
  faK 3 t214 fun t215 =>
  ld1K t215 (fun t216 w29 =>
  ixK 5 t216 (nth vs_7 0) fun t218 =>
  faK 0 t218 fun t219 =>
  ld1K t219 (fun t220 w30 =>
  addK .i64 t220 (.int .i64 1) fun t221 =>
  ixK 5 t216 (nth vs_7 0) fun t222 =>
  faK 0 t222 fun t223 =>
  st1K t223 t221 (fun w31 =>
  addK .i64 (nth vs_7 0) (.int .i64 1) fun t224 =>
  again_4 [t224] w31) w30) w29) w28)
  (ixK 5 t135 (nth vs_4 0) fun t227 =>
  faK 1 t227 fun t228 =>
  ld1K t228 (fun t229 w32 =>
  addK .i64 t229 (.int .i64 1) fun t230 =>
  ixK 5 t135 (nth vs_4 0) fun t231 =>
  faK 1 t231 fun t232 =>
  st1K t232 t230 (fun w33 =>
  addK .i64 (nth vs_4 0) (.int .i64 1) fun t233 =>
  again_1 [t233] w33) w32) w28)) w27) w23)) w22) w18)) w17) w16)
  (addK .i64 (nth vs_1 0) (.int .i64 1) fun t234 =>
  again [t234] w16)) w15) (fun J_2 =>
  addK .i64 (nth vs_1 0) (.int .i64 1) fun t139 =>
  runK Try.prog (Instr.sliceAt 50 v1 none (some t139) none) (fun t140 w34 =>
  callK Try.prog 37 [t140] (fun t141 w35 =>
  callK Try.prog 36 [t135, t141] (fun t142 w36 =>
  notK t142 fun t143 =>
  condK t143
  (K (.bool false) w36)
  (callK Try.prog 43 [t6] (fun t145 w37 =>
  callK Try.prog 36 [t145, t135] (fun t147 w38 =>
  notK t147 fun t148 =>
  condK t148
  (K (.bool false) w38)
  (callK Try.prog 43 [(.pointer none)] (fun t152 w39 =>
  lenK t152 fun t153 =>
  neK .i64 t153 (.int .i64 0) fun t154 =>
  condK t154
  (K (.bool false) w39)
  (J_2 [] w39)) w38)) w37) w36)) w35) w34) w14)) w13) w12) w11) w10) (fun J_1 =>
  faK 0 t9 fun t42 =>
  ld1K t42 (fun t43 w40 =>
  eqK .u8 t43 (.int .u8 1) fun t56 =>
  condK t56
  (faK 1 t9 fun t58 =>
  ld1K t58 (fun t59 w41 =>
  faK 4 t9 fun t60 =>
  ld1K t60 (fun t61 w42 =>
  callK Try.prog 40 [t28, t59, t61] (fun _t62 w43 =>
  faK 1 t9 fun t63 =>
  ld1K t63 (fun t64 w44 =>
  faK 4 t9 fun t65 =>
  ld1K t65 (fun t66 w45 =>
  callK Try.prog 40 [t6, t64, t66] (fun _t67 w46 =>
  faK 1 t9 fun t69 =>
  ld1K t69 (fun t70 w47 =>
  faK 4 t9 fun t71 =>
  ld1K t71 (fun t72 w48 =>
  callK Try.prog 40 [(.pointer none), t70, t72] (fun _t73 w49 =>
  faK 4 t9 fun t74 =>
  ld1K t74 (fun t75 w50 =>
  lenK t75 fun t76 =>
  LoopK [(.int .i64 0)] (fun vs_8 again_5 w51 => ∀ _h_8 : Env,
  ltK .i64 (nth vs_8 0) t76 fun t78 =>
  condK t78
  (faK 4 t9 fun t80 =>
  ld1K t80 (fun t81 w52 =>
  ixK 6 t81 (nth vs_8 0) fun t83 =>
  faK 0 t83 fun t84 =>
  st1K t84 (.int .i64 (-1)) (fun w53 =>
  addK .i64 (nth vs_8 0) (.int .i64 1) fun t85 =>
  again_5 [t85] w53) w52) w51)
  (J_1 [] w51)) w50) w49) w48) w47) w46) w45) w44) w43) w42) w41) w40)
  (eqK .u8 t43 (.int .u8 2) fun t87 =>
  condK t87
  (faK 2 t9 fun t89 =>
  ld1K t89 (fun t90 w54 =>
  faK 3 t9 fun t91 =>
  ld1K t91 (fun t92 w55 =>
  callK Try.prog 41 [t28, t90, t92] (fun _t93 w56 =>
  faK 2 t9 fun t94 =>
  ld1K t94 (fun t95 w57 =>
  faK 3 t9 fun t96 =>
  ld1K t96 (fun t97 w58 =>
  callK Try.prog 41 [t6, t95, t97] (fun _t98 w59 =>
  faK 2 t9 fun t100 =>
  ld1K t100 (fun t101 w60 =>
  faK 3 t9 fun t102 =>
  ld1K t102 (fun t103 w61 =>
  callK Try.prog 41 [(.pointer none), t101, t103] (fun _t104 w62 =>
  faK 2 t9 fun t105 =>
  ld1K t105 (fun t106 w63 =>
  lenK t106 fun t107 =>
  LoopK [(.int .i64 0)] (fun vs_9 again_6 w64 => ∀ _h_9 : Env,
  ltK .i64 (nth vs_9 0) t107 fun t109 =>
  condK t109
  (faK 2 t9 fun t111 =>
  ld1K t111 (fun t112 w65 =>
  ixK 1 t112 (nth vs_9 0) fun t114 =>
  st1K t114 (.int .i32 (-1)) (fun w66 =>
  addK .i64 (nth vs_9 0) (.int .i64 1) fun t115 =>
  again_6 [t115] w66) w65) w64)
  (faK 3 t9 fun t116 =>
  ld1K t116 (fun t117 w67 =>
  lenK t117 fun t118 =>
  LoopK [(.int .i64 0)] (fun vs_10 again_7 w68 => ∀ _h_10 : Env,
  ltK .i64 (nth vs_10 0) t118 fun t120 =>
  condK t120
  (faK 3 t9 fun t122 =>
  ld1K t122 (fun t123 w69 =>
  ixK 5 t123 (nth vs_10 0) fun t125 =>
  faK 0 t125 fun t126 =>
  st1K t126 (.int .i64 (-1)) (fun w70 =>
  addK .i64 (nth vs_10 0) (.int .i64 1) fun t127 =>
  again_7 [t127] w70) w69) w68)
  (J_1 [] w68)) w67) w64)) w63) w62) w61) w60) w59) w58) w57) w56) w55) w54) w40)
  (faK 1 t9 fun t45 =>
  ld1K t45 (fun t46 w71 =>
  callK Try.prog 42 [t28, t46] (fun _t47 w72 =>
  faK 1 t9 fun t48 =>
  ld1K t48 (fun t49 w73 =>
  callK Try.prog 42 [t6, t49] (fun _t50 w74 =>
  faK 1 t9 fun t52 =>
  ld1K t52 (fun t53 w75 =>
  callK Try.prog 42 [(.pointer none), t53] (fun _t54 w76 =>
  J_1 [] w76) w75) w74) w73) w72) w71) w40))) w9)) w8) w7) w6) w5) w4)
  (callK Try.prog 43 [t28] (fun t236 w77 =>
  callK Try.prog 37 [v1] (fun t238 w78 =>
  callK Try.prog 36 [t236, t238] (fun t239 w79 =>
  condK t239
  (callK Try.prog 35 [] (fun t241 w80 =>
  K t241 w80) w79)
  (K (.bool false) w79)) w78) w77) w4)) w3) w2) w1) (fun J =>
  callK Try.prog 30 [v0, v1] (fun t20 w81 =>
  notK t20 fun t21 =>
  condK t21
  (callK Try.prog 35 [] (fun t27 w82 =>
  K t27 w82) w81)
  (lenK v1 fun t24 =>
  gtK .i64 t24 (.int .i64 60) fun t25 =>
  condK t25
  (callK Try.prog 35 [] (fun t27_1 w83 =>
  K t27_1 w83) w81)
  (J [] w81))) w)
theorem S9_eq (v0 v1 : Value) (K : Cont) (w : World) : S9 v0 v1 K w = D Try.prog okf 243 (bodyOf Try.f9) (.node [] [] .nil (.cut [] [(4, 4), (18, 27)] (.node [] [] .nil (.node [] [] (.node [] [] .nil .nil) .nil)) (.node [] [] .nil (.node [] [] .nil (.node [] [] .nil (.node [] [] (.node [] [] .nil (.node [31] [(4, 4), (8, 17), (31, 234)] (.node [] [] .nil (.node [] [] (.node [] [] .nil .nil) (.node [] [] (.node [] [] .nil (.node [] [] .nil (.cut [] [(10, 12), (42, 127)] (.node [] [] .nil (.node [] [] .nil (.node [] [] (.node [] [] .nil (.node [] [] .nil (.node [] [] .nil (.node [] [] .nil (.node [77] [(10, 10), (77, 85)] (.node [] [] .nil (.node [] [] (.node [] [] .nil .nil) (.node [] [] (.node [] [] .nil .nil) .nil))) .nil))))) (.node [] [] .nil (.node [] [] (.node [] [] .nil (.node [] [] .nil (.node [] [] .nil (.node [] [] (.node [] [] .nil (.node [108] [(11, 11), (108, 115)] (.node [] [] .nil (.node [] [] (.node [] [] .nil .nil) (.node [] [] (.node [] [] .nil .nil) .nil))) .nil)) (.node [] [] .nil (.node [119] [(12, 12), (119, 127)] (.node [] [] .nil (.node [] [] (.node [] [] .nil .nil) (.node [] [] (.node [] [] .nil .nil) .nil))) .nil)))))) (.node [] [] .nil (.node [] [] .nil .nil))))))) (.node [] [] .nil (.node [] [] .nil (.node [] [] .nil (.node [] [] .nil (.cut [] [(4, 4), (136, 155)] (.node [] [] .nil (.node [] [] (.node [] [] .nil .nil) .nil)) (.node [] [] .nil (.node [158] [(14, 17), (158, 233)] (.node [] [] .nil (.node [] [] (.node [] [] .nil .nil) (.node [] [] (.node [] [] .nil (.node [] [] (.node [] [] .nil (.node [167] [(15, 15), (167, 180)] (.node [] [] .nil (.node [] [] (.node [] [] .nil .nil) (.node [] [] (.node [] [] .nil .nil) .nil))) .nil)) (.node [] [] (.node [] [] .nil (.node [187] [(16, 16), (187, 202)] (.node [] [] .nil (.node [] [] (.node [] [] .nil .nil) (.node [] [] (.node [] [] .nil .nil) .nil))) .nil)) (.node [] [] (.node [] [] .nil (.node [209] [(17, 17), (209, 224)] (.node [] [] .nil (.node [] [] (.node [] [] .nil .nil) (.node [] [] (.node [] [] .nil .nil) .nil))) .nil)) .nil)))) .nil))) .nil)))))))))) .nil))) .nil)) (.node [] [] .nil .nil))))))) (retK Try.prog [.tmp 4] K) (nth [v0, v1]) w := by kernel_rfl
theorem S9_ok {v0 v1 : Value} {K : Cont} {w : World} (h : S9 v0 v1 K w) : callK Try.prog 9 [v0, v1] K w :=
  callK_of (P := Try.prog) (ok := okf) (n := 243) (fn := Try.f9) (c := bodyOf Try.f9) (rs := [.tmp 4]) (an := (.node [] [] .nil (.cut [] [(4, 4), (18, 27)] (.node [] [] .nil (.node [] [] (.node [] [] .nil .nil) .nil)) (.node [] [] .nil (.node [] [] .nil (.node [] [] .nil (.node [] [] (.node [] [] .nil (.node [31] [(4, 4), (8, 17), (31, 234)] (.node [] [] .nil (.node [] [] (.node [] [] .nil .nil) (.node [] [] (.node [] [] .nil (.node [] [] .nil (.cut [] [(10, 12), (42, 127)] (.node [] [] .nil (.node [] [] .nil (.node [] [] (.node [] [] .nil (.node [] [] .nil (.node [] [] .nil (.node [] [] .nil (.node [77] [(10, 10), (77, 85)] (.node [] [] .nil (.node [] [] (.node [] [] .nil .nil) (.node [] [] (.node [] [] .nil .nil) .nil))) .nil))))) (.node [] [] .nil (.node [] [] (.node [] [] .nil (.node [] [] .nil (.node [] [] .nil (.node [] [] (.node [] [] .nil (.node [108] [(11, 11), (108, 115)] (.node [] [] .nil (.node [] [] (.node [] [] .nil .nil) (.node [] [] (.node [] [] .nil .nil) .nil))) .nil)) (.node [] [] .nil (.node [119] [(12, 12), (119, 127)] (.node [] [] .nil (.node [] [] (.node [] [] .nil .nil) (.node [] [] (.node [] [] .nil .nil) .nil))) .nil)))))) (.node [] [] .nil (.node [] [] .nil .nil))))))) (.node [] [] .nil (.node [] [] .nil (.node [] [] .nil (.node [] [] .nil (.cut [] [(4, 4), (136, 155)] (.node [] [] .nil (.node [] [] (.node [] [] .nil .nil) .nil)) (.node [] [] .nil (.node [158] [(14, 17), (158, 233)] (.node [] [] .nil (.node [] [] (.node [] [] .nil .nil) (.node [] [] (.node [] [] .nil (.node [] [] (.node [] [] .nil (.node [167] [(15, 15), (167, 180)] (.node [] [] .nil (.node [] [] (.node [] [] .nil .nil) (.node [] [] (.node [] [] .nil .nil) .nil))) .nil)) (.node [] [] (.node [] [] .nil (.node [187] [(16, 16), (187, 202)] (.node [] [] .nil (.node [] [] (.node [] [] .nil .nil) (.node [] [] (.node [] [] .nil .nil) .nil))) .nil)) (.node [] [] (.node [] [] .nil (.node [209] [(17, 17), (209, 224)] (.node [] [] .nil (.node [] [] (.node [] [] .nil .nil) (.node [] [] (.node [] [] .nil .nil) .nil))) .nil)) .nil)))) .nil))) .nil)))))))))) .nil))) .nil)) (.node [] [] .nil .nil)))))))) good mixed Try.func9 (by kernel_rfl) (by kernel_rfl) (by kernel_rfl) (by kernel_rfl) (Eq.mp (S9_eq v0 v1 K w) h)

/-- rubric/rubriclaw16.NormalTwice -/
def S10 (v0 v1 : Value) (K : Cont) (w : World) : Prop :=
  callK Try.prog 30 [v0, v1] (fun t10 w1 =>
  notK t10 fun t11 =>
  condK t11
  (callK Try.prog 35 [] (fun t12 w2 =>
  K t12 w2) w1)
  (callK Try.prog 32 [v1] (fun t14 w3 =>
  lenK t14 fun t16 =>
  LoopK [(.int .i64 0)] (fun vs again w4 => ∀ _h : Env,
  ltK .i64 (nth vs 0) t16 fun t18 =>
  condK t18
  (JoinK (fun _vs_1 w5 => ∀ _h_1 : Env,
  addK .i64 (nth vs 0) (.int .i64 1) fun t56 =>
  again [t56] w5) (fun J =>
  gtK .i64 (nth vs 0) (.int .i64 0) fun t21 =>
  condK t21
  (subK .i64 (nth vs 0) (.int .i64 1) fun t25 =>
  ixK 5 t14 t25 fun t26 =>
  faK 0 t26 fun t27 =>
  ld1K t27 (fun t28 w6 =>
  eqK .u8 t28 (.int .u8 3) fun t29 =>
  condK t29
  (ixK 5 t14 (nth vs 0) fun t33 =>
  faK 0 t33 fun t34 =>
  ld1K t34 (fun t35 w7 =>
  neK .u8 t35 (.int .u8 1) fun t36 =>
  condK t36
  (K (.bool false) w7)
  (subK .i64 (nth vs 0) (.int .i64 1) fun t41 =>
  ixK 5 t14 t41 fun t42 =>
  faK 0 t42 fun t43 =>
  ld1K t43 (fun t44 w8 =>
  eqK .u8 t44 (.int .u8 3) fun t45 =>
  condK t45
  (ixK 5 t14 (nth vs 0) fun t49 =>
  faK 0 t49 fun t50 =>
  ld1K t50 (fun t51 w9 =>
  eqK .u8 t51 (.int .u8 3) fun t52 =>
  condK t52
  (K (.bool false) w9)
  (J [] w9)) w8)
  (J [] w8)) w7)) w6)
  (subK .i64 (nth vs 0) (.int .i64 1) fun t41_1 =>
  ixK 5 t14 t41_1 fun t42_1 =>
  faK 0 t42_1 fun t43_1 =>
  ld1K t43_1 (fun t44_1 w10 =>
  eqK .u8 t44_1 (.int .u8 3) fun t45_1 =>
  condK t45_1
  (ixK 5 t14 (nth vs 0) fun t49_1 =>
  faK 0 t49_1 fun t50_1 =>
  ld1K t50_1 (fun t51_1 w11 =>
  eqK .u8 t51_1 (.int .u8 3) fun t52_1 =>
  condK t52_1
  (K (.bool false) w11)
  (J [] w11)) w10)
  (J [] w10)) w6)) w4)
  (J [] w4)))
  (JoinK (fun _vs_2 w12 => ∀ _h_2 : Env,
  callK Try.prog 32 [t14] (fun t80 w13 =>
  callK Try.prog 44 [t80, t14] (fun t82 w14 =>
  condK t82
  (callK Try.prog 35 [] (fun t84 w15 =>
  K t84 w15) w14)
  (K (.bool false) w14)) w13) w12) (fun J_1 =>
  lenK t14 fun t58 =>
  subK .i64 t58 (.int .i64 1) fun t59 =>
  geK .i64 t59 (.int .i64 0) fun t61 =>
  condK t61
  (ixK 5 t14 t59 fun t65 =>
  faK 0 t65 fun t66 =>
  ld1K t66 (fun t67 w16 =>
  eqK .u8 t67 (.int .u8 1) fun t68 =>
  condK t68
  (ixK 5 t14 t59 fun t73 =>
  faK 4 t73 fun t74 =>
  ld1K t74 (fun t75 w17 =>
  lenK t75 fun t76 =>
  eqK .i64 t76 (.int .i64 0) fun t77 =>
  condK t77
  (K (.bool false) w17)
  (J_1 [] w17)) w16)
  (J_1 [] w16)) w4)
  (J_1 [] w4)))) w3) w1)) w
theorem S10_eq (v0 v1 : Value) (K : Cont) (w : World) : S10 v0 v1 K w = D Try.prog okf 86 (bodyOf Try.f10) (.node [] [] .nil (.node [] [] (.node [] [] .nil (.node [] [] (.node [] [] .nil .nil) .nil)) (.node [] [] .nil (.node [] [] (.node [] [] .nil (.node [17] [(4, 4), (6, 6), (17, 56)] (.node [] [] .nil (.node [] [] (.node [] [] .nil .nil) (.cut [] [(4, 4), (6, 6), (19, 55)] (.node [] [] .nil (.node [] [] .nil (.node [] [] (.node [] [] .nil .nil) .nil))) .nil))) .nil)) (.cut [] [(4, 4), (7, 7), (57, 78)] (.node [] [] .nil (.node [] [] .nil (.node [] [] (.node [] [] .nil .nil) .nil))) (.node [] [] .nil .nil)))))) (retK Try.prog [.tmp 4] K) (nth [v0, v1]) w := by kernel_rfl
theorem S10_ok {v0 v1 : Value} {K : Cont} {w : World} (h : S10 v0 v1 K w) : callK Try.prog 10 [v0, v1] K w :=
  callK_of (P := Try.prog) (ok := okf) (n := 86) (fn := Try.f10) (c := bodyOf Try.f10) (rs := [.tmp 4]) (an := (.node [] [] .nil (.node [] [] (.node [] [] .nil (.node [] [] (.node [] [] .nil .nil) .nil)) (.node [] [] .nil (.node [] [] (.node [] [] .nil (.node [17] [(4, 4), (6, 6), (17, 56)] (.node [] [] .nil (.node [] [] (.node [] [] .nil .nil) (.cut [] [(4, 4), (6, 6), (19, 55)] (.node [] [] .nil (.node [] [] .nil (.node [] [] (.node [] [] .nil .nil) .nil))) .nil))) .nil)) (.cut [] [(4, 4), (7, 7), (57, 78)] (.node [] [] .nil (.node [] [] .nil (.node [] [] (.node [] [] .nil .nil) .nil))) (.node [] [] .nil .nil))))))) good mixed Try.func10 (by kernel_rfl) (by kernel_rfl) (by kernel_rfl) (by kernel_rfl) (Eq.mp (S10_eq v0 v1 K w) h)

/-- rubric/rubriclaw16.NormalMany -/
def S11 (v0 v1 v2 : Value) (K : Cont) (w : World) : Prop :=
  box1K 4 v2 (fun t5 w1 =>
  JoinK (fun _vs w2 => ∀ _h : Env,
  newK 50 [(.slice none 0 0)] (fun t7 w3 =>
  newK 50 [(.slice none 0 0)] (fun t8 w4 =>
  newK 3 [(.int .i64 0)] (fun t9 w5 =>
  st1K t9 (.int .i64 0) (fun w6 =>
  lenK v1 fun t25 =>
  LoopK [(.int .i64 0)] (fun vs_1 again w7 => ∀ _h_1 : Env,
  ltK .i64 (nth vs_1 0) t25 fun t27 =>
  condK t27
  (ixK 5 v1 (nth vs_1 0) fun t31 =>
  faK 0 t31 fun t32 =>
  ld1K t32 (fun t33 w8 =>
  eqK .u8 t33 (.int .u8 1) fun t42 =>
  condK t42
  (callyK Try.prog okf (.func (.func 45) #[] #[t9, t5, t7, t8]) [] (fun _t44 w9 =>
  ixK 5 v1 (nth vs_1 0) fun t47 =>
  ldnK 5 t47 (fun t48 w10 =>
  newK 59 [(.int .u8 0), (.int .i64 0), (.slice none 0 0), (.slice none 0 0), (.slice none 0 0)] (fun t12 w11 =>
  stnK 5 t12 t48 (fun w12 =>
  JoinK (fun _vs_2 w13 => ∀ _h_2 : Env,
  ld1K t7 (fun t55 w14 =>
  ldnK 5 t12 (fun t56 w15 =>
  rowK 59 5 1 [(.int .u8 0), (.int .i64 0), (.slice none 0 0), (.slice none 0 0), (.slice none 0 0)] [(0, t56)] (fun t57 w16 =>
  runK Try.prog (Builtin.append_ #[50, 50] 50 [t55, t57].toArray) (fun t58 w17 =>
  st1K t7 t58 (fun w18 =>
  addK .i64 (nth vs_1 0) (.int .i64 1) fun t68 =>
  again [t68] w18) w17) w16) w15) w14) w13) (fun J_1 =>
  faK 4 t12 fun t49 =>
  ld1K t49 (fun t50 w19 =>
  lenK t50 fun t51 =>
  eqK .i64 t51 (.int .i64 0) fun t52 =>
  condK t52
  (rowK 61 6 0 [] [] (fun t53 w20 =>
  faK 4 t12 fun t54 =>
  st1K t54 t53 (fun w21 =>
  J_1 [] w21) w20) w19)
  (J_1 [] w19)) w12)) w11) w10) w9) w8)
  (eqK .u8 t33 (.int .u8 2) fun t60 =>
  condK t60
  (DrawC [5, 6, 7] [[], [], [], [1, 2], [1, 2, 3], [1, 2, 3, 4], [0, 1, 2, 3, 4, 5], [0, 1, 2, 3, 4, 5, 6]] w8.drew (fun M St =>
  sld1 (St 0) t8 fun t61 =>
  ixK 5 v1 (nth vs_1 0) fun t64 =>
  sldn (St 4) 5 t64 fun t65 =>
  rowK 59 5 1 [(.int .u8 0), (.int .i64 0), (.slice none 0 0), (.slice none 0 0), (.slice none 0 0)] [(0, t65)] (fun t66 w22 =>
  Mod (M 5) w8.drew w22 ∧
  runK Try.prog (Builtin.append_ #[50, 50] 50 [t61, t66].toArray) (fun t67 w23 =>
  Mod (M 6) w22 w23 ∧
  st1K t8 t67 (fun w24 =>
  Mod (M 7) w23 w24 ∧
  addK .i64 (nth vs_1 0) (.int .i64 1) fun t68_1 =>
  again [t68_1] w24) w23) w22) w8.drew))
  (DrawC [7] [[], [], [], [1, 2], [1, 2, 3], [1, 2, 3, 4], [0, 1, 2, 3, 4, 5], [0, 1, 2, 3, 4, 5, 6]] w8.drew (fun M_1 St_1 =>
  sld1 (St_1 0) t9 fun t34 =>
  ixK 5 v1 (nth vs_1 0) fun t37 =>
  faK 1 t37 fun t38 =>
  sld1 (St_1 5) t38 fun t39 =>
  addK .i64 t34 t39 fun t40 =>
  st1K t9 t40 (fun w25 =>
  Mod (M_1 7) w8.drew w25 ∧
  addK .i64 (nth vs_1 0) (.int .i64 1) fun t68_2 =>
  again [t68_2] w25) w8.drew)))) w7)
  (callyK Try.prog okf (.func (.func 45) #[] #[t9, t5, t7, t8]) [] (fun _t70 w26 =>
  ld1K t7 (fun t71 w27 =>
  callK Try.prog 32 [t71] (fun t72 w28 =>
  callK Try.prog 32 [v1] (fun t74 w29 =>
  callK Try.prog 44 [t72, t74] (fun t75 w30 =>
  condK t75
  (callK Try.prog 35 [] (fun t77 w31 =>
  K t77 w31) w30)
  (K (.bool false) w30)) w29) w28) w27) w26) w7)) w6) w5) w4) w3) w2) (fun J =>
  callK Try.prog 30 [v0, v1] (fun t15 w32 =>
  notK t15 fun t16 =>
  condK t16
  (callK Try.prog 35 [] (fun t22 w33 =>
  K t22 w33) w32)
  (lenK v1 fun t19 =>
  gtK .i64 t19 (.int .i64 40) fun t20 =>
  condK t20
  (callK Try.prog 35 [] (fun t22_1 w34 =>
  K t22_1 w34) w32)
  (J [] w32))) w1)) w
theorem S11_eq (v0 v1 v2 : Value) (K : Cont) (w : World) : S11 v0 v1 v2 K w = D Try.prog okf 79 (bodyOf Try.f11) (.node [] [] .nil (.cut [] [(6, 6), (13, 22)] (.node [] [] .nil (.node [] [] (.node [] [] .nil .nil) .nil)) (.node [] [] .nil (.node [] [] .nil (.node [] [] .nil (.node [] [] (.node [] [] .nil (.node [26] [(11, 12), (26, 68)] (.node [] [] .nil (.node [] [] (.node [] [] .nil .nil) (.node [] [] (.node [] [] .nil (.node [] [] .nil (.node [] [] .nil (.node [] [] (.node [] [] .nil (.node [] [] .nil (.cut [] [(49, 54)] (.node [] [] .nil (.node [] [] .nil .nil)) .nil))) (.node [] [] .nil (.node [] [] (.dc [5, 6, 7] [[], [], [], [1, 2], [1, 2, 3], [1, 2, 3, 4], [0, 1, 2, 3, 4, 5], [0, 1, 2, 3, 4, 5, 6]] []) (.dc [7] [[], [], [], [1, 2], [1, 2, 3], [1, 2, 3, 4], [0, 1, 2, 3, 4, 5], [0, 1, 2, 3, 4, 5, 6]] []))))))) .nil))) .nil)) (.node [] [] .nil (.node [] [] .nil .nil)))))))) (retK Try.prog [.tmp 6] K) (nth [v0, v1, v2]) w := by kernel_rfl
theorem S11_ok {v0 v1 v2 : Value} {K : Cont} {w : World} (h : S11 v0 v1 v2 K w) : callK Try.prog 11 [v0, v1, v2] K w :=
  callK_of (P := Try.prog) (ok := okf) (n := 79) (fn := Try.f11) (c := bodyOf Try.f11) (rs := [.tmp 6]) (an := (.node [] [] .nil (.cut [] [(6, 6), (13, 22)] (.node [] [] .nil (.node [] [] (.node [] [] .nil .nil) .nil)) (.node [] [] .nil (.node [] [] .nil (.node [] [] .nil (.node [] [] (.node [] [] .nil (.node [26] [(11, 12), (26, 68)] (.node [] [] .nil (.node [] [] (.node [] [] .nil .nil) (.node [] [] (.node [] [] .nil (.node [] [] .nil (.node [] [] .nil (.node [] [] (.node [] [] .nil (.node [] [] .nil (.cut [] [(49, 54)] (.node [] [] .nil (.node [] [] .nil .nil)) .nil))) (.node [] [] .nil (.node [] [] (.dc [5, 6, 7] [[], [], [], [1, 2], [1, 2, 3], [1, 2, 3, 4], [0, 1, 2, 3, 4, 5], [0, 1, 2, 3, 4, 5, 6]] []) (.dc [7] [[], [], [], [1, 2], [1, 2, 3], [1, 2, 3, 4], [0, 1, 2, 3, 4, 5], [0, 1, 2, 3, 4, 5, 6]] []))))))) .nil))) .nil)) (.node [] [] .nil (.node [] [] .nil .nil))))))))) good mixed Try.func11 (by kernel_rfl) (by kernel_rfl) (by kernel_rfl) (by kernel_rfl) (Eq.mp (S11_eq v0 v1 v2 K w) h)

/-- rubric/rubriclaw16.NormalShort -/
def S12 (v0 v1 : Value) (K : Cont) (w : World) : Prop :=
  callK Try.prog 30 [v0, v1] (fun t14 w1 =>
  notK t14 fun t15 =>
  condK t15
  (callK Try.prog 35 [] (fun t16 w2 =>
  K t16 w2) w1)
  (callK Try.prog 32 [v1] (fun t18 w3 =>
  lenK v1 fun t20 =>
  LoopK [(.int .i64 0), (.int .i64 0), (.int .i64 0)] (fun vs again w4 => ∀ _h : Env,
  ltK .i64 (nth vs 2) t20 fun t22 =>
  condK t22
  (ixK 5 v1 (nth vs 2) fun t27 =>
  faK 2 t27 fun t28 =>
  ld1K t28 (fun t29 w5 =>
  lenK t29 fun t30 =>
  addK .i64 (nth vs 0) t30 fun t31 =>
  ixK 5 v1 (nth vs 2) fun t34 =>
  faK 0 t34 fun t35 =>
  ld1K t35 (fun t36 w6 =>
  eqK .u8 t36 (.int .u8 3) fun t37 =>
  condK t37
  (ixK 5 v1 (nth vs 2) fun t41 =>
  faK 1 t41 fun t42 =>
  ld1K t42 (fun t43 w7 =>
  addK .i64 (nth vs 1) t43 fun t44 =>
  addK .i64 (nth vs 2) (.int .i64 1) fun t45 =>
  again [t31, t44, t45] w7) w6)
  (addK .i64 (nth vs 2) (.int .i64 1) fun t45_1 =>
  again [t31, (nth vs 1), t45_1] w6)) w5) w4)
  (lenK t18 fun t47 =>
  LoopK [(.int .i64 0), (.int .i64 0), (.int .i64 0)] (fun vs_1 again_1 w8 => ∀ _h_1 : Env,
  ltK .i64 (nth vs_1 2) t47 fun t49 =>
  condK t49
  (ixK 5 t18 (nth vs_1 2) fun t54 =>
  faK 2 t54 fun t55 =>
  ld1K t55 (fun t56 w9 =>
  lenK t56 fun t57 =>
  addK .i64 (nth vs_1 0) t57 fun t58 =>
  ixK 5 t18 (nth vs_1 2) fun t61 =>
  faK 0 t61 fun t62 =>
  ld1K t62 (fun t63 w10 =>
  eqK .u8 t63 (.int .u8 3) fun t64 =>
  condK t64
  (ixK 5 t18 (nth vs_1 2) fun t68 =>
  faK 1 t68 fun t69 =>
  ld1K t69 (fun t70 w11 =>
  addK .i64 (nth vs_1 1) t70 fun t71 =>
  addK .i64 (nth vs_1 2) (.int .i64 1) fun t72 =>
  again_1 [t58, t71, t72] w11) w10)
  (addK .i64 (nth vs_1 2) (.int .i64 1) fun t72_1 =>
  again_1 [t58, (nth vs_1 1), t72_1] w10)) w9) w8)
  (lenK t18 fun t74 =>
  lenK v1 fun t76 =>
  leK .i64 t74 t76 fun t77 =>
  condK t77
  (eqK .i64 (nth vs 0) (nth vs_1 0) fun t81 =>
  condK t81
  (eqK .i64 (nth vs 1) (nth vs_1 1) fun t86 =>
  condK t86
  (callK Try.prog 34 [v1] (fun t90 w12 =>
  callK Try.prog 44 [t18, v1] (fun t93 w13 =>
  beqK t90 t93 fun t94 =>
  condK t94
  (callK Try.prog 35 [] (fun t97 w14 =>
  K t97 w14) w13)
  (K (.bool false) w13)) w12) w8)
  (K (.bool false) w8))
  (K (.bool false) w8))
  (K (.bool false) w8))) w4)) w3) w1)) w
theorem S12_eq (v0 v1 : Value) (K : Cont) (w : World) : S12 v0 v1 K w = D Try.prog okf 99 (bodyOf Try.f12) (.node [] [] .nil (.node [] [] (.node [] [] .nil (.node [] [] (.node [] [] .nil .nil) .nil)) (.node [] [] .nil (.node [] [] .nil (.node [] [] (.node [] [] .nil (.node [6, 7, 21] [(6, 7), (10, 10), (21, 45)] (.node [] [] .nil (.node [] [] (.node [] [] .nil .nil) (.node [] [] (.node [] [] .nil (.node [] [] .nil (.node [] [] .nil (.node [] [] .nil .nil)))) .nil))) .nil)) (.node [] [] (.node [] [] .nil (.node [8, 9, 48] [(8, 9), (11, 11), (48, 72)] (.node [] [] .nil (.node [] [] (.node [] [] .nil .nil) (.node [] [] (.node [] [] .nil (.node [] [] .nil (.node [] [] .nil (.node [] [] .nil .nil)))) .nil))) .nil)) (.node [] [] .nil .nil))))))) (retK Try.prog [.tmp 4] K) (nth [v0, v1]) w := by kernel_rfl
theorem S12_ok {v0 v1 : Value} {K : Cont} {w : World} (h : S12 v0 v1 K w) : callK Try.prog 12 [v0, v1] K w :=
  callK_of (P := Try.prog) (ok := okf) (n := 99) (fn := Try.f12) (c := bodyOf Try.f12) (rs := [.tmp 4]) (an := (.node [] [] .nil (.node [] [] (.node [] [] .nil (.node [] [] (.node [] [] .nil .nil) .nil)) (.node [] [] .nil (.node [] [] .nil (.node [] [] (.node [] [] .nil (.node [6, 7, 21] [(6, 7), (10, 10), (21, 45)] (.node [] [] .nil (.node [] [] (.node [] [] .nil .nil) (.node [] [] (.node [] [] .nil (.node [] [] .nil (.node [] [] .nil (.node [] [] .nil .nil)))) .nil))) .nil)) (.node [] [] (.node [] [] .nil (.node [8, 9, 48] [(8, 9), (11, 11), (48, 72)] (.node [] [] .nil (.node [] [] (.node [] [] .nil .nil) (.node [] [] (.node [] [] .nil (.node [] [] .nil (.node [] [] .nil (.node [] [] .nil .nil)))) .nil))) .nil)) (.node [] [] .nil .nil)))))))) good mixed Try.func12 (by kernel_rfl) (by kernel_rfl) (by kernel_rfl) (by kernel_rfl) (Eq.mp (S12_eq v0 v1 K w) h)

/-- rubric/rubriclaw16.tame -/
def S30 (v0 v1 : Value) (K : Cont) (w : World) : Prop :=
  JoinK (fun _vs w1 => ∀ _h : Env,
  callK Try.prog 56 [v0] (fun t14 w2 =>
  condK t14
  (callK Try.prog 57 [v0, v1] (fun t18 w3 =>
  eqK .i64 t18 (.int .i64 0) fun t19 =>
  K t19 w3) w2)
  (K (.bool false) w2)) w1) (fun J =>
  lenK v0 fun t6 =>
  gtK .i64 t6 (.int .i64 64) fun t7 =>
  condK t7
  (K (.bool false) w)
  (callK Try.prog 31 [v1] (fun t10 w4 =>
  gtK .i64 t10 (.int .i64 20000) fun t11 =>
  condK t11
  (K (.bool false) w4)
  (J [] w4)) w))
theorem S30_eq (v0 v1 : Value) (K : Cont) (w : World) : S30 v0 v1 K w = D Try.prog okf 21 (bodyOf Try.f30) (.node [] [] .nil (.cut [] [(4, 12)] (.node [] [] .nil (.node [] [] (.node [] [] .nil .nil) .nil)) (.node [] [] .nil .nil))) (retK Try.prog [.tmp 4] K) (nth [v0, v1]) w := by kernel_rfl
theorem S30_ok {v0 v1 : Value} {K : Cont} {w : World} (h : S30 v0 v1 K w) : callK Try.prog 30 [v0, v1] K w :=
  callK_of (P := Try.prog) (ok := okf) (n := 21) (fn := Try.f30) (c := bodyOf Try.f30) (rs := [.tmp 4]) (an := (.node [] [] .nil (.cut [] [(4, 12)] (.node [] [] .nil (.node [] [] (.node [] [] .nil .nil) .nil)) (.node [] [] .nil .nil)))) good mixed Try.func30 (by kernel_rfl) (by kernel_rfl) (by kernel_rfl) (by kernel_rfl) (Eq.mp (S30_eq v0 v1 K w) h)

/-- rubric/rubricref15.Size -/
def S31 (v0 : Value) (K : Cont) (w : World) : Prop :=
  LoopK [(.int .i64 0), (.int .i64 0)] (fun vs again w1 => ∀ _h : Env,
  lenK v0 fun t9 =>
  ltK .i64 (nth vs 1) t9 fun t10 =>
  condK t10
  (DrawK w1 (fun C =>
  addK .i64 (nth vs 0) (.int .i64 1) fun t14 =>
  ixK 5 v0 (nth vs 1) fun t17 =>
  faK 2 t17 fun t18 =>
  qld1K C t18 fun t19 =>
  lenK t19 fun t20 =>
  addK .i64 t14 t20 fun t21 =>
  ixK 5 v0 (nth vs 1) fun t24 =>
  faK 3 t24 fun t25 =>
  qld1K C t25 fun t26 =>
  lenK t26 fun t27 =>
  addK .i64 t21 t27 fun t28 =>
  ixK 5 v0 (nth vs 1) fun t31 =>
  faK 4 t31 fun t32 =>
  qld1K C t32 fun t33 =>
  lenK t33 fun t34 =>
  addK .i64 t28 t34 fun t35 =>
  ∀ w2 : World, C w2 →
  LoopK [t35, (.int .i64 0)] (fun vs_1 again_1 w3 => ∀ _h_1 : Env,
  ixK 5 v0 (nth vs 1) fun t39 =>
  faK 3 t39 fun t40 =>
  ld1K t40 (fun t41 w4 =>
  lenK t41 fun t42 =>
  ltK .i64 (nth vs_1 1) t42 fun t43 =>
  condK t43
  (ixK 5 v0 (nth vs 1) fun t49 =>
  faK 3 t49 fun t50 =>
  ld1K t50 (fun t51 w5 =>
  ixK 5 t51 (nth vs_1 1) fun t53 =>
  faK 1 t53 fun t54 =>
  faK 3 t54 fun t55 =>
  ld1K t55 (fun t56 w6 =>
  slenK t56 fun t57 =>
  addK .i64 (nth vs_1 0) t57 fun t58 =>
  addK .i64 (nth vs_1 1) (.int .i64 1) fun t45 =>
  again_1 [t58, t45] w6) w5) w4)
  (LoopK [(nth vs_1 0), (.int .i64 0)] (fun vs_2 again_2 w7 => ∀ _h_2 : Env,
  ixK 5 v0 (nth vs 1) fun t62 =>
  faK 4 t62 fun t63 =>
  ld1K t63 (fun t64 w8 =>
  lenK t64 fun t65 =>
  ltK .i64 (nth vs_2 1) t65 fun t66 =>
  condK t66
  (ixK 5 v0 (nth vs 1) fun t72 =>
  faK 4 t72 fun t73 =>
  ld1K t73 (fun t74 w9 =>
  ixK 6 t74 (nth vs_2 1) fun t76 =>
  faK 2 t76 fun t77 =>
  faK 3 t77 fun t78 =>
  ld1K t78 (fun t79 w10 =>
  slenK t79 fun t80 =>
  addK .i64 (nth vs_2 0) t80 fun t81 =>
  addK .i64 (nth vs_2 1) (.int .i64 1) fun t68 =>
  again_2 [t81, t68] w10) w9) w8)
  (addK .i64 (nth vs 1) (.int .i64 1) fun t12 =>
  again [(nth vs_2 0), t12] w8)) w7) w4)) w3) w2))
  (K (nth vs 0) w1)) w
theorem S31_eq (v0 : Value) (K : Cont) (w : World) : S31 v0 K w = D Try.prog okf 83 (bodyOf Try.f31) (.node [] [] .nil (.node [] [] .nil (.node [] [] (.node [] [] .nil (.node [3, 4] [(3, 81)] (.node [] [] (.node [] [] .nil (.node [] [] .nil .nil)) (.node [] [] (.node [] [] .draw (.node [] [] (.node [] [] .nil (.node [3, 5] [(3, 3), (5, 5), (36, 58)] (.node [] [] (.node [] [] .nil (.node [] [] .nil .nil)) (.node [] [] .nil .nil)) .nil)) (.node [] [] .nil (.node [3, 6] [(3, 3), (6, 6), (59, 81)] (.node [] [] (.node [] [] .nil (.node [] [] .nil .nil)) (.node [] [] .nil .nil)) .nil)))) .nil)) .nil)) (.node [] [] .nil .nil)))) (retK Try.prog [.tmp 2] K) (nth [v0]) w := by kernel_rfl
theorem S31_ok {v0 : Value} {K : Cont} {w : World} (h : S31 v0 K w) : callK Try.prog 31 [v0] K w :=
  callK_of (P := Try.prog) (ok := okf) (n := 83) (fn := Try.f31) (c := bodyOf Try.f31) (rs := [.tmp 2]) (an := (.node [] [] .nil (.node [] [] .nil (.node [] [] (.node [] [] .nil (.node [3, 4] [(3, 81)] (.node [] [] (.node [] [] .nil (.node [] [] .nil .nil)) (.node [] [] (.node [] [] .draw (.node [] [] (.node [] [] .nil (.node [3, 5] [(3, 3), (5, 5), (36, 58)] (.node [] [] (.node [] [] .nil (.node [] [] .nil .nil)) (.node [] [] .nil .nil)) .nil)) (.node [] [] .nil (.node [3, 6] [(3, 3), (6, 6), (59, 81)] (.node [] [] (.node [] [] .nil (.node [] [] .nil .nil)) (.node [] [] .nil .nil)) .nil)))) .nil)) .nil)) (.node [] [] .nil .nil))))) good mixed Try.func31 (by kernel_rfl) (by kernel_rfl) (by kernel_rfl) (by kernel_rfl) (Eq.mp (S31_eq v0 K w) h)

/-- rubric/normal.Of -/
def S32 (v0 : Value) (K : Cont) (w : World) : Prop :=
  callK Try.prog 39 [] (fun t6 w1 =>
  lenK v0 fun t8 =>
  LoopK [(.int .i64 0)] (fun vs again w2 => ∀ _h : Env,
  ltK .i64 (nth vs 0) t8 fun t10 =>
  condK t10
  (ixK 5 v0 (nth vs 0) fun t11 =>
  ldnK 5 t11 (fun t12 w3 =>
  newK 59 [(.int .u8 0), (.int .i64 0), (.slice none 0 0), (.slice none 0 0), (.slice none 0 0)] (fun t5 w4 =>
  stnK 5 t5 t12 (fun w5 =>
  faK 0 t5 fun t13 =>
  ld1K t13 (fun t14 w6 =>
  eqK .u8 t14 (.int .u8 1) fun t16 =>
  condK t16
  (faK 1 t5 fun t18 =>
  ld1K t18 (fun t19 w7 =>
  faK 4 t5 fun t20 =>
  ld1K t20 (fun t21 w8 =>
  callK Try.prog 40 [t6, t19, t21] (fun _t22 w9 =>
  addK .i64 (nth vs 0) (.int .i64 1) fun t35 =>
  again [t35] w9) w8) w7) w6)
  (eqK .u8 t14 (.int .u8 2) fun t24 =>
  condK t24
  (faK 2 t5 fun t26 =>
  ld1K t26 (fun t27 w10 =>
  faK 3 t5 fun t28 =>
  ld1K t28 (fun t29 w11 =>
  callK Try.prog 41 [t6, t27, t29] (fun _t30 w12 =>
  addK .i64 (nth vs 0) (.int .i64 1) fun t35_1 =>
  again [t35_1] w12) w11) w10) w6)
  (faK 1 t5 fun t32 =>
  ld1K t32 (fun t33 w13 =>
  callK Try.prog 42 [t6, t33] (fun _t34 w14 =>
  addK .i64 (nth vs 0) (.int .i64 1) fun t35_2 =>
  again [t35_2] w14) w13) w6))) w5) w4) w3) w2)
  (callK Try.prog 43 [t6] (fun t37 w15 =>
  K t37 w15) w2)) w1) w
theorem S32_eq (v0 : Value) (K : Cont) (w : World) : S32 v0 K w = D Try.prog okf 38 (bodyOf Try.f32) (.node [] [] .nil (.node [] [] .nil (.node [] [] .nil (.node [] [] (.node [] [] .nil (.node [9] [(5, 5), (9, 35)] (.node [] [] .nil (.node [] [] (.node [] [] .nil .nil) (.node [] [] (.node [] [] .nil (.node [] [] (.node [] [] .nil (.node [] [] .nil (.node [] [] (.node [] [] .nil .nil) (.node [] [] .nil (.node [] [] (.node [] [] .nil .nil) .nil))))) .nil)) .nil))) .nil)) (.node [] [] .nil .nil))))) (retK Try.prog [.tmp 2] K) (nth [v0]) w := by kernel_rfl
theorem S32_ok {v0 : Value} {K : Cont} {w : World} (h : S32 v0 K w) : callK Try.prog 32 [v0] K w :=
  callK_of (P := Try.prog) (ok := okf) (n := 38) (fn := Try.f32) (c := bodyOf Try.f32) (rs := [.tmp 2]) (an := (.node [] [] .nil (.node [] [] .nil (.node [] [] .nil (.node [] [] (.node [] [] .nil (.node [9] [(5, 5), (9, 35)] (.node [] [] .nil (.node [] [] (.node [] [] .nil .nil) (.node [] [] (.node [] [] .nil (.node [] [] (.node [] [] .nil (.node [] [] .nil (.node [] [] (.node [] [] .nil .nil) (.node [] [] .nil (.node [] [] (.node [] [] .nil .nil) .nil))))) .nil)) .nil))) .nil)) (.node [] [] .nil .nil)))))) good mixed Try.func32 (by kernel_rfl) (by kernel_rfl) (by kernel_rfl) (by kernel_rfl) (Eq.mp (S32_eq v0 K w) h)

/-- rubric/rubricref15.Copy -/
def S33 (v0 : Value) (K : Cont) (w : World) : Prop :=
  LoopK [(.slice none 0 0), (.int .i64 0)] (fun vs again w1 => ∀ _h : Env,
  lenK v0 fun t8 =>
  ltK .i64 (nth vs 1) t8 fun t9 =>
  condK t9
  (ixK 5 v0 (nth vs 1) fun t14 =>
  ldnK 5 t14 (fun t15 w2 =>
  newK 59 [(.int .u8 0), (.int .i64 0), (.slice none 0 0), (.slice none 0 0), (.slice none 0 0)] (fun t5 w3 =>
  stnK 5 t5 t15 (fun w4 =>
  DrawG [5, 8, 9, 12, 13, 16, 18, 19] [[], [], [1], [], [3], [], [], [6], [5, 6, 7], [], [], [10], [5, 6, 7, 8, 9, 10, 11], [], [], [14], [5, 6, 7, 8, 9, 10, 11, 12, 13, 14, 15], [1, 2, 3, 4, 5, 6, 7, 8, 9, 10, 11, 12, 13, 14, 15, 16], [1, 2, 3, 4, 5, 6, 7, 8, 9, 10, 11, 12, 13, 14, 15, 16, 17], [0, 1, 2, 3, 4, 5, 6, 7, 8, 9, 10, 11, 12, 13, 14, 15, 16, 17, 18], [0, 1, 2, 3, 4, 5, 6, 7, 8, 9, 10, 11, 12, 13, 14, 15, 16, 17, 18, 19]] w4.drew (fun A M St =>
  (∀ w5 : World, Mod (ButM [5, 8, 9, 12, 13, 16, 18, 19] M 5) w4.drew w5 →
  faK 0 t5 fun t17 =>
  sld1 (St 2) t17 fun _t18 =>
  faK 1 t5 fun t19 =>
  sld1 (St 4) t19 fun _t20 =>
  faK 2 t5 fun t22 =>
  sld1 (St 7) t22 fun _t23 =>
  faK 3 t5 fun t26 =>
  sld1 (St 11) t26 fun _t27 =>
  faK 4 t5 fun t30 =>
  sld1 (St 15) t30 fun _t31 =>
  rowK 21 1 0 [] [] (fun t21 w6 =>
  Mod (M 5) w5 w6 ∧ A 5 t21 w6) w5) ∧
  (∀ w7 : World, Mod (ButM [5, 8, 9, 12, 13, 16, 18, 19] M 8) w4.drew w7 →
  faK 0 t5 fun t17_1 =>
  sld1 (St 2) t17_1 fun _t18_1 =>
  faK 1 t5 fun t19_1 =>
  sld1 (St 4) t19_1 fun _t20_1 =>
  ∀ t21_1 : Value, A 5 t21_1 w7 →
  faK 2 t5 fun t22_1 =>
  sld1 (St 7) t22_1 fun t23_1 =>
  faK 3 t5 fun t26_1 =>
  sld1 (St 11) t26_1 fun _t27_1 =>
  faK 4 t5 fun t30_1 =>
  sld1 (St 15) t30_1 fun _t31_1 =>
  runK Try.prog (Builtin.append_ #[56, 56] 56 [t21_1, t23_1].toArray) (fun t24 w8 =>
  Mod (M 8) w7 w8 ∧ A 8 t24 w8) w7) ∧
  (∀ w9 : World, Mod (ButM [5, 8, 9, 12, 13, 16, 18, 19] M 9) w4.drew w9 →
  faK 0 t5 fun t17_2 =>
  sld1 (St 2) t17_2 fun _t18_2 =>
  faK 1 t5 fun t19_2 =>
  sld1 (St 4) t19_2 fun _t20_2 =>
  faK 2 t5 fun t22_2 =>
  sld1 (St 7) t22_2 fun _t23_2 =>
  faK 3 t5 fun t26_2 =>
  sld1 (St 11) t26_2 fun _t27_2 =>
  faK 4 t5 fun t30_2 =>
  sld1 (St 15) t30_2 fun _t31_2 =>
  rowK 46 5 0 [] [] (fun t25 w10 =>
  Mod (M 9) w9 w10 ∧ A 9 t25 w10) w9) ∧
  (∀ w11 : World, Mod (ButM [5, 8, 9, 12, 13, 16, 18, 19] M 12) w4.drew w11 →
  faK 0 t5 fun t17_3 =>
  sld1 (St 2) t17_3 fun _t18_3 =>
  faK 1 t5 fun t19_3 =>
  sld1 (St 4) t19_3 fun _t20_3 =>
  ∀ t21_2 : Value, A 5 t21_2 w11 →
  faK 2 t5 fun t22_3 =>
  sld1 (St 7) t22_3 fun _t23_3 =>
  ∀ t24_1 : Value, A 8 t24_1 w11 →
  ∀ t25_1 : Value, A 9 t25_1 w11 →
  faK 3 t5 fun t26_3 =>
  sld1 (St 11) t26_3 fun t27_3 =>
  faK 4 t5 fun t30_3 =>
  sld1 (St 15) t30_3 fun _t31_3 =>
  runK Try.prog (Builtin.append_ #[24, 24] 24 [t25_1, t27_3].toArray) (fun t28 w12 =>
  Mod (M 12) w11 w12 ∧ A 12 t28 w12) w11) ∧
  (∀ w13 : World, Mod (ButM [5, 8, 9, 12, 13, 16, 18, 19] M 13) w4.drew w13 →
  faK 0 t5 fun t17_4 =>
  sld1 (St 2) t17_4 fun _t18_4 =>
  faK 1 t5 fun t19_4 =>
  sld1 (St 4) t19_4 fun _t20_4 =>
  faK 2 t5 fun t22_4 =>
  sld1 (St 7) t22_4 fun _t23_4 =>
  faK 3 t5 fun t26_4 =>
  sld1 (St 11) t26_4 fun _t27_4 =>
  faK 4 t5 fun t30_4 =>
  sld1 (St 15) t30_4 fun _t31_4 =>
  rowK 61 6 0 [] [] (fun t29 w14 =>
  Mod (M 13) w13 w14 ∧ A 13 t29 w14) w13) ∧
  (∀ w15 : World, Mod (ButM [5, 8, 9, 12, 13, 16, 18, 19] M 16) w4.drew w15 →
  faK 0 t5 fun t17_5 =>
  sld1 (St 2) t17_5 fun _t18_5 =>
  faK 1 t5 fun t19_5 =>
  sld1 (St 4) t19_5 fun _t20_5 =>
  ∀ t21_3 : Value, A 5 t21_3 w15 →
  faK 2 t5 fun t22_5 =>
  sld1 (St 7) t22_5 fun _t23_5 =>
  ∀ t24_2 : Value, A 8 t24_2 w15 →
  ∀ t25_2 : Value, A 9 t25_2 w15 →
  faK 3 t5 fun t26_5 =>
  sld1 (St 11) t26_5 fun _t27_5 =>
  ∀ t28_1 : Value, A 12 t28_1 w15 →
  ∀ t29_1 : Value, A 13 t29_1 w15 →
  faK 4 t5 fun t30_5 =>
  sld1 (St 15) t30_5 fun t31_5 =>
  runK Try.prog (Builtin.append_ #[57, 57] 57 [t29_1, t31_5].toArray) (fun t32 w16 =>
  Mod (M 16) w15 w16 ∧ A 16 t32 w16) w15) ∧
  (∀ w17 : World, Mod (ButM [5, 8, 9, 12, 13, 16, 18, 19] M 18) w4.drew w17 →
  faK 0 t5 fun t17_6 =>
  sld1 (St 2) t17_6 fun t18_6 =>
  faK 1 t5 fun t19_6 =>
  sld1 (St 4) t19_6 fun t20_6 =>
  ∀ t21_4 : Value, A 5 t21_4 w17 →
  faK 2 t5 fun t22_6 =>
  sld1 (St 7) t22_6 fun _t23_6 =>
  ∀ t24_3 : Value, A 8 t24_3 w17 →
  ∀ t25_3 : Value, A 9 t25_3 w17 →
  faK 3 t5 fun t26_6 =>
  sld1 (St 11) t26_6 fun _t27_6 =>
  ∀ t28_2 : Value, A 12 t28_2 w17 →
  ∀ t29_2 : Value, A 13 t29_2 w17 →
  faK 4 t5 fun t30_6 =>
  sld1 (St 15) t30_6 fun _t31_6 =>
  ∀ t32_1 : Value, A 16 t32_1 w17 →
  buildK [(0, 1), (1, 1), (2, 1), (3, 1), (4, 1)] [(.int .u8 0), (.int .i64 0), (.slice none 0 0), (.slice none 0 0), (.slice none 0 0)] [(0, t18_6), (1, t20_6), (2, t24_3), (3, t28_2), (4, t32_1)] fun t33 =>
  rowK 59 5 1 [(.int .u8 0), (.int .i64 0), (.slice none 0 0), (.slice none 0 0), (.slice none 0 0)] [(0, t33)] (fun t34 w18 =>
  Mod (M 18) w17 w18 ∧ A 18 t34 w18) w17) ∧
  (∀ w19 : World, Mod (ButM [5, 8, 9, 12, 13, 16, 18, 19] M 19) w4.drew w19 →
  faK 0 t5 fun t17_7 =>
  sld1 (St 2) t17_7 fun t18_7 =>
  faK 1 t5 fun t19_7 =>
  sld1 (St 4) t19_7 fun t20_7 =>
  ∀ t21_5 : Value, A 5 t21_5 w19 →
  faK 2 t5 fun t22_7 =>
  sld1 (St 7) t22_7 fun _t23_7 =>
  ∀ t24_4 : Value, A 8 t24_4 w19 →
  ∀ t25_4 : Value, A 9 t25_4 w19 →
  faK 3 t5 fun t26_7 =>
  sld1 (St 11) t26_7 fun _t27_7 =>
  ∀ t28_3 : Value, A 12 t28_3 w19 →
  ∀ t29_3 : Value, A 13 t29_3 w19 →
  faK 4 t5 fun t30_7 =>
  sld1 (St 15) t30_7 fun _t31_7 =>
  ∀ t32_2 : Value, A 16 t32_2 w19 →
  buildK [(0, 1), (1, 1), (2, 1), (3, 1), (4, 1)] [(.int .u8 0), (.int .i64 0), (.slice none 0 0), (.slice none 0 0), (.slice none 0 0)] [(0, t18_7), (1, t20_7), (2, t24_4), (3, t28_3), (4, t32_2)] fun _t33_1 =>
  ∀ t34_1 : Value, A 18 t34_1 w19 →
  runK Try.prog (Builtin.append_ #[50, 50] 50 [(nth vs 0), t34_1].toArray) (fun t35 w20 =>
  Mod (M 19) w19 w20 ∧ A 19 t35 w20) w19) ∧
  (∀ w21 : World, Mod (AllM [5, 8, 9, 12, 13, 16, 18, 19] M) w4.drew w21 →
  faK 0 t5 fun t17_8 =>
  sld1 (St 2) t17_8 fun t18_8 =>
  faK 1 t5 fun t19_8 =>
  sld1 (St 4) t19_8 fun t20_8 =>
  ∀ t21_6 : Value, A 5 t21_6 w21 →
  faK 2 t5 fun t22_8 =>
  sld1 (St 7) t22_8 fun _t23_8 =>
  ∀ t24_5 : Value, A 8 t24_5 w21 →
  ∀ t25_5 : Value, A 9 t25_5 w21 →
  faK 3 t5 fun t26_8 =>
  sld1 (St 11) t26_8 fun _t27_8 =>
  ∀ t28_4 : Value, A 12 t28_4 w21 →
  ∀ t29_4 : Value, A 13 t29_4 w21 →
  faK 4 t5 fun t30_8 =>
  sld1 (St 15) t30_8 fun _t31_8 =>
  ∀ t32_3 : Value, A 16 t32_3 w21 →
  buildK [(0, 1), (1, 1), (2, 1), (3, 1), (4, 1)] [(.int .u8 0), (.int .i64 0), (.slice none 0 0), (.slice none 0 0), (.slice none 0 0)] [(0, t18_8), (1, t20_8), (2, t24_5), (3, t28_4), (4, t32_3)] fun _t33_2 =>
  True) ∧
  (∀ w22 : World, Mod (AllM [5, 8, 9, 12, 13, 16, 18, 19] M) w4.drew w22 →
  faK 0 t5 fun t17_9 =>
  sld1 (St 2) t17_9 fun t18_9 =>
  faK 1 t5 fun t19_9 =>
  sld1 (St 4) t19_9 fun t20_9 =>
  ∀ t21_7 : Value, A 5 t21_7 w22 →
  faK 2 t5 fun t22_9 =>
  sld1 (St 7) t22_9 fun _t23_9 =>
  ∀ t24_6 : Value, A 8 t24_6 w22 →
  ∀ t25_6 : Value, A 9 t25_6 w22 →
  faK 3 t5 fun t26_9 =>
  sld1 (St 11) t26_9 fun _t27_9 =>
  ∀ t28_5 : Value, A 12 t28_5 w22 →
  ∀ t29_5 : Value, A 13 t29_5 w22 →
  faK 4 t5 fun t30_9 =>
  sld1 (St 15) t30_9 fun _t31_9 =>
  ∀ t32_4 : Value, A 16 t32_4 w22 →
  buildK [(0, 1), (1, 1), (2, 1), (3, 1), (4, 1)] [(.int .u8 0), (.int .i64 0), (.slice none 0 0), (.slice none 0 0), (.slice none 0 0)] [(0, t18_9), (1, t20_9), (2, t24_6), (3, t28_5), (4, t32_4)] fun _t33_3 =>
  ∀ t34_2 : Value, A 18 t34_2 w22 →
  ∀ t35_1 : Value, A 19 t35_1 w22 →
  addK .i64 (nth vs 1) (.int .i64 1) fun t11 =>
  again [t35_1, t11] w22))) w3) w2) w1)
  (K (nth vs 0) w1)) w
theorem S33_eq (v0 : Value) (K : Cont) (w : World) : S33 v0 K w = D Try.prog okf 37 (bodyOf Try.f33) (.node [] [] .nil (.node [] [] .nil (.node [] [] (.node [] [] .nil (.node [3, 4] [(3, 35)] (.node [] [] (.node [] [] .nil (.node [] [] .nil .nil)) (.node [] [] (.node [] [] .nil (.dg [5, 8, 9, 12, 13, 16, 18, 19] [[], [], [1], [], [3], [], [], [6], [5, 6, 7], [], [], [10], [5, 6, 7, 8, 9, 10, 11], [], [], [14], [5, 6, 7, 8, 9, 10, 11, 12, 13, 14, 15], [1, 2, 3, 4, 5, 6, 7, 8, 9, 10, 11, 12, 13, 14, 15, 16], [1, 2, 3, 4, 5, 6, 7, 8, 9, 10, 11, 12, 13, 14, 15, 16, 17], [0, 1, 2, 3, 4, 5, 6, 7, 8, 9, 10, 11, 12, 13, 14, 15, 16, 17, 18], [0, 1, 2, 3, 4, 5, 6, 7, 8, 9, 10, 11, 12, 13, 14, 15, 16, 17, 18, 19]] [[5, 8, 9, 12, 13, 16]])) .nil)) .nil)) (.node [] [] .nil .nil)))) (retK Try.prog [.tmp 2] K) (nth [v0]) w := by kernel_rfl
theorem S33_ok {v0 : Value} {K : Cont} {w : World} (h : S33 v0 K w) : callK Try.prog 33 [v0] K w :=
  callK_of (P := Try.prog) (ok := okf) (n := 37) (fn := Try.f33) (c := bodyOf Try.f33) (rs := [.tmp 2]) (an := (.node [] [] .nil (.node [] [] .nil (.node [] [] (.node [] [] .nil (.node [3, 4] [(3, 35)] (.node [] [] (.node [] [] .nil (.node [] [] .nil .nil)) (.node [] [] (.node [] [] .nil (.dg [5, 8, 9, 12, 13, 16, 18, 19] [[], [], [1], [], [3], [], [], [6], [5, 6, 7], [], [], [10], [5, 6, 7, 8, 9, 10, 11], [], [], [14], [5, 6, 7, 8, 9, 10, 11, 12, 13, 14, 15], [1, 2, 3, 4, 5, 6, 7, 8, 9, 10, 11, 12, 13, 14, 15, 16], [1, 2, 3, 4, 5, 6, 7, 8, 9, 10, 11, 12, 13, 14, 15, 16, 17], [0, 1, 2, 3, 4, 5, 6, 7, 8, 9, 10, 11, 12, 13, 14, 15, 16, 17, 18], [0, 1, 2, 3, 4, 5, 6, 7, 8, 9, 10, 11, 12, 13, 14, 15, 16, 17, 18, 19]] [[5, 8, 9, 12, 13, 16]])) .nil)) .nil)) (.node [] [] .nil .nil))))) good mixed Try.func33 (by kernel_rfl) (by kernel_rfl) (by kernel_rfl) (by kernel_rfl) (Eq.mp (S33_eq v0 K w) h)

/-- rubric/normal.Is -/
def S34 (v0 : Value) (K : Cont) (w : World) : Prop :=
  callK Try.prog 32 [v0] (fun t4 w1 =>
  callK Try.prog 44 [t4, v0] (fun t6 w2 =>
  K t6 w2) w1) w
theorem S34_eq (v0 : Value) (K : Cont) (w : World) : S34 v0 K w = D Try.prog okf 7 (bodyOf Try.f34) (.node [] [] .nil (.node [] [] .nil .nil)) (retK Try.prog [.tmp 2] K) (nth [v0]) w := by kernel_rfl
theorem S34_ok {v0 : Value} {K : Cont} {w : World} (h : S34 v0 K w) : callK Try.prog 34 [v0] K w :=
  callK_of (P := Try.prog) (ok := okf) (n := 7) (fn := Try.f34) (c := bodyOf Try.f34) (rs := [.tmp 2]) (an := (.node [] [] .nil (.node [] [] .nil .nil))) good mixed Try.func34 (by kernel_rfl) (by kernel_rfl) (by kernel_rfl) (by kernel_rfl) (Eq.mp (S34_eq v0 K w) h)

/-- rubric/rubriclaw16.known -/
def S35 (K : Cont) (w : World) : Prop :=
  buildK [(0, 1), (1, 1), (2, 1), (3, 1), (4, 1)] [(.int .u8 0), (.int .i64 0), (.slice none 0 0), (.slice none 0 0), (.slice none 0 0)] [(0, (.int .u8 3)), (1, (.int .i64 2))] fun t2 =>
  rowK 21 1 1 [(.int .i32 0)] [(0, (.int .i32 97))] (fun t3 w1 =>
  buildK [(0, 1), (1, 1), (2, 1), (3, 1), (4, 1)] [(.int .u8 0), (.int .i64 0), (.slice none 0 0), (.slice none 0 0), (.slice none 0 0)] [(0, (.int .u8 2)), (2, t3)] fun t4 =>
  rowK 21 1 1 [(.int .i32 0)] [(0, (.int .i32 98))] (fun t5 w2 =>
  buildK [(0, 1), (1, 1), (2, 1), (3, 1), (4, 1)] [(.int .u8 0), (.int .i64 0), (.slice none 0 0), (.slice none 0 0), (.slice none 0 0)] [(0, (.int .u8 2)), (2, t5)] fun t6 =>
  buildK [(0, 1), (1, 1), (2, 1), (3, 1), (4, 1)] [(.int .u8 0), (.int .i64 0), (.slice none 0 0), (.slice none 0 0), (.slice none 0 0)] [(0, (.int .u8 1)), (1, (.int .i64 4))] fun t7 =>
  rowK 59 5 4 [(.int .u8 0), (.int .i64 0), (.slice none 0 0), (.slice none 0 0), (.slice none 0 0)] [(0, t2), (1, t4), (2, t6), (3, t7)] (fun t8 w3 =>
  callK Try.prog 32 [t8] (fun t9 w4 =>
  rowK 21 1 2 [(.int .i32 0)] [(0, (.int .i32 97)), (1, (.int .i32 98))] (fun t11 w5 =>
  buildK [(0, 1), (1, 1), (2, 1), (3, 1), (4, 1)] [(.int .u8 0), (.int .i64 0), (.slice none 0 0), (.slice none 0 0), (.slice none 0 0)] [(0, (.int .u8 2)), (2, t11)] fun t12 =>
  buildK [(0, 1), (1, 1), (2, 1), (3, 1), (4, 1)] [(.int .u8 0), (.int .i64 0), (.slice none 0 0), (.slice none 0 0), (.slice none 0 0)] [(0, (.int .u8 3)), (1, (.int .i64 2))] fun t13 =>
  rowK 59 5 2 [(.int .u8 0), (.int .i64 0), (.slice none 0 0), (.slice none 0 0), (.slice none 0 0)] [(0, t12), (1, t13)] (fun t14 w6 =>
  callK Try.prog 44 [t9, t14] (fun t15 w7 =>
  condK t15
  (callK Try.prog 34 [t9] (fun t18 w8 =>
  K t18 w8) w7)
  (K (.bool false) w7)) w6) w5) w4) w3) w2) w1) w
theorem S35_eq (K : Cont) (w : World) : S35  K w = D Try.prog okf 20 (bodyOf Try.f35) (.node [] [] .nil (.node [] [] .nil (.node [] [] .nil .nil))) (retK Try.prog [.tmp 0] K) (nth []) w := by kernel_rfl
theorem S35_ok {K : Cont} {w : World} (h : S35  K w) : callK Try.prog 35 [] K w :=
  callK_of (P := Try.prog) (ok := okf) (n := 20) (fn := Try.f35) (c := bodyOf Try.f35) (rs := [.tmp 0]) (an := (.node [] [] .nil (.node [] [] .nil (.node [] [] .nil .nil)))) good mixed Try.func35 (by kernel_rfl) (by kernel_rfl) (by kernel_rfl) (by kernel_rfl) (Eq.mp (S35_eq  K w) h)

/-- rubric/rubricref15.Same -/
def S36 (v0 v1 : Value) (K : Cont) (w : World) : Prop :=
  lenK v0 fun t9 =>
  lenK v1 fun t11 =>
  neK .i64 t9 t11 fun t12 =>
  condK t12
  (K (.bool false) w)
  (LoopK [(.int .i64 0)] (fun vs again w1 => ∀ _h : Env,
  lenK v0 fun t15 =>
  ltK .i64 (nth vs 0) t15 fun t16 =>
  condK t16
  (JoinK (fun _vs_1 w2 => ∀ _h_1 : Env,
  addK .i64 (nth vs 0) (.int .i64 1) fun t18 =>
  again [t18] w2) (fun J =>
  JoinK (fun vs_2 w3 => ∀ _h_2 : Env,
  faK 0 (nth vs_2 0) fun t27 =>
  ld1K t27 (fun t28 w4 =>
  faK 0 (nth vs_2 1) fun t29 =>
  ld1K t29 (fun t30 w5 =>
  neK .u8 t28 t30 fun t31 =>
  condK t31
  (K (.bool false) w5)
  (faK 1 (nth vs_2 0) fun t33 =>
  ld1K t33 (fun t34 w6 =>
  faK 1 (nth vs_2 1) fun t35 =>
  ld1K t35 (fun t36 w7 =>
  neK .i64 t34 t36 fun t37 =>
  condK t37
  (K (.bool false) w7)
  (faK 2 (nth vs_2 0) fun t40 =>
  ld1K t40 (fun t41 w8 =>
  faK 2 (nth vs_2 1) fun t42 =>
  ld1K t42 (fun t43 w9 =>
  callK Try.prog 58 [t41, t43] (fun t44 w10 =>
  notK t44 fun t45 =>
  condK t45
  (K (.bool false) w10)
  (faK 3 (nth vs_2 0) fun t48 =>
  ld1K t48 (fun t49 w11 =>
  faK 3 (nth vs_2 1) fun t50 =>
  ld1K t50 (fun t51 w12 =>
  callK Try.prog 21 [t49, t51] (fun t52 w13 =>
  notK t52 fun t53 =>
  condK t53
  (K (.bool false) w13)
  (faK 4 (nth vs_2 0) fun t56 =>
  ld1K t56 (fun t57 w14 =>
  faK 4 (nth vs_2 1) fun t58 =>
  ld1K t58 (fun t59 w15 =>
  callK Try.prog 59 [t57, t59] (fun t60 w16 =>
  notK t60 fun t61 =>
  condK t61
  (K (.bool false) w16)
  (J [] w16)) w15) w14) w13)) w12) w11) w10)) w9) w8) w7)) w6) w5)) w4) w3) (fun J_1 =>
  DrawC [8, 9, 10, 11] [[], [], [0, 1], [0, 1, 2], [], [], [4, 5], [4, 5, 6], [], [], [0, 1, 2, 3, 8, 9], [0, 1, 2, 3, 4, 5, 6, 7, 8, 9, 10]] w1.drew (fun M St =>
  ixK 5 v0 (nth vs 0) fun t21 =>
  sldn (St 3) 5 t21 fun t22 =>
  ixK 5 v1 (nth vs 0) fun t25 =>
  sldn (St 7) 5 t25 fun t26 =>
  (newK 59 [(.int .u8 0), (.int .i64 0), (.slice none 0 0), (.slice none 0 0), (.slice none 0 0)] (fun t6 w17 =>
  Mod (M 8) w1.drew w17 ∧
  newK 59 [(.int .u8 0), (.int .i64 0), (.slice none 0 0), (.slice none 0 0), (.slice none 0 0)] (fun t7 w18 =>
  Mod (M 9) w17 w18 ∧
  stnK 5 t6 t22 (fun w19 =>
  Mod (M 10) w18 w19 ∧
  stnK 5 t7 t26 (fun w20 =>
  Mod (M 11) w19 w20 ∧
  J_1 [t6, t7] w20) w19) w18) w17) w1.drew) ∧
  (newK 59 [(.int .u8 0), (.int .i64 0), (.slice none 0 0), (.slice none 0 0), (.slice none 0 0)] (fun t7_1 w21 =>
  Mod (M 9) w1.drew w21 ∧
  newK 59 [(.int .u8 0), (.int .i64 0), (.slice none 0 0), (.slice none 0 0), (.slice none 0 0)] (fun t6_1 w22 =>
  Mod (M 8) w21 w22 ∧
  stnK 5 t6_1 t22 (fun w23 =>
  Mod (M 10) w22 w23 ∧
  stnK 5 t7_1 t26 (fun w24 =>
  Mod (M 11) w23 w24 ∧
  J_1 [t6_1, t7_1] w24) w23) w22) w21) w1.drew)))))
  (K (.bool true) w1)) w)
theorem S36_eq (v0 v1 : Value) (K : Cont) (w : World) : S36 v0 v1 K w = D Try.prog okf 63 (bodyOf Try.f36) (.node [] [] .nil (.node [] [] (.node [] [] .nil (.node [] [] (.node [] [] .nil .nil) .nil)) (.node [] [] (.node [] [] .nil (.node [5] [(4, 7), (13, 62)] (.node [] [] (.node [] [] .nil (.node [] [] .nil .nil)) (.cut [] [(4, 4), (6, 7), (19, 62)] (.cut [6, 7] [(6, 7), (19, 26)] (.dt [8, 9, 10, 11] [[], [], [0, 1], [0, 1, 2], [], [], [4, 5], [4, 5, 6], [], [], [0, 1, 2, 3, 8, 9], [0, 1, 2, 3, 4, 5, 6, 7, 8, 9, 10]] [] (.op 0 (.op 1 (.op 2 (.op 3 (.op 4 (.op 5 (.op 6 (.op 7 (.br (.op 8 (.op 9 (.op 10 (.op 11 .nil)))) (.op 9 (.op 8 (.op 10 (.op 11 .nil)))))))))))))) (.node [] [] .nil (.node [] [] (.node [] [] .nil .nil) .nil))) .nil)) .nil)) (.node [] [] .nil .nil)))) (retK Try.prog [.tmp 4] K) (nth [v0, v1]) w := by kernel_rfl
theorem S36_ok {v0 v1 : Value} {K : Cont} {w : World} (h : S36 v0 v1 K w) : callK Try.prog 36 [v0, v1] K w :=
  callK_of (P := Try.prog) (ok := okf) (n := 63) (fn := Try.f36) (c := bodyOf Try.f36) (rs := [.tmp 4]) (an := (.node [] [] .nil (.node [] [] (.node [] [] .nil (.node [] [] (.node [] [] .nil .nil) .nil)) (.node [] [] (.node [] [] .nil (.node [5] [(4, 7), (13, 62)] (.node [] [] (.node [] [] .nil (.node [] [] .nil .nil)) (.cut [] [(4, 4), (6, 7), (19, 62)] (.cut [6, 7] [(6, 7), (19, 26)] (.dt [8, 9, 10, 11] [[], [], [0, 1], [0, 1, 2], [], [], [4, 5], [4, 5, 6], [], [], [0, 1, 2, 3, 8, 9], [0, 1, 2, 3, 4, 5, 6, 7, 8, 9, 10]] [] (.op 0 (.op 1 (.op 2 (.op 3 (.op 4 (.op 5 (.op 6 (.op 7 (.br (.op 8 (.op 9 (.op 10 (.op 11 .nil)))) (.op 9 (.op 8 (.op 10 (.op 11 .nil)))))))))))))) (.node [] [] .nil (.node [] [] (.node [] [] .nil .nil) .nil))) .nil)) .nil)) (.node [] [] .nil .nil))))) good mixed Try.func36 (by kernel_rfl) (by kernel_rfl) (by kernel_rfl) (by kernel_rfl) (Eq.mp (S36_eq v0 v1 K w) h)

/-- rubric/rubricref16.Of -/
def S37 (v0 : Value) (K : Cont) (w : World) : Prop :=
  JoinK (fun vs w1 => ∀ _h : Env,
  lenK (nth vs 0) fun t88 =>
  subK .i64 t88 (.int .i64 1) fun t89 =>
  JoinK (fun vs_1 w2 => ∀ _h_1 : Env,
  callK Try.prog 33 [(nth vs_1 0)] (fun t113 w3 =>
  K t113 w3) w2) (fun J_1 =>
  geK .i64 t89 (.int .i64 0) fun t91 =>
  condK t91
  (ixK 5 (nth vs 0) t89 fun t95 =>
  faK 0 t95 fun t96 =>
  ld1K t96 (fun t97 w4 =>
  eqK .u8 t97 (.int .u8 1) fun t98 =>
  condK t98
  (ixK 5 (nth vs 0) t89 fun t103 =>
  faK 4 t103 fun t104 =>
  ld1K t104 (fun t105 w5 =>
  lenK t105 fun t106 =>
  eqK .i64 t106 (.int .i64 0) fun t107 =>
  condK t107
  (runK Try.prog (Instr.sliceAt 50 (nth vs 0) none (some t89) none) (fun t111 w6 =>
  J_1 [t111] w6) w5)
  (J_1 [(nth vs 0)] w5)) w4)
  (J_1 [(nth vs 0)] w4)) w1)
  (J_1 [(nth vs 0)] w1))) (fun J =>
  LoopK [(.slice none 0 0), (.int .i64 0), (.int .i64 0)] (fun vs_2 again w9 => ∀ _h_2 : Env,
  lenK v0 fun t10 =>
  leK .i64 (nth vs_2 2) t10 fun t11 =>
  condK t11
  (JoinK (fun vs_3 w10 => ∀ _h_3 : Env,
  addK .i64 (nth vs_2 2) (.int .i64 1) fun t13 =>
  again [(nth vs_3 0), (nth vs_3 1), t13] w10) (fun J_2 =>
  JoinK (fun _vs_4 w11 => ∀ _h_4 : Env,
  runK Try.prog (Instr.sliceAt 50 v0 (some (nth vs_2 1)) (some (nth vs_2 2)) none) (fun t30 w12 =>
  callK Try.prog 60 [t30] (fun t31 w13 =>
  runK Try.prog (Builtin.append_ #[50, 50] 50 [(nth vs_2 0), t31].toArray) (fun t32 w14 =>
  addK .i64 (nth vs_2 2) (.int .i64 1) fun t34 =>
  lenK v0 fun t37 =>
  eqK .i64 (nth vs_2 2) t37 fun t38 =>
  condK t38
  (J [t32] w14)
  (lenK t32 fun t40 =>
  subK .i64 t40 (.int .i64 1) fun t41 =>
  JoinK (fun vs_5 w15 => ∀ _h_5 : Env,
  condK (nth vs_5 0)
  (DrawC [15] [[], [], [], [], [2, 3], [2, 3, 4], [2, 3, 4, 5], [], [], [7, 8], [7, 8, 9], [7, 8, 9, 10], [2, 3, 4, 5, 6, 7, 8, 9, 10, 11], [0, 1, 2, 3, 4, 5, 6, 7, 8, 9, 10, 11, 12], [0, 1, 2, 3, 4, 5, 6, 7, 8, 9, 10, 11, 12, 13], [0, 1, 2, 3, 4, 5, 6, 7, 8, 9, 10, 11, 12, 13, 14]] w15.drew (fun M St =>
  ixK 5 t32 t41 fun t69 =>
  faK 1 t69 fun t70 =>
  sld1 (St 6) t70 fun t71 =>
  ixK 5 v0 (nth vs_2 2) fun t74 =>
  faK 1 t74 fun t75 =>
  sld1 (St 11) t75 fun t76 =>
  addK .i64 t71 t76 fun t77 =>
  ixK 5 t32 t41 fun t78 =>
  faK 1 t78 fun t79 =>
  st1K t79 t77 (fun w16 =>
  Mod (M 15) w15.drew w16 ∧
  J_2 [t32, t34] w16) w15.drew))
  (ixK 5 v0 (nth vs_2 2) fun t83 =>
  ldnK 5 t83 (fun t84 w17 =>
  rowK 59 5 1 [(.int .u8 0), (.int .i64 0), (.slice none 0 0), (.slice none 0 0), (.slice none 0 0)] [(0, t84)] (fun t85 w18 =>
  runK Try.prog (Builtin.append_ #[50, 50] 50 [t32, t85].toArray) (fun t86 w19 =>
  J_2 [t86, t34] w19) w18) w17) w15)) (fun J_4 =>
  DrawK w14 (fun C =>
  geK .i64 t41 (.int .i64 0) fun t43 =>
  condK t43
  (ixK 5 t32 t41 fun t47 =>
  faK 0 t47 fun t48 =>
  qld1K C t48 fun t49 =>
  eqK .u8 t49 (.int .u8 1) fun t50 =>
  condK t50
  (ixK 5 t32 t41 fun t55 =>
  faK 4 t55 fun t56 =>
  qld1K C t56 fun t57 =>
  ixK 5 v0 (nth vs_2 2) fun t60 =>
  faK 4 t60 fun t61 =>
  qld1K C t61 fun t62 =>
  qcallK Try.prog C 59 [t57, t62] fun t63 =>
  ∀ w20 : World, C w20 →
  J_4 [t63] w20)
  (∀ w21 : World, C w21 →
  J_4 [(.bool false)] w21))
  (∀ w22 : World, C w22 →
  J_4 [(.bool false)] w22))))) w13) w12) w11) (fun J_3 =>
  lenK v0 fun t16 =>
  ltK .i64 (nth vs_2 2) t16 fun t17 =>
  condK t17
  (ixK 5 v0 (nth vs_2 2) fun t21 =>
  faK 0 t21 fun t22 =>
  ld1K t22 (fun t23 w23 =>
  neK .u8 t23 (.int .u8 1) fun t24 =>
  condK t24
  (J_2 [(nth vs_2 0), (nth vs_2 1)] w23)
  (J_3 [] w23)) w9)
  (J_3 [] w9))))
  (J [(nth vs_2 0)] w9)) w)
theorem S37_eq (v0 : Value) (K : Cont) (w : World) : S37 v0 K w = D Try.prog okf 114 (bodyOf Try.f37) (.node [] [] .nil (.node [] [] .nil (.node [] [] .nil (.cut [3] [(3, 6), (8, 86)] (.node [] [] .nil (.node [3, 4, 5] [(3, 6), (8, 86)] (.node [] [] (.node [] [] .nil (.node [] [] .nil .nil)) (.cut [3, 4] [(3, 4), (6, 6), (14, 86)] (.cut [] [(14, 25)] (.node [] [] .nil (.node [] [] .nil .nil)) (.node [] [] .nil (.node [] [] .nil (.node [] [] (.node [] [] .nil (.node [] [] .nil .nil)) (.node [] [] .nil (.cut [64] [(42, 64)] .draw (.node [] [] (.dc [15] [[], [], [], [], [2, 3], [2, 3, 4], [2, 3, 4, 5], [], [], [7, 8], [7, 8, 9], [7, 8, 9, 10], [2, 3, 4, 5, 6, 7, 8, 9, 10, 11], [0, 1, 2, 3, 4, 5, 6, 7, 8, 9, 10, 11, 12], [0, 1, 2, 3, 4, 5, 6, 7, 8, 9, 10, 11, 12, 13], [0, 1, 2, 3, 4, 5, 6, 7, 8, 9, 10, 11, 12, 13, 14]] []) .nil))))))) .nil)) .nil)) (.node [] [] .nil (.cut [3] [(3, 3), (90, 111)] (.node [] [] .nil (.node [] [] .nil .nil)) (.node [] [] .nil .nil))))))) (retK Try.prog [.tmp 2] K) (nth [v0]) w := by kernel_rfl
theorem S37_ok {v0 : Value} {K : Cont} {w : World} (h : S37 v0 K w) : callK Try.prog 37 [v0] K w :=
  callK_of (P := Try.prog) (ok := okf) (n := 114) (fn := Try.f37) (c := bodyOf Try.f37) (rs := [.tmp 2]) (an := (.node [] [] .nil (.node [] [] .nil (.node [] [] .nil (.cut [3] [(3, 6), (8, 86)] (.node [] [] .nil (.node [3, 4, 5] [(3, 6), (8, 86)] (.node [] [] (.node [] [] .nil (.node [] [] .nil .nil)) (.cut [3, 4] [(3, 4), (6, 6), (14, 86)] (.cut [] [(14, 25)] (.node [] [] .nil (.node [] [] .nil .nil)) (.node [] [] .nil (.node [] [] .nil (.node [] [] (.node [] [] .nil (.node [] [] .nil .nil)) (.node [] [] .nil (.cut [64] [(42, 64)] .draw (.node [] [] (.dc [15] [[], [], [], [], [2, 3], [2, 3, 4], [2, 3, 4, 5], [], [], [7, 8], [7, 8, 9], [7, 8, 9, 10], [2, 3, 4, 5, 6, 7, 8, 9, 10, 11], [0, 1, 2, 3, 4, 5, 6, 7, 8, 9, 10, 11, 12], [0, 1, 2, 3, 4, 5, 6, 7, 8, 9, 10, 11, 12, 13], [0, 1, 2, 3, 4, 5, 6, 7, 8, 9, 10, 11, 12, 13, 14]] []) .nil))))))) .nil)) .nil)) (.node [] [] .nil (.cut [3] [(3, 3), (90, 111)] (.node [] [] .nil (.node [] [] .nil .nil)) (.node [] [] .nil .nil)))))))) good mixed Try.func37 (by kernel_rfl) (by kernel_rfl) (by kernel_rfl) (by kernel_rfl) (Eq.mp (S37_eq v0 K w) h)

/-- rubric/rubricref16.Is -/
def S38 (v0 : Value) (K : Cont) (w : World) : Prop :=
  callK Try.prog 37 [v0] (fun t4 w1 =>
  callK Try.prog 36 [t4, v0] (fun t6 w2 =>
  K t6 w2) w1) w
theorem S38_eq (v0 : Value) (K : Cont) (w : World) : S38 v0 K w = D Try.prog okf 7 (bodyOf Try.f38) (.node [] [] .nil (.node [] [] .nil .nil)) (retK Try.prog [.tmp 2] K) (nth [v0]) w := by kernel_rfl
theorem S38_ok {v0 : Value} {K : Cont} {w : World} (h : S38 v0 K w) : callK Try.prog 38 [v0] K w :=
  callK_of (P := Try.prog) (ok := okf) (n := 7) (fn := Try.f38) (c := bodyOf Try.f38) (rs := [.tmp 2]) (an := (.node [] [] .nil (.node [] [] .nil .nil))) good mixed Try.func38 (by kernel_rfl) (by kernel_rfl) (by kernel_rfl) (by kernel_rfl) (Eq.mp (S38_eq v0 K w) h)

/-- rubric/normal.New -/
def S39 (K : Cont) (w : World) : Prop :=
  buildK [(0, 1), (1, 1), (2, 1)] [(.slice none 0 0), (.slice none 0 0), (.int .i64 0)] [] fun t1 =>
  boxnK 65 t1 (fun t2 w1 =>
  K t2 w1) w
theorem S39_eq (K : Cont) (w : World) : S39  K w = D Try.prog okf 3 (bodyOf Try.f39) (.node [] [] .nil (.node [] [] .nil .nil)) (retK Try.prog [.tmp 0] K) (nth []) w := by kernel_rfl
theorem S39_ok {K : Cont} {w : World} (h : S39  K w) : callK Try.prog 39 [] K w :=
  callK_of (P := Try.prog) (ok := okf) (n := 3) (fn := Try.f39) (c := bodyOf Try.f39) (rs := [.tmp 0]) (an := (.node [] [] .nil (.node [] [] .nil .nil))) good mixed Try.func39 (by kernel_rfl) (by kernel_rfl) (by kernel_rfl) (by kernel_rfl) (Eq.mp (S39_eq  K w) h)

/-- (*rubric/normal.Maker).Retain -/
def S40 (v0 v1 v2 : Value) (K : Cont) (w : World) : Prop :=
  JoinK (fun _vs w1 => ∀ _h : Env,
  DrawC [6, 7, 10] [[], [], [1], [1, 2], [1, 2, 3], [], [5], [1, 2, 3, 4, 5, 6], [0, 1, 2, 3, 4, 5, 6, 7], [0, 1, 2, 3, 4, 5, 6, 7, 8], [0, 1, 2, 3, 4, 5, 6, 7, 8, 9]] w1.drew (fun M St =>
  nilckK v0 fun t15 =>
  faK 0 t15 fun t16 =>
  sld1 (St 4) t16 fun t17 =>
  callK Try.prog 61 [v0] (fun t19 w2 =>
  Mod (M 6) w1.drew w2 ∧
  runK Try.prog (Builtin.append_ #[50, 50] 50 [t17, t19].toArray) (fun t20 w3 =>
  Mod (M 7) w2 w3 ∧
  nilckK v0 fun t21 =>
  faK 0 t21 fun t22 =>
  st1K t22 t20 (fun w4 =>
  Mod (M 10) w3 w4 ∧
  nilckK v0 fun t25 =>
  faK 1 t25 fun t26 =>
  st1K t26 (.slice none 0 0) (fun w5 =>
  nilckK v0 fun t27 =>
  faK 2 t27 fun t28 =>
  st1K t28 (.int .i64 0) (fun w6 =>
  nilckK v0 fun t30 =>
  faK 0 t30 fun t31 =>
  ld1K t31 (fun t32 w7 =>
  lenK t32 fun t33 =>
  subK .i64 t33 (.int .i64 1) fun t34 =>
  JoinK (fun vs_1 w8 => ∀ _h_1 : Env,
  condK (nth vs_1 0)
  (nilckK v0 fun t61 =>
  faK 0 t61 fun t62 =>
  ld1K t62 (fun t63 w9 =>
  ixK 5 t63 t34 fun t65 =>
  faK 1 t65 fun t66 =>
  ld1K t66 (fun t67 w10 =>
  addK .i64 t67 v1 fun t69 =>
  ixK 5 t63 t34 fun t70 =>
  faK 1 t70 fun t71 =>
  st1K t71 t69 (fun w11 =>
  K (.tuple #[]) w11) w10) w9) w8)
  (DrawC [7, 9, 10, 13] [[], [], [1], [1, 2], [1, 2, 3], [], [], [6], [5, 6, 7], [5, 6, 7, 8], [1, 2, 3, 4, 5, 6, 7, 8, 9], [0, 1, 2, 3, 4, 5, 6, 7, 8, 9, 10], [0, 1, 2, 3, 4, 5, 6, 7, 8, 9, 10, 11], [0, 1, 2, 3, 4, 5, 6, 7, 8, 9, 10, 11, 12]] w8.drew (fun M_1 St_1 =>
  nilckK v0 fun t74 =>
  faK 0 t74 fun t75 =>
  sld1 (St_1 4) t75 fun t76 =>
  callK Try.prog 63 [v2] (fun t79 w12 =>
  Mod (M_1 7) w8.drew w12 ∧
  buildK [(0, 1), (1, 1), (2, 1), (3, 1), (4, 1)] [(.int .u8 0), (.int .i64 0), (.slice none 0 0), (.slice none 0 0), (.slice none 0 0)] [(0, (.int .u8 1)), (1, v1), (4, t79)] fun t80 =>
  rowK 59 5 1 [(.int .u8 0), (.int .i64 0), (.slice none 0 0), (.slice none 0 0), (.slice none 0 0)] [(0, t80)] (fun t81 w13 =>
  Mod (M_1 9) w12 w13 ∧
  runK Try.prog (Builtin.append_ #[50, 50] 50 [t76, t81].toArray) (fun t82 w14 =>
  Mod (M_1 10) w13 w14 ∧
  nilckK v0 fun t83 =>
  faK 0 t83 fun t84 =>
  st1K t84 t82 (fun w15 =>
  Mod (M_1 13) w14 w15 ∧
  K (.tuple #[]) w15) w14) w13) w12) w8.drew))) (fun J_1 =>
  geK .i64 t34 (.int .i64 0) fun t36 =>
  condK t36
  (nilckK v0 fun t39 =>
  faK 0 t39 fun t40 =>
  ld1K t40 (fun t41 w16 =>
  ixK 5 t41 t34 fun t43 =>
  faK 0 t43 fun t44 =>
  ld1K t44 (fun t45 w17 =>
  eqK .u8 t45 (.int .u8 1) fun t46 =>
  condK t46
  (nilckK v0 fun t50 =>
  faK 0 t50 fun t51 =>
  ld1K t51 (fun t52 w18 =>
  ixK 5 t52 t34 fun t54 =>
  faK 4 t54 fun t55 =>
  ld1K t55 (fun t56 w19 =>
  callK Try.prog 62 [t56, v2] (fun t58 w20 =>
  J_1 [t58] w20) w19) w18) w17)
  (J_1 [(.bool false)] w17)) w16) w7)
  (J_1 [(.bool false)] w7))) w6) w5) w4) w3) w2) w1.drew)) (fun J =>
  pnilK v0 fun b8 =>
  condK (.bool b8)
  (K (.tuple #[]) w)
  (ltK .i64 v1 (.int .i64 1) fun t11 =>
  condK t11
  (K (.tuple #[]) w)
  (J [] w)))
theorem S40_eq (v0 v1 v2 : Value) (K : Cont) (w : World) : S40 v0 v1 v2 K w = D Try.prog okf 85 (bodyOf Try.f40) (.cut [] [(7, 12)] (.node [] [] .nil (.node [] [] .nil .nil)) (.node [] [] (.dc [6, 7, 10] [[], [], [1], [1, 2], [1, 2, 3], [], [5], [1, 2, 3, 4, 5, 6], [0, 1, 2, 3, 4, 5, 6, 7], [0, 1, 2, 3, 4, 5, 6, 7, 8], [0, 1, 2, 3, 4, 5, 6, 7, 8, 9]] [[6, 7]]) (.node [] [] .nil (.node [] [] .nil (.node [] [] (.cut [59] [(35, 59)] .nil (.node [] [] (.node [] [] .nil .nil) .nil)) (.dc [7, 9, 10, 13] [[], [], [1], [1, 2], [1, 2, 3], [], [], [6], [5, 6, 7], [5, 6, 7, 8], [1, 2, 3, 4, 5, 6, 7, 8, 9], [0, 1, 2, 3, 4, 5, 6, 7, 8, 9, 10], [0, 1, 2, 3, 4, 5, 6, 7, 8, 9, 10, 11], [0, 1, 2, 3, 4, 5, 6, 7, 8, 9, 10, 11, 12]] [[7], [7, 9, 10]])))))) (retK Try.prog [] K) (nth [v0, v1, v2]) w := by kernel_rfl
theorem S40_ok {v0 v1 v2 : Value} {K : Cont} {w : World} (h : S40 v0 v1 v2 K w) : callK Try.prog 40 [v0, v1, v2] K w :=
  callK_of (P := Try.prog) (ok := okf) (n := 85) (fn := Try.f40) (c := bodyOf Try.f40) (rs := []) (an := (.cut [] [(7, 12)] (.node [] [] .nil (.node [] [] .nil .nil)) (.node [] [] (.dc [6, 7, 10] [[], [], [1], [1, 2], [1, 2, 3], [], [5], [1, 2, 3, 4, 5, 6], [0, 1, 2, 3, 4, 5, 6, 7], [0, 1, 2, 3, 4, 5, 6, 7, 8], [0, 1, 2, 3, 4, 5, 6, 7, 8, 9]] [[6, 7]]) (.node [] [] .nil (.node [] [] .nil (.node [] [] (.cut [59] [(35, 59)] .nil (.node [] [] (.node [] [] .nil .nil) .nil)) (.dc [7, 9, 10, 13] [[], [], [1], [1, 2], [1, 2, 3], [], [], [6], [5, 6, 7], [5, 6, 7, 8], [1, 2, 3, 4, 5, 6, 7, 8, 9], [0, 1, 2, 3, 4, 5, 6, 7, 8, 9, 10], [0, 1, 2, 3, 4, 5, 6, 7, 8, 9, 10, 11], [0, 1, 2, 3, 4, 5, 6, 7, 8, 9, 10, 11, 12]] [[7], [7, 9, 10]]))))))) good mixed Try.func40 (by kernel_rfl) (by kernel_rfl) (by kernel_rfl) (by kernel_rfl) (Eq.mp (S40_eq v0 v1 v2 K w) h)

/-- (*rubric/normal.Maker).Insert -/
def S41 (v0 v1 v2 : Value) (K : Cont) (w : World) : Prop :=
  JoinK (fun _vs w1 => ∀ _h : Env,
  nilckK v0 fun t15 =>
  faK 1 t15 fun t16 =>
  ld1K t16 (fun t17 w2 =>
  lenK t17 fun t18 =>
  subK .i64 t18 (.int .i64 1) fun t19 =>
  JoinK (fun vs_1 w3 => ∀ _h_1 : Env,
  condK (nth vs_1 0)
  (DrawC [14, 17] [[], [0], [0, 1], [0, 1, 2], [], [], [5], [5, 6], [5, 6, 7], [], [5, 6, 7, 8, 9], [5, 6, 7, 8, 9, 10], [5, 6, 7, 8, 9, 10, 11], [], [5, 6, 7, 8, 9, 10, 11, 12, 13], [0, 1, 2, 3, 4, 5, 6, 7, 8, 9, 10, 11, 12, 13, 14], [0, 1, 2, 3, 4, 5, 6, 7, 8, 9, 10, 11, 12, 13, 14, 15], [0, 1, 2, 3, 4, 5, 6, 7, 8, 9, 10, 11, 12, 13, 14, 15, 16]] w3.drew (fun M St =>
  nilckK v0 fun t35 =>
  faK 1 t35 fun t36 =>
  sld1 (St 3) t36 fun t37 =>
  nilckK v0 fun t40 =>
  faK 1 t40 fun t41 =>
  sld1 (St 8) t41 fun t42 =>
  ixK 5 t42 t19 fun t44 =>
  faK 2 t44 fun t45 =>
  sld1 (St 12) t45 fun t46 =>
  runK Try.prog (Builtin.append_ #[56, 56] 56 [t46, v1].toArray) (fun t48 w4 =>
  Mod (M 14) w3.drew w4 ∧
  ixK 5 t37 t19 fun t49 =>
  faK 2 t49 fun t50 =>
  st1K t50 t48 (fun w5 =>
  Mod (M 17) w4 w5 ∧
  K (.tuple #[]) w5) w4) w3.drew))
  (DrawC [6, 8, 10, 11, 14] [[], [], [1], [1, 2], [1, 2, 3], [], [5], [], [5, 6, 7], [5, 6, 7, 8], [5, 6, 7, 8, 9], [1, 2, 3, 4, 5, 6, 7, 8, 9, 10], [0, 1, 2, 3, 4, 5, 6, 7, 8, 9, 10, 11], [0, 1, 2, 3, 4, 5, 6, 7, 8, 9, 10, 11, 12], [0, 1, 2, 3, 4, 5, 6, 7, 8, 9, 10, 11, 12, 13]] w3.drew (fun M_1 St_1 =>
  nilckK v0 fun t53 =>
  faK 1 t53 fun t54 =>
  sld1 (St_1 4) t54 fun t55 =>
  callK Try.prog 64 [v1] (fun t57 w6 =>
  Mod (M_1 6) w3.drew w6 ∧
  callK Try.prog 65 [v2] (fun t59 w7 =>
  Mod (M_1 8) w6 w7 ∧
  buildK [(0, 1), (1, 1), (2, 1), (3, 1), (4, 1)] [(.int .u8 0), (.int .i64 0), (.slice none 0 0), (.slice none 0 0), (.slice none 0 0)] [(0, (.int .u8 2)), (2, t57), (3, t59)] fun t60 =>
  rowK 59 5 1 [(.int .u8 0), (.int .i64 0), (.slice none 0 0), (.slice none 0 0), (.slice none 0 0)] [(0, t60)] (fun t61 w8 =>
  Mod (M_1 10) w7 w8 ∧
  runK Try.prog (Builtin.append_ #[50, 50] 50 [t55, t61].toArray) (fun t62 w9 =>
  Mod (M_1 11) w8 w9 ∧
  nilckK v0 fun t63 =>
  faK 1 t63 fun t64 =>
  st1K t64 t62 (fun w10 =>
  Mod (M_1 14) w9 w10 ∧
  K (.tuple #[]) w10) w9) w8) w7) w6) w3.drew))) (fun J_1 =>
  geK .i64 t19 (.int .i64 0) fun t21 =>
  condK t21
  (nilckK v0 fun t24 =>
  faK 1 t24 fun t25 =>
  ld1K t25 (fun t26 w11 =>
  ixK 5 t26 t19 fun t28 =>
  faK 3 t28 fun t29 =>
  ld1K t29 (fun t30 w12 =>
  callK Try.prog 55 [t30, v2] (fun t32 w13 =>
  J_1 [t32] w13) w12) w11) w2)
  (J_1 [(.bool false)] w2))) w1) (fun J =>
  pnilK v0 fun b8 =>
  condK (.bool b8)
  (K (.tuple #[]) w)
  (lenK v1 fun t11 =>
  eqK .i64 t11 (.int .i64 0) fun t12 =>
  condK t12
  (K (.tuple #[]) w)
  (J [] w)))
theorem S41_eq (v0 v1 v2 : Value) (K : Cont) (w : World) : S41 v0 v1 v2 K w = D Try.prog okf 65 (bodyOf Try.f41) (.cut [] [(7, 13)] (.node [] [] .nil (.node [] [] .nil .nil)) (.node [] [] .nil (.node [] [] (.cut [33] [(20, 33)] .nil (.node [] [] (.node [] [] (.dc [14, 17] [[], [0], [0, 1], [0, 1, 2], [], [], [5], [5, 6], [5, 6, 7], [], [5, 6, 7, 8, 9], [5, 6, 7, 8, 9, 10], [5, 6, 7, 8, 9, 10, 11], [], [5, 6, 7, 8, 9, 10, 11, 12, 13], [0, 1, 2, 3, 4, 5, 6, 7, 8, 9, 10, 11, 12, 13, 14], [0, 1, 2, 3, 4, 5, 6, 7, 8, 9, 10, 11, 12, 13, 14, 15], [0, 1, 2, 3, 4, 5, 6, 7, 8, 9, 10, 11, 12, 13, 14, 15, 16]] [[14]]) .nil) .nil)) (.dc [6, 8, 10, 11, 14] [[], [], [1], [1, 2], [1, 2, 3], [], [5], [], [5, 6, 7], [5, 6, 7, 8], [5, 6, 7, 8, 9], [1, 2, 3, 4, 5, 6, 7, 8, 9, 10], [0, 1, 2, 3, 4, 5, 6, 7, 8, 9, 10, 11], [0, 1, 2, 3, 4, 5, 6, 7, 8, 9, 10, 11, 12], [0, 1, 2, 3, 4, 5, 6, 7, 8, 9, 10, 11, 12, 13]] [[6, 8], [6, 8, 10, 11]])))) (retK Try.prog [] K) (nth [v0, v1, v2]) w := by kernel_rfl
theorem S41_ok {v0 v1 v2 : Value} {K : Cont} {w : World} (h : S41 v0 v1 v2 K w) : callK Try.prog 41 [v0, v1, v2] K w :=
  callK_of (P := Try.prog) (ok := okf) (n := 65) (fn := Try.f41) (c := bodyOf Try.f41) (rs := []) (an := (.cut [] [(7, 13)] (.node [] [] .nil (.node [] [] .nil .nil)) (.node [] [] .nil (.node [] [] (.cut [33] [(20, 33)] .nil (.node [] [] (.node [] [] (.dc [14, 17] [[], [0], [0, 1], [0, 1, 2], [], [], [5], [5, 6], [5, 6, 7], [], [5, 6, 7, 8, 9], [5, 6, 7, 8, 9, 10], [5, 6, 7, 8, 9, 10, 11], [], [5, 6, 7, 8, 9, 10, 11, 12, 13], [0, 1, 2, 3, 4, 5, 6, 7, 8, 9, 10, 11, 12, 13, 14], [0, 1, 2, 3, 4, 5, 6, 7, 8, 9, 10, 11, 12, 13, 14, 15], [0, 1, 2, 3, 4, 5, 6, 7, 8, 9, 10, 11, 12, 13, 14, 15, 16]] [[14]]) .nil) .nil)) (.dc [6, 8, 10, 11, 14] [[], [], [1], [1, 2], [1, 2, 3], [], [5], [], [5, 6, 7], [5, 6, 7, 8], [5, 6, 7, 8, 9], [1, 2, 3, 4, 5, 6, 7, 8, 9, 10], [0, 1, 2, 3, 4, 5, 6, 7, 8, 9, 10, 11], [0, 1, 2, 3, 4, 5, 6, 7, 8, 9, 10, 11, 12], [0, 1, 2, 3, 4, 5, 6, 7, 8, 9, 10, 11, 12, 13]] [[6, 8], [6, 8, 10, 11]]))))) good mixed Try.func41 (by kernel_rfl) (by kernel_rfl) (by kernel_rfl) (by kernel_rfl) (Eq.mp (S41_eq v0 v1 v2 K w) h)

/-- (*rubric/normal.Maker).Delete -/
def S42 (v0 v1 : Value) (K : Cont) (w : World) : Prop :=
  pnilK v0 fun b5 =>
  condK (.bool (!b5))
  (nilckK v0 fun t7 =>
  faK 2 t7 fun t8 =>
  ld1K t8 (fun t9 w1 =>
  maxK .i64 v1 (.int .i64 0) fun t11 =>
  addK .i64 t9 t11 fun t12 =>
  nilckK v0 fun t13 =>
  faK 2 t13 fun t14 =>
  st1K t14 t12 (fun w2 =>
  K (.tuple #[]) w2) w1) w)
  (K (.tuple #[]) w)
theorem S42_eq (v0 v1 : Value) (K : Cont) (w : World) : S42 v0 v1 K w = D Try.prog okf 15 (bodyOf Try.f42) (.node [] [] .nil (.node [] [] .nil .nil)) (retK Try.prog [] K) (nth [v0, v1]) w := by kernel_rfl
theorem S42_ok {v0 v1 : Value} {K : Cont} {w : World} (h : S42 v0 v1 K w) : callK Try.prog 42 [v0, v1] K w :=
  callK_of (P := Try.prog) (ok := okf) (n := 15) (fn := Try.f42) (c := bodyOf Try.f42) (rs := []) (an := (.node [] [] .nil (.node [] [] .nil .nil))) good mixed Try.func42 (by kernel_rfl) (by kernel_rfl) (by kernel_rfl) (by kernel_rfl) (Eq.mp (S42_eq v0 v1 K w) h)

/-- (*rubric/normal.Maker).Ops -/
def S43 (v0 : Value) (K : Cont) (w : World) : Prop :=
  pnilK v0 fun b6 =>
  condK (.bool b6)
  (K (.slice none 0 0) w)
  (DrawC [5, 6, 7] [[], [0], [0, 1], [0, 1, 2], [], [4], [0, 1, 2, 3, 4, 5], [0, 1, 2, 3, 4, 5, 6], [0, 1, 2, 3, 4, 5, 6, 7]] w.drew (fun M St =>
  nilckK v0 fun t8 =>
  faK 0 t8 fun t9 =>
  sld1 (St 3) t9 fun t10 =>
  callK Try.prog 61 [v0] (fun t12 w1 =>
  Mod (M 5) w.drew w1 ∧
  rowK 50 1 2 [(.slice none 0 0)] [(0, t10), (1, t12)] (fun t13 w2 =>
  Mod (M 6) w1 w2 ∧
  callK Try.prog 66 [t13] (fun t14 w3 =>
  Mod (M 7) w2 w3 ∧
  JoinK (fun vs w4 => ∀ _h : Env,
  callK Try.prog 67 [(nth vs 0)] (fun t41 w5 =>
  K t41 w5) w4) (fun J =>
  lenK t14 fun t16 =>
  subK .i64 t16 (.int .i64 1) fun t17 =>
  geK .i64 t17 (.int .i64 0) fun t19 =>
  condK t19
  (ixK 5 t14 t17 fun t23 =>
  faK 0 t23 fun t24 =>
  ld1K t24 (fun t25 w6 =>
  eqK .u8 t25 (.int .u8 1) fun t26 =>
  condK t26
  (ixK 5 t14 t17 fun t31 =>
  faK 4 t31 fun t32 =>
  ld1K t32 (fun t33 w7 =>
  lenK t33 fun t34 =>
  eqK .i64 t34 (.int .i64 0) fun t35 =>
  condK t35
  (runK Try.prog (Instr.sliceAt 50 t14 none (some t17) none) (fun t39 w8 =>
  J [t39] w8) w7)
  (J [t14] w7)) w6)
  (J [t14] w6)) w3)
  (J [t14] w3))) w2) w1) w.drew))
theorem S43_eq (v0 : Value) (K : Cont) (w : World) : S43 v0 K w = D Try.prog okf 42 (bodyOf Try.f43) (.node [] [] .nil (.node [] [] (.node [] [] .nil (.node [] [] (.node [] [] .nil .nil) .nil)) (.node [] [] (.dc [5, 6, 7] [[], [0], [0, 1], [0, 1, 2], [], [4], [0, 1, 2, 3, 4, 5], [0, 1, 2, 3, 4, 5, 6], [0, 1, 2, 3, 4, 5, 6, 7]] []) (.cut [3] [(3, 4), (15, 39)] (.node [] [] .nil (.node [] [] .nil (.node [] [] .nil .nil))) (.node [] [] .nil .nil))))) (retK Try.prog [.tmp 2] K) (nth [v0]) w := by kernel_rfl
theorem S43_ok {v0 : Value} {K : Cont} {w : World} (h : S43 v0 K w) : callK Try.prog 43 [v0] K w :=
  callK_of (P := Try.prog) (ok := okf) (n := 42) (fn := Try.f43) (c := bodyOf Try.f43) (rs := [.tmp 2]) (an := (.node [] [] .nil (.node [] [] (.node [] [] .nil (.node [] [] (.node [] [] .nil .nil) .nil)) (.node [] [] (.dc [5, 6, 7] [[], [0], [0, 1], [0, 1, 2], [], [4], [0, 1, 2, 3, 4, 5], [0, 1, 2, 3, 4, 5, 6], [0, 1, 2, 3, 4, 5, 6, 7]] []) (.cut [3] [(3, 4), (15, 39)] (.node [] [] .nil (.node [] [] .nil (.node [] [] .nil .nil))) (.node [] [] .nil .nil)))))) good mixed Try.func43 (by kernel_rfl) (by kernel_rfl) (by kernel_rfl) (by kernel_rfl) (Eq.mp (S43_eq v0 K w) h)

/-- rubric/ops.Same -/
def S44 (v0 v1 : Value) (K : Cont) (w : World) : Prop :=
  callK Try.prog 68 [v0, v1, (.func (.func 69) #[] #[])] (fun t7 w1 =>
  K t7 w1) w
theorem S44_eq (v0 v1 : Value) (K : Cont) (w : World) : S44 v0 v1 K w = D Try.prog okf 8 (bodyOf Try.f44) (.node [] [] .nil (.node [] [] .nil .nil)) (retK Try.prog [.tmp 4] K) (nth [v0, v1]) w := by kernel_rfl
theorem S44_ok {v0 v1 : Value} {K : Cont} {w : World} (h : S44 v0 v1 K w) : callK Try.prog 44 [v0, v1] K w :=
  callK_of (P := Try.prog) (ok := okf) (n := 8) (fn := Try.f44) (c := bodyOf Try.f44) (rs := [.tmp 4]) (an := (.node [] [] .nil (.node [] [] .nil .nil))) good mixed Try.func44 (by kernel_rfl) (by kernel_rfl) (by kernel_rfl) (by kernel_rfl) (Eq.mp (S44_eq v0 v1 K w) h)

/-- rubric/rubriclaw16.NormalMany$1 -/
def S45 (v0 v1 v2 v3 : Value) (K : Cont) (w : World) : Prop :=
  JoinK (fun _vs w1 => ∀ _h : Env,
  ld1K v2 (fun t14 w2 =>
  ld1K v3 (fun t15 w3 =>
  runK Try.prog (Builtin.append_ #[50, 50] 50 [t14, t15].toArray) (fun t16 w4 =>
  st1K v2 t16 (fun w5 =>
  JoinK (fun _vs_1 w6 => ∀ _h_1 : Env,
  st1K v3 (.slice none 0 0) (fun w7 =>
  st1K v0 (.int .i64 0) (fun w8 =>
  K (.tuple #[]) w8) w7) w6) (fun J_1 =>
  ld1K v0 (fun t17 w9 =>
  gtK .i64 t17 (.int .i64 0) fun t18 =>
  condK t18
  (ld1K v1 (fun t20 w10 =>
  notK t20 fun t21 =>
  condK t21
  (ld1K v2 (fun t23 w11 =>
  ld1K v0 (fun t24 w12 =>
  buildK [(0, 1), (1, 1), (2, 1), (3, 1), (4, 1)] [(.int .u8 0), (.int .i64 0), (.slice none 0 0), (.slice none 0 0), (.slice none 0 0)] [(0, (.int .u8 3)), (1, t24)] fun t25 =>
  rowK 59 5 1 [(.int .u8 0), (.int .i64 0), (.slice none 0 0), (.slice none 0 0), (.slice none 0 0)] [(0, t25)] (fun t26 w13 =>
  runK Try.prog (Builtin.append_ #[50, 50] 50 [t23, t26].toArray) (fun t27 w14 =>
  st1K v2 t27 (fun w15 =>
  J_1 [] w15) w14) w13) w12) w11) w10)
  (J_1 [] w10)) w9)
  (J_1 [] w9)) w5)) w4) w3) w2) w1) (fun J =>
  ld1K v0 (fun t4 w21 =>
  gtK .i64 t4 (.int .i64 0) fun t5 =>
  condK t5
  (ld1K v1 (fun t7 w22 =>
  condK t7
  (ld1K v2 (fun t9 w23 =>
  ld1K v0 (fun t10 w24 =>
  buildK [(0, 1), (1, 1), (2, 1), (3, 1), (4, 1)] [(.int .u8 0), (.int .i64 0), (.slice none 0 0), (.slice none 0 0), (.slice none 0 0)] [(0, (.int .u8 3)), (1, t10)] fun t11 =>
  rowK 59 5 1 [(.int .u8 0), (.int .i64 0), (.slice none 0 0), (.slice none 0 0), (.slice none 0 0)] [(0, t11)] (fun t12 w25 =>
  runK Try.prog (Builtin.append_ #[50, 50] 50 [t9, t12].toArray) (fun t13 w26 =>
  st1K v2 t13 (fun w27 =>
  J [] w27) w26) w25) w24) w23) w22)
  (J [] w22)) w21)
  (J [] w21)) w)
theorem S45_eq (v0 v1 v2 v3 : Value) (K : Cont) (w : World) : S45 v0 v1 v2 v3 K w = D Try.prog okf 28 (bodyOf Try.f45) (.cut [] [(4, 13)] (.node [] [] .nil (.node [] [] .nil .nil)) (.node [] [] .nil (.cut [] [(17, 27)] (.node [] [] .nil (.node [] [] .nil .nil)) .nil))) (retK Try.prog [] K) (nth [v0, v1, v2, v3]) w := by kernel_rfl
theorem S45_ok {v0 v1 v2 v3 : Value} {K : Cont} {w : World} (h : S45 v0 v1 v2 v3 K w) : callK Try.prog 45 [v0, v1, v2, v3] K w :=
  callK_of (P := Try.prog) (ok := okf) (n := 28) (fn := Try.f45) (c := bodyOf Try.f45) (rs := []) (an := (.cut [] [(4, 13)] (.node [] [] .nil (.node [] [] .nil .nil)) (.node [] [] .nil (.cut [] [(17, 27)] (.node [] [] .nil (.node [] [] .nil .nil)) .nil)))) good mixed Try.func45 (by kernel_rfl) (by kernel_rfl) (by kernel_rfl) (by kernel_rfl) (Eq.mp (S45_eq v0 v1 v2 v3 K w) h)

/-- rubric/rubricref04.May -/
def S56 (v0 : Value) (K : Cont) (w : World) : Prop :=
  lenK v0 fun t7 =>
  gtK .i64 t7 (.int .i64 64) fun t8 =>
  condK t8
  (K (.bool false) w)
  (LoopK [(.int .i64 0)] (fun vs again w1 => ∀ _h : Env,
  lenK v0 fun t11 =>
  ltK .i64 (nth vs 0) t11 fun t12 =>
  condK t12
  (ixK 6 v0 (nth vs 0) fun t17 =>
  ldnK 6 t17 (fun t18 w2 =>
  newK 72 [(.int .i64 0), (.bool false), (.int .u8 0), (.bool false), (.bool false), (.int .i64 0)] (fun t4 w3 =>
  stnK 6 t4 t18 (fun w4 =>
  JoinK (fun _vs_1 w5 => ∀ _h_1 : Env,
  LoopK [(.int .i64 0)] (fun vs_2 again_1 w6 => ∀ _h_2 : Env,
  ltK .i64 (nth vs_2 0) (nth vs 0) fun t67 =>
  condK t67
  (DrawK w6 (fun C =>
  ixK 6 v0 (nth vs_2 0) fun t72 =>
  faK 0 t72 fun t73 =>
  qld1K C t73 fun t74 =>
  faK 0 t4 fun t75 =>
  qld1K C t75 fun t76 =>
  eqK .i64 t74 t76 fun t77 =>
  ∀ w7 : World, C w7 →
  condK t77
  (K (.bool false) w7)
  (addK .i64 (nth vs_2 0) (.int .i64 1) fun t69 =>
  again_1 [t69] w7)))
  (addK .i64 (nth vs 0) (.int .i64 1) fun t14 =>
  again [t14] w6)) w5) (fun J =>
  faK 0 t4 fun t19 =>
  ld1K t19 (fun t20 w8 =>
  ltK .i64 t20 (.int .i64 1) fun t21 =>
  condK t21
  (K (.bool false) w8)
  (faK 0 t4 fun t23 =>
  ld1K t23 (fun t24 w9 =>
  gtK .i64 t24 (.int .i64 1000) fun t25 =>
  condK t25
  (K (.bool false) w9)
  (faK 2 t4 fun t28 =>
  ld1K t28 (fun t29 w10 =>
  ltK .u8 t29 (.int .u8 1) fun t30 =>
  condK t30
  (K (.bool false) w10)
  (faK 2 t4 fun t33 =>
  ld1K t33 (fun t34 w11 =>
  gtK .u8 t34 (.int .u8 4) fun t35 =>
  condK t35
  (K (.bool false) w11)
  (faK 5 t4 fun t38 =>
  ld1K t38 (fun t39 w12 =>
  ltK .i64 t39 (.int .i64 0) fun t40 =>
  condK t40
  (K (.bool false) w12)
  (faK 5 t4 fun t43 =>
  ld1K t43 (fun t44 w13 =>
  gtK .i64 t44 (.int .i64 8) fun t45 =>
  condK t45
  (K (.bool false) w13)
  (faK 1 t4 fun t48 =>
  ld1K t48 (fun t49 w14 =>
  notK t49 fun t50 =>
  condK t50
  (faK 5 t4 fun t52 =>
  ld1K t52 (fun t53 w15 =>
  neK .i64 t53 (.int .i64 0) fun t54 =>
  condK t54
  (K (.bool false) w15)
  (faK 1 t4 fun t58 =>
  ld1K t58 (fun t59 w16 =>
  condK t59
  (faK 4 t4 fun t61 =>
  ld1K t61 (fun t62 w17 =>
  condK t62
  (K (.bool false) w17)
  (J [] w17)) w16)
  (J [] w16)) w15)) w14)
  (faK 1 t4 fun t58_1 =>
  ld1K t58_1 (fun t59_1 w18 =>
  condK t59_1
  (faK 4 t4 fun t61_1 =>
  ld1K t61_1 (fun t62_1 w19 =>
  condK t62_1
  (K (.bool false) w19)
  (J [] w19)) w18)
  (J [] w18)) w14)) w13)) w12)) w11)) w10)) w9)) w8)) w4)) w3) w2) w1)
  (K (.bool true) w1)) w)
theorem S56_eq (v0 : Value) (K : Cont) (w : World) : S56 v0 K w = D Try.prog okf 78 (bodyOf Try.f56) (.node [] [] .nil (.node [] [] (.node [] [] .nil (.node [] [] (.node [] [] .nil .nil) .nil)) (.node [] [] (.node [] [] .nil (.node [3] [(2, 5), (9, 77)] (.node [] [] (.node [] [] .nil (.node [] [] .nil .nil)) (.node [] [] (.node [] [] .nil (.cut [] [(2, 2), (19, 64)] (.node [] [] .nil (.node [] [] (.node [] [] .nil .nil) .nil)) (.node [] [] .nil (.node [5] [(2, 2), (5, 5), (65, 77)] (.node [] [] (.node [] [] .nil (.node [] [] .nil .nil)) (.node [] [] (.node [] [] .draw (.node [] [] (.node [] [] .nil .nil) .nil)) .nil)) .nil)))) .nil)) .nil)) (.node [] [] .nil .nil)))) (retK Try.prog [.tmp 2] K) (nth [v0]) w := by kernel_rfl
theorem S56_ok {v0 : Value} {K : Cont} {w : World} (h : S56 v0 K w) : callK Try.prog 56 [v0] K w :=
  callK_of (P := Try.prog) (ok := okf) (n := 78) (fn := Try.f56) (c := bodyOf Try.f56) (rs := [.tmp 2]) (an := (.node [] [] .nil (.node [] [] (.node [] [] .nil (.node [] [] (.node [] [] .nil .nil) .nil)) (.node [] [] (.node [] [] .nil (.node [3] [(2, 5), (9, 77)] (.node [] [] (.node [] [] .nil (.node [] [] .nil .nil)) (.node [] [] (.node [] [] .nil (.cut [] [(2, 2), (19, 64)] (.node [] [] .nil (.node [] [] (.node [] [] .nil .nil) .nil)) (.node [] [] .nil (.node [5] [(2, 2), (5, 5), (65, 77)] (.node [] [] (.node [] [] .nil (.node [] [] .nil .nil)) (.node [] [] (.node [] [] .draw (.node [] [] (.node [] [] .nil .nil) .nil)) .nil)) .nil)))) .nil)) .nil)) (.node [] [] .nil .nil))))) good mixed Try.func56 (by kernel_rfl) (by kernel_rfl) (by kernel_rfl) (by kernel_rfl) (Eq.mp (S56_eq v0 K w) h)

/-- rubric/rubricref15.May -/
def S57 (v0 v1 : Value) (K : Cont) (w : World) : Prop :=
  LoopK [(.int .i64 0)] (fun vs again w1 => ∀ _h : Env,
  lenK v1 fun t9 =>
  ltK .i64 (nth vs 0) t9 fun t10 =>
  condK t10
  (JoinK (fun _vs_1 w2 => ∀ _h_1 : Env,
  addK .i64 (nth vs 0) (.int .i64 1) fun t12 =>
  again [t12] w2) (fun J =>
  ixK 5 v1 (nth vs 0) fun t15 =>
  ldnK 5 t15 (fun t16 w3 =>
  callK Try.prog 80 [t16] (fun t17 w4 =>
  notK t17 fun t18 =>
  condK t18
  (K (.int .i64 3) w4)
  (ixK 5 v1 (nth vs 0) fun t23 =>
  faK 3 t23 fun t24 =>
  ld1K t24 (fun t25 w5 =>
  callK Try.prog 81 [v0, t25] (fun t26 w6 =>
  eqK .i64 t26 (.int .i64 3) fun t27 =>
  condK t27
  (K (.int .i64 3) w6)
  (ixK 5 v1 (nth vs 0) fun t33 =>
  faK 4 t33 fun t34 =>
  ld1K t34 (fun t35 w7 =>
  callK Try.prog 82 [v0, t35] (fun t36 w8 =>
  eqK .i64 t36 (.int .i64 3) fun t37 =>
  condK t37
  (K (.int .i64 3) w8)
  (J [] w8)) w7) w6)) w5) w4)) w3) w1))
  (JoinK (fun _vs_2 w9 => ∀ _h_2 : Env,
  LoopK [(.int .i64 0)] (fun vs_3 again_1 w10 => ∀ _h_3 : Env,
  lenK v1 fun t49 =>
  ltK .i64 (nth vs_3 0) t49 fun t50 =>
  condK t50
  (ixK 5 v1 (nth vs_3 0) fun t56 =>
  faK 3 t56 fun t57 =>
  ld1K t57 (fun t58 w11 =>
  callK Try.prog 81 [v0, t58] (fun t59 w12 =>
  neK .i64 t59 (.int .i64 0) fun t60 =>
  condK t60
  (K (.int .i64 4) w12)
  (ixK 5 v1 (nth vs_3 0) fun t65 =>
  faK 4 t65 fun t66 =>
  ld1K t66 (fun t67 w13 =>
  callK Try.prog 82 [v0, t67] (fun t68 w14 =>
  neK .i64 t68 (.int .i64 0) fun t69 =>
  condK t69
  (K (.int .i64 4) w14)
  (addK .i64 (nth vs_3 0) (.int .i64 1) fun t52_1 =>
  again_1 [t52_1] w14)) w13) w12)) w11) w10)
  (K (.int .i64 0) w10)) w9) (fun J_1 =>
  callK Try.prog 83 [v1] (fun t40 w15 =>
  gtK .i64 t40 (.int .i64 536870912) fun t41 =>
  condK t41
  (K (.int .i64 3) w15)
  (callK Try.prog 84 [v1] (fun t44 w16 =>
  gtK .i64 t44 (.int .i64 536870912) fun t45 =>
  condK t45
  (K (.int .i64 3) w16)
  (J_1 [] w16)) w15)) w1))) w
theorem S57_eq (v0 v1 : Value) (K : Cont) (w : World) : S57 v0 v1 K w = D Try.prog okf 71 (bodyOf Try.f57) (.node [] [] .nil (.node [] [] (.node [] [] .nil (.node [5] [(4, 5), (7, 38)] (.node [] [] (.node [] [] .nil (.node [] [] .nil .nil)) (.cut [] [(4, 4), (13, 38)] (.node [] [] .nil (.node [] [] (.node [] [] .nil .nil) .nil)) .nil)) .nil)) (.cut [] [(4, 4), (39, 46)] (.node [] [] .nil (.node [] [] (.node [] [] .nil .nil) .nil)) (.node [] [] (.node [] [] .nil (.node [6] [(4, 4), (6, 6), (47, 70)] (.node [] [] (.node [] [] .nil (.node [] [] .nil .nil)) (.node [] [] (.node [] [] .nil (.node [] [] (.node [] [] .nil .nil) .nil)) .nil)) .nil)) (.node [] [] .nil .nil))))) (retK Try.prog [.tmp 4] K) (nth [v0, v1]) w := by kernel_rfl
theorem S57_ok {v0 v1 : Value} {K : Cont} {w : World} (h : S57 v0 v1 K w) : callK Try.prog 57 [v0, v1] K w :=
  callK_of (P := Try.prog) (ok := okf) (n := 71) (fn := Try.f57) (c := bodyOf Try.f57) (rs := [.tmp 4]) (an := (.node [] [] .nil (.node [] [] (.node [] [] .nil (.node [5] [(4, 5), (7, 38)] (.node [] [] (.node [] [] .nil (.node [] [] .nil .nil)) (.cut [] [(4, 4), (13, 38)] (.node [] [] .nil (.node [] [] (.node [] [] .nil .nil) .nil)) .nil)) .nil)) (.cut [] [(4, 4), (39, 46)] (.node [] [] .nil (.node [] [] (.node [] [] .nil .nil) .nil)) (.node [] [] (.node [] [] .nil (.node [6] [(4, 4), (6, 6), (47, 70)] (.node [] [] (.node [] [] .nil (.node [] [] .nil .nil)) (.node [] [] (.node [] [] .nil (.node [] [] (.node [] [] .nil .nil) .nil)) .nil)) .nil)) (.node [] [] .nil .nil)))))) good mixed Try.func57 (by kernel_rfl) (by kernel_rfl) (by kernel_rfl) (by kernel_rfl) (Eq.mp (S57_eq v0 v1 K w) h)

/-- rubric/rubricref01.Same -/
def S58 (v0 v1 : Value) (K : Cont) (w : World) : Prop :=
  lenK v0 fun t7 =>
  lenK v1 fun t9 =>
  neK .i64 t7 t9 fun t10 =>
  condK t10
  (K (.bool false) w)
  (LoopK [(.int .i64 0)] (fun vs again w1 => ∀ _h : Env,
  lenK v0 fun t13 =>
  ltK .i64 (nth vs 0) t13 fun t14 =>
  condK t14
  (DrawK w1 (fun C =>
  ixK 1 v0 (nth vs 0) fun t19 =>
  qld1K C t19 fun t20 =>
  ixK 1 v1 (nth vs 0) fun t23 =>
  qld1K C t23 fun t24 =>
  neK .i32 t20 t24 fun t25 =>
  ∀ w2 : World, C w2 →
  condK t25
  (K (.bool false) w2)
  (addK .i64 (nth vs 0) (.int .i64 1) fun t16 =>
  again [t16] w2)))
  (K (.bool true) w1)) w)
theorem S58_eq (v0 v1 : Value) (K : Cont) (w : World) : S58 v0 v1 K w = D Try.prog okf 26 (bodyOf Try.f58) (.node [] [] .nil (.node [] [] (.node [] [] .nil (.node [] [] (.node [] [] .nil .nil) .nil)) (.node [] [] (.node [] [] .nil (.node [5] [(4, 5), (11, 25)] (.node [] [] (.node [] [] .nil (.node [] [] .nil .nil)) (.node [] [] (.node [] [] .draw (.node [] [] (.node [] [] .nil .nil) .nil)) .nil)) .nil)) (.node [] [] .nil .nil)))) (retK Try.prog [.tmp 4] K) (nth [v0, v1]) w := by kernel_rfl
theorem S58_ok {v0 v1 : Value} {K : Cont} {w : World} (h : S58 v0 v1 K w) : callK Try.prog 58 [v0, v1] K w :=
  callK_of (P := Try.prog) (ok := okf) (n := 26) (fn := Try.f58) (c := bodyOf Try.f58) (rs := [.tmp 4]) (an := (.node [] [] .nil (.node [] [] (.node [] [] .nil (.node [] [] (.node [] [] .nil .nil) .nil)) (.node [] [] (.node [] [] .nil (.node [5] [(4, 5), (11, 25)] (.node [] [] (.node [] [] .nil (.node [] [] .nil .nil)) (.node [] [] (.node [] [] .draw (.node [] [] (.node [] [] .nil .nil) .nil)) .nil)) .nil)) (.node [] [] .nil .nil))))) good mixed Try.func58 (by kernel_rfl) (by kernel_rfl) (by kernel_rfl) (by kernel_rfl) (Eq.mp (S58_eq v0 v1 K w) h)

/-- rubric/rubricref06.Same -/
def S59 (v0 v1 : Value) (K : Cont) (w : World) : Prop :=
  lenK v0 fun t7 =>
  lenK v1 fun t9 =>
  neK .i64 t7 t9 fun t10 =>
  condK t10
  (K (.bool false) w)
  (LoopK [(.int .i64 0)] (fun vs again w1 => ∀ _h : Env,
  lenK v0 fun t13 =>
  ltK .i64 (nth vs 0) t13 fun t14 =>
  condK t14
  (DrawK w1 (fun C =>
  ixK 6 v0 (nth vs 0) fun t19 =>
  qldnK C 6 t19 fun t20 =>
  ixK 6 v1 (nth vs 0) fun t23 =>
  qldnK C 6 t23 fun t24 =>
  qrunK Try.prog C (binS .neq 61 (.tmp 20) (.tmp 24) t20 t24) fun t25 =>
  ∀ w2 : World, C w2 →
  condK t25
  (K (.bool false) w2)
  (addK .i64 (nth vs 0) (.int .i64 1) fun t16 =>
  again [t16] w2)))
  (K (.bool true) w1)) w)
theorem S59_eq (v0 v1 : Value) (K : Cont) (w : World) : S59 v0 v1 K w = D Try.prog okf 26 (bodyOf Try.f59) (.node [] [] .nil (.node [] [] (.node [] [] .nil (.node [] [] (.node [] [] .nil .nil) .nil)) (.node [] [] (.node [] [] .nil (.node [5] [(4, 5), (11, 25)] (.node [] [] (.node [] [] .nil (.node [] [] .nil .nil)) (.node [] [] (.node [] [] .draw (.node [] [] (.node [] [] .nil .nil) .nil)) .nil)) .nil)) (.node [] [] .nil .nil)))) (retK Try.prog [.tmp 4] K) (nth [v0, v1]) w := by kernel_rfl
theorem S59_ok {v0 v1 : Value} {K : Cont} {w : World} (h : S59 v0 v1 K w) : callK Try.prog 59 [v0, v1] K w :=
  callK_of (P := Try.prog) (ok := okf) (n := 26) (fn := Try.f59) (c := bodyOf Try.f59) (rs := [.tmp 4]) (an := (.node [] [] .nil (.node [] [] (.node [] [] .nil (.node [] [] (.node [] [] .nil .nil) .nil)) (.node [] [] (.node [] [] .nil (.node [5] [(4, 5), (11, 25)] (.node [] [] (.node [] [] .nil (.node [] [] .nil .nil)) (.node [] [] (.node [] [] .draw (.node [] [] (.node [] [] .nil .nil) .nil)) .nil)) .nil)) (.node [] [] .nil .nil))))) good mixed Try.func59 (by kernel_rfl) (by kernel_rfl) (by kernel_rfl) (by kernel_rfl) (Eq.mp (S59_eq v0 v1 K w) h)

/-- rubric/rubricref16.gap -/
def S60 (v0 : Value) (K : Cont) (w : World) : Prop :=
  LoopK [(.slice none 0 0), (.int .i64 0), (.int .i64 0)] (fun vs again w1 => ∀ _h : Env,
  lenK v0 fun t10 =>
  ltK .i64 (nth vs 2) t10 fun t11 =>
  condK t11
  (JoinK (fun vs_1 w2 => ∀ _h_1 : Env,
  addK .i64 (nth vs 2) (.int .i64 1) fun t13 =>
  again [(nth vs_1 0), (nth vs_1 1), t13] w2) (fun J =>
  ixK 5 v0 (nth vs 2) fun t16 =>
  ldnK 5 t16 (fun t17 w3 =>
  newK 59 [(.int .u8 0), (.int .i64 0), (.slice none 0 0), (.slice none 0 0), (.slice none 0 0)] (fun t6 w4 =>
  stnK 5 t6 t17 (fun w5 =>
  faK 0 t6 fun t18 =>
  ld1K t18 (fun t19 w6 =>
  eqK .u8 t19 (.int .u8 3) fun t20 =>
  condK t20
  (faK 1 t6 fun t22 =>
  ld1K t22 (fun t23 w7 =>
  addK .i64 (nth vs 1) t23 fun t24 =>
  J [(nth vs 0), t24] w7) w6)
  (lenK (nth vs 0) fun t26 =>
  subK .i64 t26 (.int .i64 1) fun t27 =>
  JoinK (fun vs_2 w8 => ∀ _h_2 : Env,
  condK (nth vs_2 0)
  (DrawC [2, 8, 11, 14] [[], [], [], [], [], [3, 4], [3, 4, 5], [3, 4, 5, 6], [2, 3, 4, 5, 6, 7], [], [9], [2, 3, 4, 5, 6, 7, 8, 9, 10], [0, 1, 2, 3, 4, 5, 6, 7, 8, 9, 10, 11], [0, 1, 2, 3, 4, 5, 6, 7, 8, 9, 10, 11, 12], [0, 1, 2, 3, 4, 5, 6, 7, 8, 9, 10, 11, 12, 13]] w8.drew (fun M St =>
  rowK 21 1 0 [] [] (fun t42 w9 =>
  Mod (M 2) w8.drew w9 ∧
  ixK 5 (nth vs 0) t27 fun t45 =>
  faK 2 t45 fun t46 =>
  sld1 (St 7) t46 fun t47 =>
  runK Try.prog (Builtin.append_ #[56, 56] 56 [t42, t47].toArray) (fun t48 w10 =>
  Mod (M 8) w9 w10 ∧
  faK 2 t6 fun t49 =>
  sld1 (St 10) t49 fun t50 =>
  runK Try.prog (Builtin.append_ #[56, 56] 56 [t48, t50].toArray) (fun t51 w11 =>
  Mod (M 11) w10 w11 ∧
  ixK 5 (nth vs 0) t27 fun t52 =>
  faK 2 t52 fun t53 =>
  st1K t53 t51 (fun w12 =>
  Mod (M 14) w11 w12 ∧
  J [(nth vs 0), (nth vs 1)] w12) w11) w10) w9) w8.drew))
  (ldnK 5 t6 (fun t55 w13 =>
  rowK 59 5 1 [(.int .u8 0), (.int .i64 0), (.slice none 0 0), (.slice none 0 0), (.slice none 0 0)] [(0, t55)] (fun t56 w14 =>
  runK Try.prog (Builtin.append_ #[50, 50] 50 [(nth vs 0), t56].toArray) (fun t57 w15 =>
  J [t57, (nth vs 1)] w15) w14) w13) w8)) (fun J_1 =>
  DrawK w6 (fun C =>
  geK .i64 t27 (.int .i64 0) fun t29 =>
  condK t29
  (ixK 5 (nth vs 0) t27 fun t33 =>
  faK 3 t33 fun t34 =>
  qld1K C t34 fun t35 =>
  faK 3 t6 fun t36 =>
  qld1K C t36 fun t37 =>
  qcallK Try.prog C 21 [t35, t37] fun t38 =>
  ∀ w16 : World, C w16 →
  J_1 [t38] w16)
  (∀ w17 : World, C w17 →
  J_1 [(.bool false)] w17))))) w5) w4) w3) w1))
  (gtK .i64 (nth vs 1) (.int .i64 0) fun t59 =>
  condK t59
  (buildK [(0, 1), (1, 1), (2, 1), (3, 1), (4, 1)] [(.int .u8 0), (.int .i64 0), (.slice none 0 0), (.slice none 0 0), (.slice none 0 0)] [(0, (.int .u8 3)), (1, (nth vs 1))] fun t62 =>
  rowK 59 5 1 [(.int .u8 0), (.int .i64 0), (.slice none 0 0), (.slice none 0 0), (.slice none 0 0)] [(0, t62)] (fun t63 w18 =>
  runK Try.prog (Builtin.append_ #[50, 50] 50 [(nth vs 0), t63].toArray) (fun t64 w19 =>
  K t64 w19) w18) w1)
  (K (nth vs 0) w1))) w
theorem S60_eq (v0 : Value) (K : Cont) (w : World) : S60 v0 K w = D Try.prog okf 66 (bodyOf Try.f60) (.node [] [] .nil (.node [] [] .nil (.node [] [] .nil (.node [] [] (.node [] [] .nil (.node [3, 4, 5] [(3, 57)] (.node [] [] (.node [] [] .nil (.node [] [] .nil .nil)) (.cut [3, 4] [(3, 4), (6, 7), (14, 57)] (.node [] [] .nil (.node [] [] (.node [] [] .nil (.node [] [] (.node [] [] .nil .nil) .nil)) (.node [] [] .nil (.cut [39] [(28, 39)] .draw (.node [] [] (.dc [2, 8, 11, 14] [[], [], [], [], [], [3, 4], [3, 4, 5], [3, 4, 5, 6], [2, 3, 4, 5, 6, 7], [], [9], [2, 3, 4, 5, 6, 7, 8, 9, 10], [0, 1, 2, 3, 4, 5, 6, 7, 8, 9, 10, 11], [0, 1, 2, 3, 4, 5, 6, 7, 8, 9, 10, 11, 12], [0, 1, 2, 3, 4, 5, 6, 7, 8, 9, 10, 11, 12, 13]] [[2, 8, 11]]) .nil))))) .nil)) .nil)) (.node [] [] (.node [] [] .nil (.node [] [] .nil .nil)) (.node [] [] .nil .nil)))))) (retK Try.prog [.tmp 2] K) (nth [v0]) w := by kernel_rfl
theorem S60_ok {v0 : Value} {K : Cont} {w : World} (h : S60 v0 K w) : callK Try.prog 60 [v0] K w :=
  callK_of (P := Try.prog) (ok := okf) (n := 66) (fn := Try.f60) (c := bodyOf Try.f60) (rs := [.tmp 2]) (an := (.node [] [] .nil (.node [] [] .nil (.node [] [] .nil (.node [] [] (.node [] [] .nil (.node [3, 4, 5] [(3, 57)] (.node [] [] (.node [] [] .nil (.node [] [] .nil .nil)) (.cut [3, 4] [(3, 4), (6, 7), (14, 57)] (.node [] [] .nil (.node [] [] (.node [] [] .nil (.node [] [] (.node [] [] .nil .nil) .nil)) (.node [] [] .nil (.cut [39] [(28, 39)] .draw (.node [] [] (.dc [2, 8, 11, 14] [[], [], [], [], [], [3, 4], [3, 4, 5], [3, 4, 5, 6], [2, 3, 4, 5, 6, 7], [], [9], [2, 3, 4, 5, 6, 7, 8, 9, 10], [0, 1, 2, 3, 4, 5, 6, 7, 8, 9, 10, 11], [0, 1, 2, 3, 4, 5, 6, 7, 8, 9, 10, 11, 12], [0, 1, 2, 3, 4, 5, 6, 7, 8, 9, 10, 11, 12, 13]] [[2, 8, 11]]) .nil))))) .nil)) .nil)) (.node [] [] (.node [] [] .nil (.node [] [] .nil .nil)) (.node [] [] .nil .nil))))))) good mixed Try.func60 (by kernel_rfl) (by kernel_rfl) (by kernel_rfl) (by kernel_rfl) (Eq.mp (S60_eq v0 K w) h)

/-- (*rubric/normal.Maker).gap -/
def S61 (v0 : Value) (K : Cont) (w : World) : Prop :=
  nilckK v0 fun t5 =>
  faK 1 t5 fun t6 =>
  ld1K t6 (fun t7 w1 =>
  callK Try.prog 85 [t7] (fun t8 w2 =>
  nilckK v0 fun t10 =>
  faK 2 t10 fun t11 =>
  ld1K t11 (fun t12 w3 =>
  gtK .i64 t12 (.int .i64 0) fun t13 =>
  condK t13
  (nilckK v0 fun t16 =>
  faK 2 t16 fun t17 =>
  ld1K t17 (fun t18 w4 =>
  buildK [(0, 1), (1, 1), (2, 1), (3, 1), (4, 1)] [(.int .u8 0), (.int .i64 0), (.slice none 0 0), (.slice none 0 0), (.slice none 0 0)] [(0, (.int .u8 3)), (1, t18)] fun t19 =>
  rowK 59 5 1 [(.int .u8 0), (.int .i64 0), (.slice none 0 0), (.slice none 0 0), (.slice none 0 0)] [(0, t19)] (fun t20 w5 =>
  runK Try.prog (Builtin.append_ #[50, 50] 50 [t8, t20].toArray) (fun t21 w6 =>
  K t21 w6) w5) w4) w3)
  (K t8 w3)) w2) w1) w
theorem S61_eq (v0 : Value) (K : Cont) (w : World) : S61 v0 K w = D Try.prog okf 23 (bodyOf Try.f61) (.node [] [] .nil (.node [] [] .nil (.node [] [] (.node [] [] .nil (.node [] [] .nil .nil)) (.node [] [] .nil .nil)))) (retK Try.prog [.tmp 2] K) (nth [v0]) w := by kernel_rfl
theorem S61_ok {v0 : Value} {K : Cont} {w : World} (h : S61 v0 K w) : callK Try.prog 61 [v0] K w :=
  callK_of (P := Try.prog) (ok := okf) (n := 23) (fn := Try.f61) (c := bodyOf Try.f61) (rs := [.tmp 2]) (an := (.node [] [] .nil (.node [] [] .nil (.node [] [] (.node [] [] .nil (.node [] [] .nil .nil)) (.node [] [] .nil .nil))))) good mixed Try.func61 (by kernel_rfl) (by kernel_rfl) (by kernel_rfl) (by kernel_rfl) (Eq.mp (S61_eq v0 K w) h)

/-- rubric/patch.Same -/
def S62 (v0 v1 : Value) (K : Cont) (w : World) : Prop :=
  callK Try.prog 86 [v0, v1] (fun t7 w1 =>
  K t7 w1) w
theorem S62_eq (v0 v1 : Value) (K : Cont) (w : World) : S62 v0 v1 K w = D Try.prog okf 8 (bodyOf Try.f62) (.node [] [] .nil (.node [] [] .nil .nil)) (retK Try.prog [.tmp 4] K) (nth [v0, v1]) w := by kernel_rfl
theorem S62_ok {v0 v1 : Value} {K : Cont} {w : World} (h : S62 v0 v1 K w) : callK Try.prog 62 [v0, v1] K w :=
  callK_of (P := Try.prog) (ok := okf) (n := 8) (fn := Try.f62) (c := bodyOf Try.f62) (rs := [.tmp 4]) (an := (.node [] [] .nil (.node [] [] .nil .nil))) good mixed Try.func62 (by kernel_rfl) (by kernel_rfl) (by kernel_rfl) (by kernel_rfl) (Eq.mp (S62_eq v0 v1 K w) h)

/-- rubric/patch.Copy -/
def S63 (v0 : Value) (K : Cont) (w : World) : Prop :=
  callK Try.prog 87 [v0] (fun t4 w1 =>
  K t4 w1) w
theorem S63_eq (v0 : Value) (K : Cont) (w : World) : S63 v0 K w = D Try.prog okf 5 (bodyOf Try.f63) (.node [] [] .nil (.node [] [] .nil .nil)) (retK Try.prog [.tmp 2] K) (nth [v0]) w := by kernel_rfl
theorem S63_ok {v0 : Value} {K : Cont} {w : World} (h : S63 v0 K w) : callK Try.prog 63 [v0] K w :=
  callK_of (P := Try.prog) (ok := okf) (n := 5) (fn := Try.f63) (c := bodyOf Try.f63) (rs := [.tmp 2]) (an := (.node [] [] .nil (.node [] [] .nil .nil))) good mixed Try.func63 (by kernel_rfl) (by kernel_rfl) (by kernel_rfl) (by kernel_rfl) (Eq.mp (S63_eq v0 K w) h)

/-- slices.Clone[[]int32,int32] -/
def S64 (v0 : Value) (K : Cont) (w : World) : Prop :=
  snilK v0 fun b4 =>
  condK (.bool b4)
  (K (.slice none 0 0) w)
  (rowK 21 1 0 [] [] (fun t5 w1 =>
  runK Try.prog (Builtin.append_ #[56, 56] 56 [t5, v0].toArray) (fun t7 w2 =>
  K t7 w2) w1) w)
theorem S64_eq (v0 : Value) (K : Cont) (w : World) : S64 v0 K w = D Try.prog okf 8 (bodyOf Try.f64) (.node [] [] .nil (.node [] [] (.node [] [] .nil (.node [] [] (.node [] [] .nil .nil) .nil)) (.node [] [] .nil .nil))) (retK Try.prog [.tmp 2] K) (nth [v0]) w := by kernel_rfl
theorem S64_ok {v0 : Value} {K : Cont} {w : World} (h : S64 v0 K w) : callK Try.prog 64 [v0] K w :=
  callK_of (P := Try.prog) (ok := okf) (n := 8) (fn := Try.f64) (c := bodyOf Try.f64) (rs := [.tmp 2]) (an := (.node [] [] .nil (.node [] [] (.node [] [] .nil (.node [] [] (.node [] [] .nil .nil) .nil)) (.node [] [] .nil .nil)))) good mixed Try.func64 (by kernel_rfl) (by kernel_rfl) (by kernel_rfl) (by kernel_rfl) (Eq.mp (S64_eq v0 K w) h)

/-- slices.Concat[[]rubric/api.Op,rubric/api.Op] -/
def S66 (v0 : Value) (K : Cont) (w : World) : Prop :=
  lenK v0 fun t10 =>
  LoopK [(.int .i64 0), (.int .i64 0)] (fun vs again w1 => ∀ _h : Env,
  ltK .i64 (nth vs 1) t10 fun t12 =>
  condK t12
  (ixK 1 v0 (nth vs 1) fun t13 =>
  ld1K t13 (fun t14 w2 =>
  lenK t14 fun t17 =>
  addK .i64 (nth vs 0) t17 fun t18 =>
  ltK .i64 t18 (.int .i64 0) fun t20 =>
  condK t20
  (runK Try.prog (Instr.makeInterface 9 (.string (ByteArray.mk #[108, 101, 110, 32, 111, 117, 116, 32, 111, 102, 32, 114, 97, 110, 103, 101]))) (fun _t21 w3 =>
  False) w2)
  (addK .i64 (nth vs 1) (.int .i64 1) fun t22 =>
  again [t18, t22] w2)) w1)
  (callK Try.prog 88 [(.slice none 0 0), (nth vs 0)] (fun t24 w4 =>
  lenK v0 fun t26 =>
  LoopK [t24, (.int .i64 0)] (fun vs_1 again_1 w5 => ∀ _h_1 : Env,
  ltK .i64 (nth vs_1 1) t26 fun t28 =>
  condK t28
  (ixK 1 v0 (nth vs_1 1) fun t29 =>
  ld1K t29 (fun t30 w6 =>
  runK Try.prog (Builtin.append_ #[50, 50] 50 [(nth vs_1 0), t30].toArray) (fun t33 w7 =>
  addK .i64 (nth vs_1 1) (.int .i64 1) fun t34 =>
  again_1 [t33, t34] w7) w6) w5)
  (K (nth vs_1 0) w5)) w4) w1)) w
theorem S66_eq (v0 : Value) (K : Cont) (w : World) : S66 v0 K w = D Try.prog okf 36 (bodyOf Try.f66) (.node [] [] .nil (.node [] [] .nil (.node [] [] (.node [] [] .nil (.node [3, 11] [(3, 3), (5, 5), (11, 22)] (.node [] [] .nil (.node [] [] (.node [] [] .nil .nil) (.node [] [] (.node [] [] .nil (.node [] [] .nil (.node [] [] .nil (.node [] [] .nil .nil)))) .nil))) .nil)) (.node [] [] .nil (.node [] [] (.node [] [] .nil (.node [6, 27] [(6, 6), (8, 8), (27, 34)] (.node [] [] .nil (.node [] [] (.node [] [] .nil .nil) (.node [] [] (.node [] [] .nil .nil) .nil))) .nil)) (.node [] [] .nil .nil)))))) (retK Try.prog [.tmp 2] K) (nth [v0]) w := by kernel_rfl
theorem S66_ok {v0 : Value} {K : Cont} {w : World} (h : S66 v0 K w) : callK Try.prog 66 [v0] K w :=
  callK_of (P := Try.prog) (ok := okf) (n := 36) (fn := Try.f66) (c := bodyOf Try.f66) (rs := [.tmp 2]) (an := (.node [] [] .nil (.node [] [] .nil (.node [] [] (.node [] [] .nil (.node [3, 11] [(3, 3), (5, 5), (11, 22)] (.node [] [] .nil (.node [] [] (.node [] [] .nil .nil) (.node [] [] (.node [] [] .nil (.node [] [] .nil (.node [] [] .nil (.node [] [] .nil .nil)))) .nil))) .nil)) (.node [] [] .nil (.node [] [] (.node [] [] .nil (.node [6, 27] [(6, 6), (8, 8), (27, 34)] (.node [] [] .nil (.node [] [] (.node [] [] .nil .nil) (.node [] [] (.node [] [] .nil .nil) .nil))) .nil)) (.node [] [] .nil .nil))))))) good mixed Try.func66 (by kernel_rfl) (by kernel_rfl) (by kernel_rfl) (by kernel_rfl) (Eq.mp (S66_eq v0 K w) h)

/-- rubric/ops.Copy -/
def S67 (v0 : Value) (K : Cont) (w : World) : Prop :=
  callK Try.prog 85 [v0] (fun t6 w1 =>
  lenK t6 fun t8 =>
  LoopK [(.int .i64 0)] (fun vs again w2 => ∀ _h : Env,
  ltK .i64 (nth vs 0) t8 fun t10 =>
  condK t10
  (DrawC [11, 17, 23, 26, 29, 32] [[], [], [], [], [], [], [], [], [6, 7], [6, 7, 8], [6, 7, 8, 9], [6, 7, 8, 9, 10], [], [], [12, 13], [12, 13, 14], [12, 13, 14, 15], [6, 7, 8, 9, 10, 11, 12, 13, 14, 15, 16], [], [], [18, 19], [18, 19, 20], [18, 19, 20, 21], [6, 7, 8, 9, 10, 11, 12, 13, 14, 15, 16, 17, 18, 19, 20, 21, 22], [0, 1, 6, 7, 8, 9, 10, 11, 12, 13, 14, 15, 16, 17, 18, 19, 20, 21, 22, 23], [0, 1, 6, 7, 8, 9, 10, 11, 12, 13, 14, 15, 16, 17, 18, 19, 20, 21, 22, 23, 24], [0, 1, 6, 7, 8, 9, 10, 11, 12, 13, 14, 15, 16, 17, 18, 19, 20, 21, 22, 23, 24, 25], [0, 1, 2, 3, 6, 7, 8, 9, 10, 11, 12, 13, 14, 15, 16, 17, 18, 19, 20, 21, 22, 23, 24, 25, 26], [0, 1, 2, 3, 6, 7, 8, 9, 10, 11, 12, 13, 14, 15, 16, 17, 18, 19, 20, 21, 22, 23, 24, 25, 26, 27], [0, 1, 2, 3, 6, 7, 8, 9, 10, 11, 12, 13, 14, 15, 16, 17, 18, 19, 20, 21, 22, 23, 24, 25, 26, 27, 28], [0, 1, 2, 3, 4, 5, 6, 7, 8, 9, 10, 11, 12, 13, 14, 15, 16, 17, 18, 19, 20, 21, 22, 23, 24, 25, 26, 27, 28, 29], [0, 1, 2, 3, 4, 5, 6, 7, 8, 9, 10, 11, 12, 13, 14, 15, 16, 17, 18, 19, 20, 21, 22, 23, 24, 25, 26, 27, 28, 29, 30], [0, 1, 2, 3, 4, 5, 6, 7, 8, 9, 10, 11, 12, 13, 14, 15, 16, 17, 18, 19, 20, 21, 22, 23, 24, 25, 26, 27, 28, 29, 30, 31]] w2.drew (fun M St =>
  ixK 5 t6 (nth vs 0) fun t20 =>
  faK 2 t20 fun t21 =>
  sld1 (St 10) t21 fun t22 =>
  callK Try.prog 64 [t22] (fun t23 w3 =>
  Mod (M 11) w2.drew w3 ∧
  ixK 5 t6 (nth vs 0) fun t26 =>
  faK 3 t26 fun t27 =>
  sld1 (St 16) t27 fun t28 =>
  callK Try.prog 65 [t28] (fun t29 w4 =>
  Mod (M 17) w3 w4 ∧
  ixK 5 t6 (nth vs 0) fun t32 =>
  faK 4 t32 fun t33 =>
  sld1 (St 22) t33 fun t34 =>
  callK Try.prog 63 [t34] (fun t35 w5 =>
  Mod (M 23) w4 w5 ∧
  ixK 5 t6 (nth vs 0) fun t36 =>
  faK 2 t36 fun t37 =>
  st1K t37 t23 (fun w6 =>
  Mod (M 26) w5 w6 ∧
  ixK 5 t6 (nth vs 0) fun t38 =>
  faK 3 t38 fun t39 =>
  st1K t39 t29 (fun w7 =>
  Mod (M 29) w6 w7 ∧
  ixK 5 t6 (nth vs 0) fun t40 =>
  faK 4 t40 fun t41 =>
  st1K t41 t35 (fun w8 =>
  Mod (M 32) w7 w8 ∧
  addK .i64 (nth vs 0) (.int .i64 1) fun t42 =>
  again [t42] w8) w7) w6) w5) w4) w3) w2.drew))
  (K t6 w2)) w1) w
theorem S67_eq (v0 : Value) (K : Cont) (w : World) : S67 v0 K w = D Try.prog okf 44 (bodyOf Try.f67) (.node [] [] .nil (.node [] [] .nil (.node [] [] (.node [] [] .nil (.node [9] [(4, 4), (9, 42)] (.node [] [] .nil (.node [] [] (.node [] [] .nil .nil) (.node [] [] (.node [] [] .nil (.dc [11, 17, 23, 26, 29, 32] [[], [], [], [], [], [], [], [], [6, 7], [6, 7, 8], [6, 7, 8, 9], [6, 7, 8, 9, 10], [], [], [12, 13], [12, 13, 14], [12, 13, 14, 15], [6, 7, 8, 9, 10, 11, 12, 13, 14, 15, 16], [], [], [18, 19], [18, 19, 20], [18, 19, 20, 21], [6, 7, 8, 9, 10, 11, 12, 13, 14, 15, 16, 17, 18, 19, 20, 21, 22], [0, 1, 6, 7, 8, 9, 10, 11, 12, 13, 14, 15, 16, 17, 18, 19, 20, 21, 22, 23], [0, 1, 6, 7, 8, 9, 10, 11, 12, 13, 14, 15, 16, 17, 18, 19, 20, 21, 22, 23, 24], [0, 1, 6, 7, 8, 9, 10, 11, 12, 13, 14, 15, 16, 17, 18, 19, 20, 21, 22, 23, 24, 25], [0, 1, 2, 3, 6, 7, 8, 9, 10, 11, 12, 13, 14, 15, 16, 17, 18, 19, 20, 21, 22, 23, 24, 25, 26], [0, 1, 2, 3, 6, 7, 8, 9, 10, 11, 12, 13, 14, 15, 16, 17, 18, 19, 20, 21, 22, 23, 24, 25, 26, 27], [0, 1, 2, 3, 6, 7, 8, 9, 10, 11, 12, 13, 14, 15, 16, 17, 18, 19, 20, 21, 22, 23, 24, 25, 26, 27, 28], [0, 1, 2, 3, 4, 5, 6, 7, 8, 9, 10, 11, 12, 13, 14, 15, 16, 17, 18, 19, 20, 21, 22, 23, 24, 25, 26, 27, 28, 29], [0, 1, 2, 3, 4, 5, 6, 7, 8, 9, 10, 11, 12, 13, 14, 15, 16, 17, 18, 19, 20, 21, 22, 23, 24, 25, 26, 27, 28, 29, 30], [0, 1, 2, 3, 4, 5, 6, 7, 8, 9, 10, 11, 12, 13, 14, 15, 16, 17, 18, 19, 20, 21, 22, 23, 24, 25, 26, 27, 28, 29, 30, 31]] [[11, 17, 23], [11, 17, 23, 26], [11, 17, 23, 26, 29]])) .nil))) .nil)) (.node [] [] .nil .nil)))) (retK Try.prog [.tmp 2] K) (nth [v0]) w := by kernel_rfl
theorem S67_ok {v0 : Value} {K : Cont} {w : World} (h : S67 v0 K w) : callK Try.prog 67 [v0] K w :=
  callK_of (P := Try.prog) (ok := okf) (n := 44) (fn := Try.f67) (c := bodyOf Try.f67) (rs := [.tmp 2]) (an := (.node [] [] .nil (.node [] [] .nil (.node [] [] (.node [] [] .nil (.node [9] [(4, 4), (9, 42)] (.node [] [] .nil (.node [] [] (.node [] [] .nil .nil) (.node [] [] (.node [] [] .nil (.dc [11, 17, 23, 26, 29, 32] [[], [], [], [], [], [], [], [], [6, 7], [6, 7, 8], [6, 7, 8, 9], [6, 7, 8, 9, 10], [], [], [12, 13], [12, 13, 14], [12, 13, 14, 15], [6, 7, 8, 9, 10, 11, 12, 13, 14, 15, 16], [], [], [18, 19], [18, 19, 20], [18, 19, 20, 21], [6, 7, 8, 9, 10, 11, 12, 13, 14, 15, 16, 17, 18, 19, 20, 21, 22], [0, 1, 6, 7, 8, 9, 10, 11, 12, 13, 14, 15, 16, 17, 18, 19, 20, 21, 22, 23], [0, 1, 6, 7, 8, 9, 10, 11, 12, 13, 14, 15, 16, 17, 18, 19, 20, 21, 22, 23, 24], [0, 1, 6, 7, 8, 9, 10, 11, 12, 13, 14, 15, 16, 17, 18, 19, 20, 21, 22, 23, 24, 25], [0, 1, 2, 3, 6, 7, 8, 9, 10, 11, 12, 13, 14, 15, 16, 17, 18, 19, 20, 21, 22, 23, 24, 25, 26], [0, 1, 2, 3, 6, 7, 8, 9, 10, 11, 12, 13, 14, 15, 16, 17, 18, 19, 20, 21, 22, 23, 24, 25, 26, 27], [0, 1, 2, 3, 6, 7, 8, 9, 10, 11, 12, 13, 14, 15, 16, 17, 18, 19, 20, 21, 22, 23, 24, 25, 26, 27, 28], [0, 1, 2, 3, 4, 5, 6, 7, 8, 9, 10, 11, 12, 13, 14, 15, 16, 17, 18, 19, 20, 21, 22, 23, 24, 25, 26, 27, 28, 29], [0, 1, 2, 3, 4, 5, 6, 7, 8, 9, 10, 11, 12, 13, 14, 15, 16, 17, 18, 19, 20, 21, 22, 23, 24, 25, 26, 27, 28, 29, 30], [0, 1, 2, 3, 4, 5, 6, 7, 8, 9, 10, 11, 12, 13, 14, 15, 16, 17, 18, 19, 20, 21, 22, 23, 24, 25, 26, 27, 28, 29, 30, 31]] [[11, 17, 23], [11, 17, 23, 26], [11, 17, 23, 26, 29]])) .nil))) .nil)) (.node [] [] .nil .nil))))) good mixed Try.func67 (by kernel_rfl) (by kernel_rfl) (by kernel_rfl) (by kernel_rfl) (Eq.mp (S67_eq v0 K w) h)

/-- slices.EqualFunc[[]rubric/api.Op,[]rubric/api.Op,rubric/api.Op,rubric/api.Op] -/
def S68 (v0 v1 v2 : Value) (K : Cont) (w : World) : Prop :=
  lenK v0 fun t11 =>
  lenK v1 fun t13 =>
  neK .i64 t11 t13 fun t14 =>
  condK t14
  (K (.bool false) w)
  (lenK v0 fun t16 =>
  LoopK [(.int .i64 0)] (fun vs again w1 => ∀ _h : Env,
  ltK .i64 (nth vs 0) t16 fun t18 =>
  condK t18
  (ixK 5 v0 (nth vs 0) fun t20 =>
  ldnK 5 t20 (fun t21 w2 =>
  newK 59 [(.int .u8 0), (.int .i64 0), (.slice none 0 0), (.slice none 0 0), (.slice none 0 0)] (fun t8 w3 =>
  stnK 5 t8 t21 (fun w4 =>
  ixK 5 v1 (nth vs 0) fun t24 =>
  ldnK 5 t24 (fun t25 w5 =>
  newK 59 [(.int .u8 0), (.int .i64 0), (.slice none 0 0), (.slice none 0 0), (.slice none 0 0)] (fun t9 w6 =>
  stnK 5 t9 t25 (fun w7 =>
  ldnK 5 t8 (fun t27 w8 =>
  ldnK 5 t9 (fun t28 w9 =>
  callyK Try.prog okf v2 [t27, t28] (fun t29 w10 =>
  notK t29 fun t30 =>
  condK t30
  (K (.bool false) w10)
  (addK .i64 (nth vs 0) (.int .i64 1) fun t31 =>
  again [t31] w10)) w9) w8) w7) w6) w5) w4) w3) w2) w1)
  (K (.bool true) w1)) w)
theorem S68_eq (v0 v1 v2 : Value) (K : Cont) (w : World) : S68 v0 v1 v2 K w = D Try.prog okf 32 (bodyOf Try.f68) (.node [] [] .nil (.node [] [] (.node [] [] .nil (.node [] [] (.node [] [] .nil .nil) .nil)) (.node [] [] (.node [] [] .nil (.node [17] [(6, 9), (17, 31)] (.node [] [] .nil (.node [] [] (.node [] [] .nil .nil) (.node [] [] (.node [] [] .nil (.node [] [] .nil (.node [] [] .nil (.node [] [] (.node [] [] .nil .nil) .nil)))) .nil))) .nil)) (.node [] [] .nil .nil)))) (retK Try.prog [.tmp 6] K) (nth [v0, v1, v2]) w := by kernel_rfl
theorem S68_ok {v0 v1 v2 : Value} {K : Cont} {w : World} (h : S68 v0 v1 v2 K w) : callK Try.prog 68 [v0, v1, v2] K w :=
  callK_of (P := Try.prog) (ok := okf) (n := 32) (fn := Try.f68) (c := bodyOf Try.f68) (rs := [.tmp 6]) (an := (.node [] [] .nil (.node [] [] (.node [] [] .nil (.node [] [] (.node [] [] .nil .nil) .nil)) (.node [] [] (.node [] [] .nil (.node [17] [(6, 9), (17, 31)] (.node [] [] .nil (.node [] [] (.node [] [] .nil .nil) (.node [] [] (.node [] [] .nil (.node [] [] .nil (.node [] [] .nil (.node [] [] (.node [] [] .nil .nil) .nil)))) .nil))) .nil)) (.node [] [] .nil .nil))))) good mixed Try.func68 (by kernel_rfl) (by kernel_rfl) (by kernel_rfl) (by kernel_rfl) (Eq.mp (S68_eq v0 v1 v2 K w) h)

/-- rubric/ops.Same$1 -/
def S69 (v0 v1 : Value) (K : Cont) (w : World) : Prop :=
  boxnK 59 v0 (fun t2 w1 =>
  boxnK 59 v1 (fun t3 w2 =>
  faK 0 t2 fun t5 =>
  ld1K t5 (fun t6 w3 =>
  faK 0 t3 fun t7 =>
  ld1K t7 (fun t8 w4 =>
  eqK .u8 t6 t8 fun t9 =>
  condK t9
  (faK 1 t2 fun t11 =>
  ld1K t11 (fun t12 w5 =>
  faK 1 t3 fun t13 =>
  ld1K t13 (fun t14 w6 =>
  eqK .i64 t12 t14 fun t15 =>
  condK t15
  (faK 2 t2 fun t18 =>
  ld1K t18 (fun t19 w7 =>
  faK 2 t3 fun t20 =>
  ld1K t20 (fun t21 w8 =>
  callK Try.prog 70 [t19, t21] (fun t22 w9 =>
  condK t22
  (faK 3 t2 fun t25 =>
  ld1K t25 (fun t26 w10 =>
  faK 3 t3 fun t27 =>
  ld1K t27 (fun t28 w11 =>
  callK Try.prog 55 [t26, t28] (fun t29 w12 =>
  condK t29
  (faK 4 t2 fun t32 =>
  ld1K t32 (fun t33 w13 =>
  faK 4 t3 fun t34 =>
  ld1K t34 (fun t35 w14 =>
  callK Try.prog 62 [t33, t35] (fun t36 w15 =>
  K t36 w15) w14) w13) w12)
  (K (.bool false) w12)) w11) w10) w9)
  (K (.bool false) w9)) w8) w7) w6)
  (K (.bool false) w6)) w5) w4)
  (K (.bool false) w4)) w3) w2) w1) w
theorem S69_eq (v0 v1 : Value) (K : Cont) (w : World) : S69 v0 v1 K w = D Try.prog okf 38 (bodyOf Try.f69) (.node [] [] .nil (.node [] [] .nil .nil)) (retK Try.prog [.tmp 4] K) (nth [v0, v1]) w := by kernel_rfl
theorem S69_ok {v0 v1 : Value} {K : Cont} {w : World} (h : S69 v0 v1 K w) : callK Try.prog 69 [v0, v1] K w :=
  callK_of (P := Try.prog) (ok := okf) (n := 38) (fn := Try.f69) (c := bodyOf Try.f69) (rs := [.tmp 4]) (an := (.node [] [] .nil (.node [] [] .nil .nil))) good mixed Try.func69 (by kernel_rfl) (by kernel_rfl) (by kernel_rfl) (by kernel_rfl) (Eq.mp (S69_eq v0 v1 K w) h)

/-- slices.Equal[[]int32,int32] -/
def S70 (v0 v1 : Value) (K : Cont) (w : World) : Prop :=
  lenK v0 fun t7 =>
  lenK v1 fun t9 =>
  neK .i64 t7 t9 fun t10 =>
  condK t10
  (K (.bool false) w)
  (lenK v0 fun t12 =>
  LoopK [(.int .i64 0)] (fun vs again w1 => ∀ _h : Env,
  ltK .i64 (nth vs 0) t12 fun t14 =>
  condK t14
  (DrawK w1 (fun C =>
  ixK 1 v0 (nth vs 0) fun t18 =>
  qld1K C t18 fun t19 =>
  ixK 1 v1 (nth vs 0) fun t22 =>
  qld1K C t22 fun t23 =>
  neK .i32 t19 t23 fun t24 =>
  ∀ w2 : World, C w2 →
  condK t24
  (K (.bool false) w2)
  (addK .i64 (nth vs 0) (.int .i64 1) fun t25 =>
  again [t25] w2)))
  (K (.bool true) w1)) w)
theorem S70_eq (v0 v1 : Value) (K : Cont) (w : World) : S70 v0 v1 K w = D Try.prog okf 26 (bodyOf Try.f70) (.node [] [] .nil (.node [] [] (.node [] [] .nil (.node [] [] (.node [] [] .nil .nil) .nil)) (.node [] [] (.node [] [] .nil (.node [13] [(4, 5), (13, 25)] (.node [] [] .nil (.node [] [] (.node [] [] .nil .nil) (.node [] [] (.node [] [] .nil (.node [] [] .draw (.node [] [] (.node [] [] .nil .nil) .nil))) .nil))) .nil)) (.node [] [] .nil .nil)))) (retK Try.prog [.tmp 4] K) (nth [v0, v1]) w := by kernel_rfl
theorem S70_ok {v0 v1 : Value} {K : Cont} {w : World} (h : S70 v0 v1 K w) : callK Try.prog 70 [v0, v1] K w :=
  callK_of (P := Try.prog) (ok := okf) (n := 26) (fn := Try.f70) (c := bodyOf Try.f70) (rs := [.tmp 4]) (an := (.node [] [] .nil (.node [] [] (.node [] [] .nil (.node [] [] (.node [] [] .nil .nil) .nil)) (.node [] [] (.node [] [] .nil (.node [13] [(4, 5), (13, 25)] (.node [] [] .nil (.node [] [] (.node [] [] .nil .nil) (.node [] [] (.node [] [] .nil (.node [] [] .draw (.node [] [] (.node [] [] .nil .nil) .nil))) .nil))) .nil)) (.node [] [] .nil .nil))))) good mixed Try.func70 (by kernel_rfl) (by kernel_rfl) (by kernel_rfl) (by kernel_rfl) (Eq.mp (S70_eq v0 v1 K w) h)

/-- rubric/rubricref15.form -/
def S80 (v0 : Value) (K : Cont) (w : World) : Prop :=
  boxnK 59 v0 (fun t1 w1 =>
  faK 0 t1 fun t4 =>
  ld1K t4 (fun t5 w2 =>
  eqK .u8 t5 (.int .u8 1) fun t7 =>
  condK t7
  (faK 2 t1 fun t8 =>
  ld1K t8 (fun t9 w3 =>
  lenK t9 fun t10 =>
  eqK .i64 t10 (.int .i64 0) fun t11 =>
  condK t11
  (faK 3 t1 fun t13 =>
  ld1K t13 (fun t14 w4 =>
  lenK t14 fun t15 =>
  eqK .i64 t15 (.int .i64 0) fun t16 =>
  condK t16
  (faK 1 t1 fun t19 =>
  ld1K t19 (fun t20 w5 =>
  geK .i64 t20 (.int .i64 1) fun t21 =>
  condK t21
  (faK 1 t1 fun t24 =>
  ld1K t24 (fun t25 w6 =>
  leK .i64 t25 (.int .i64 536870912) fun t26 =>
  K t26 w6) w5)
  (K (.bool false) w5)) w4)
  (K (.bool false) w4)) w3)
  (K (.bool false) w3)) w2)
  (eqK .u8 t5 (.int .u8 3) fun t29 =>
  condK t29
  (faK 2 t1 fun t30 =>
  ld1K t30 (fun t31 w7 =>
  lenK t31 fun t32 =>
  eqK .i64 t32 (.int .i64 0) fun t33 =>
  condK t33
  (faK 3 t1 fun t35 =>
  ld1K t35 (fun t36 w8 =>
  lenK t36 fun t37 =>
  eqK .i64 t37 (.int .i64 0) fun t38 =>
  condK t38
  (faK 4 t1 fun t41 =>
  ld1K t41 (fun t42 w9 =>
  lenK t42 fun t43 =>
  eqK .i64 t43 (.int .i64 0) fun t44 =>
  condK t44
  (faK 1 t1 fun t47 =>
  ld1K t47 (fun t48 w10 =>
  geK .i64 t48 (.int .i64 1) fun t49 =>
  condK t49
  (faK 1 t1 fun t52 =>
  ld1K t52 (fun t53 w11 =>
  leK .i64 t53 (.int .i64 536870912) fun t54 =>
  K t54 w11) w10)
  (K (.bool false) w10)) w9)
  (K (.bool false) w9)) w8)
  (K (.bool false) w8)) w7)
  (K (.bool false) w7)) w2)
  (eqK .u8 t5 (.int .u8 2) fun t57 =>
  condK t57
  (LoopK [(.int .i64 0)] (fun vs again w12 => ∀ _h : Env,
  faK 2 t1 fun t59 =>
  ld1K t59 (fun t60 w13 =>
  lenK t60 fun t61 =>
  ltK .i64 (nth vs 0) t61 fun t62 =>
  condK t62
  (faK 2 t1 fun t65 =>
  ld1K t65 (fun t66 w14 =>
  ixK 1 t66 (nth vs 0) fun t68 =>
  ld1K t68 (fun t69 w15 =>
  callK Try.prog 92 [t69] (fun t70 w16 =>
  notK t70 fun t71 =>
  condK t71
  (K (.bool false) w16)
  (addK .i64 (nth vs 0) (.int .i64 1) fun t64 =>
  again [t64] w16)) w15) w14) w13)
  (faK 1 t1 fun t72 =>
  ld1K t72 (fun t73 w17 =>
  eqK .i64 t73 (.int .i64 0) fun t74 =>
  condK t74
  (faK 4 t1 fun t76 =>
  ld1K t76 (fun t77 w18 =>
  lenK t77 fun t78 =>
  eqK .i64 t78 (.int .i64 0) fun t79 =>
  condK t79
  (faK 2 t1 fun t82 =>
  ld1K t82 (fun t83 w19 =>
  lenK t83 fun t84 =>
  geK .i64 t84 (.int .i64 1) fun t85 =>
  condK t85
  (faK 2 t1 fun t88 =>
  ld1K t88 (fun t89 w20 =>
  lenK t89 fun t90 =>
  leK .i64 t90 (.int .i64 536870912) fun t91 =>
  K t91 w20) w19)
  (K (.bool false) w19)) w18)
  (K (.bool false) w18)) w17)
  (K (.bool false) w17)) w13)) w12) w2)
  (K (.bool false) w2)))) w1) w
theorem S80_eq (v0 : Value) (K : Cont) (w : World) : S80 v0 K w = D Try.prog okf 93 (bodyOf Try.f80) (.node [] [] .nil (.node [] [] (.node [] [] .nil (.node [] [] .nil (.node [] [] (.node [] [] .nil .nil) (.node [] [] .nil (.node [] [] (.node [] [] .nil .nil) (.node [] [] .nil (.node [] [] (.node [] [] (.node [] [] .nil (.node [3] [(2, 3), (58, 71)] (.node [] [] (.node [] [] .nil (.node [] [] .nil .nil)) (.node [] [] (.node [] [] .nil (.node [] [] (.node [] [] .nil .nil) .nil)) .nil)) .nil)) (.node [] [] .nil .nil)) .nil))))))) (.node [] [] .nil .nil))) (retK Try.prog [.tmp 2] K) (nth [v0]) w := by kernel_rfl
theorem S80_ok {v0 : Value} {K : Cont} {w : World} (h : S80 v0 K w) : callK Try.prog 80 [v0] K w :=
  callK_of (P := Try.prog) (ok := okf) (n := 93) (fn := Try.f80) (c := bodyOf Try.f80) (rs := [.tmp 2]) (an := (.node [] [] .nil (.node [] [] (.node [] [] .nil (.node [] [] .nil (.node [] [] (.node [] [] .nil .nil) (.node [] [] .nil (.node [] [] (.node [] [] .nil .nil) (.node [] [] .nil (.node [] [] (.node [] [] (.node [] [] .nil (.node [3] [(2, 3), (58, 71)] (.node [] [] (.node [] [] .nil (.node [] [] .nil .nil)) (.node [] [] (.node [] [] .nil (.node [] [] (.node [] [] .nil .nil) .nil)) .nil)) .nil)) (.node [] [] .nil .nil)) .nil))))))) (.node [] [] .nil .nil)))) good mixed Try.func80 (by kernel_rfl) (by kernel_rfl) (by kernel_rfl) (by kernel_rfl) (Eq.mp (S80_eq v0 K w) h)

/-- rubric/rubricref05.May -/
def S81 (v0 v1 : Value) (K : Cont) (w : World) : Prop :=
  JoinK (fun _vs w1 => ∀ _h : Env,
  LoopK [(.int .i64 0)] (fun vs_1 again w2 => ∀ _h_1 : Env,
  lenK v1 fun t17 =>
  ltK .i64 (nth vs_1 0) t17 fun t18 =>
  condK t18
  (ixK 5 v1 (nth vs_1 0) fun t23 =>
  faK 1 t23 fun t24 =>
  ldnK 4 t24 (fun t25 w3 =>
  callK Try.prog 94 [t25] (fun t26 w4 =>
  notK t26 fun t27 =>
  condK t27
  (K (.int .i64 3) w4)
  (addK .i64 (nth vs_1 0) (.int .i64 1) fun t20 =>
  again [t20] w4)) w3) w2)
  (LoopK [(.int .i64 0)] (fun vs_2 again_1 w5 => ∀ _h_2 : Env,
  lenK v1 fun t30 =>
  ltK .i64 (nth vs_2 0) t30 fun t31 =>
  condK t31
  (DrawC [11] [[], [], [], [1, 2], [1, 2, 3], [1, 2, 3, 4], [], [], [6, 7], [6, 7, 8], [6, 7, 8, 9], [0, 1, 2, 3, 4, 5, 6, 7, 8, 9, 10], [0, 1, 2, 3, 4, 5, 6, 7, 8, 9, 10, 11]] w5.drew (fun M St =>
  ixK 5 v1 (nth vs_2 0) fun t37 =>
  faK 0 t37 fun t38 =>
  sld1 (St 5) t38 fun t39 =>
  ixK 5 v1 (nth vs_2 0) fun t42 =>
  faK 1 t42 fun t43 =>
  sldn (St 10) 4 t43 fun t44 =>
  callK Try.prog 95 [v0, t39, t44] (fun t45 w6 =>
  Mod (M 11) w5.drew w6 ∧
  notK t45 fun t46 =>
  condK t46
  (K (.int .i64 4) w6)
  (addK .i64 (nth vs_2 0) (.int .i64 1) fun t33 =>
  again_1 [t33] w6)) w5.drew))
  (K (.int .i64 0) w5)) w2)) w1) (fun J =>
  callK Try.prog 93 [v1] (fun t8 w7 =>
  notK t8 fun t9 =>
  condK t9
  (K (.int .i64 3) w7)
  (lenK v1 fun t12 =>
  gtK .i64 t12 (.int .i64 64) fun t13 =>
  condK t13
  (K (.int .i64 3) w7)
  (J [] w7))) w)
theorem S81_eq (v0 v1 : Value) (K : Cont) (w : World) : S81 v0 v1 K w = D Try.prog okf 47 (bodyOf Try.f81) (.node [] [] .nil (.cut [] [(4, 4), (7, 14)] (.node [] [] .nil (.node [] [] (.node [] [] .nil .nil) .nil)) (.node [] [] (.node [] [] .nil (.node [5] [(4, 5), (15, 27)] (.node [] [] (.node [] [] .nil (.node [] [] .nil .nil)) (.node [] [] (.node [] [] .nil (.node [] [] (.node [] [] .nil .nil) .nil)) .nil)) .nil)) (.node [] [] (.node [] [] .nil (.node [6] [(4, 4), (6, 6), (28, 46)] (.node [] [] (.node [] [] .nil (.node [] [] .nil .nil)) (.node [] [] (.node [] [] (.dc [11] [[], [], [], [1, 2], [1, 2, 3], [1, 2, 3, 4], [], [], [6, 7], [6, 7, 8], [6, 7, 8, 9], [0, 1, 2, 3, 4, 5, 6, 7, 8, 9, 10], [0, 1, 2, 3, 4, 5, 6, 7, 8, 9, 10, 11]] []) (.node [] [] (.node [] [] .nil .nil) .nil)) .nil)) .nil)) (.node [] [] .nil .nil))))) (retK Try.prog [.tmp 4] K) (nth [v0, v1]) w := by kernel_rfl
theorem S81_ok {v0 v1 : Value} {K : Cont} {w : World} (h : S81 v0 v1 K w) : callK Try.prog 81 [v0, v1] K w :=
  callK_of (P := Try.prog) (ok := okf) (n := 47) (fn := Try.f81) (c := bodyOf Try.f81) (rs := [.tmp 4]) (an := (.node [] [] .nil (.cut [] [(4, 4), (7, 14)] (.node [] [] .nil (.node [] [] (.node [] [] .nil .nil) .nil)) (.node [] [] (.node [] [] .nil (.node [5] [(4, 5), (15, 27)] (.node [] [] (.node [] [] .nil (.node [] [] .nil .nil)) (.node [] [] (.node [] [] .nil (.node [] [] (.node [] [] .nil .nil) .nil)) .nil)) .nil)) (.node [] [] (.node [] [] .nil (.node [6] [(4, 4), (6, 6), (28, 46)] (.node [] [] (.node [] [] .nil (.node [] [] .nil .nil)) (.node [] [] (.node [] [] (.dc [11] [[], [], [], [1, 2], [1, 2, 3], [1, 2, 3, 4], [], [], [6, 7], [6, 7, 8], [6, 7, 8, 9], [0, 1, 2, 3, 4, 5, 6, 7, 8, 9, 10], [0, 1, 2, 3, 4, 5, 6, 7, 8, 9, 10, 11]] []) (.node [] [] (.node [] [] .nil .nil) .nil)) .nil)) .nil)) (.node [] [] .nil .nil)))))) good mixed Try.func81 (by kernel_rfl) (by kernel_rfl) (by kernel_rfl) (by kernel_rfl) (Eq.mp (S81_eq v0 v1 K w) h)

/-- rubric/rubricref06.May -/
def S82 (v0 v1 : Value) (K : Cont) (w : World) : Prop :=
  JoinK (fun _vs w1 => ∀ _h : Env,
  LoopK [(.int .i64 0)] (fun vs_1 again w2 => ∀ _h_1 : Env,
  lenK v1 fun t19 =>
  ltK .i64 (nth vs_1 0) t19 fun t20 =>
  condK t20
  (JoinK (fun _vs_2 w3 => ∀ _h_2 : Env,
  addK .i64 (nth vs_1 0) (.int .i64 1) fun t22 =>
  again [t22] w3) (fun J_1 =>
  ixK 6 v1 (nth vs_1 0) fun t25 =>
  faK 1 t25 fun t26 =>
  ld1K t26 (fun t27 w4 =>
  condK t27
  (ixK 6 v1 (nth vs_1 0) fun t31 =>
  faK 2 t31 fun t32 =>
  ldnK 4 t32 (fun t33 w5 =>
  buildK [(0, 1), (1, 1), (2, 1), (3, 1)] [(.int .u8 0), (.int .i64 0), (.int .u64 0), (.string (ByteArray.mk #[]))] [] fun t34 =>
  runK Try.prog (binS .neq 44 (.tmp 33) (.tmp 34) t33 t34) (fun t35 w6 =>
  condK t35
  (K (.int .i64 3) w6)
  (ixK 6 v1 (nth vs_1 0) fun t40 =>
  faK 1 t40 fun t41 =>
  ld1K t41 (fun t42 w7 =>
  notK t42 fun t43 =>
  condK t43
  (ixK 6 v1 (nth vs_1 0) fun t47 =>
  faK 2 t47 fun t48 =>
  ldnK 4 t48 (fun t49 w8 =>
  callK Try.prog 94 [t49] (fun t50 w9 =>
  notK t50 fun t51 =>
  condK t51
  (K (.int .i64 3) w9)
  (J_1 [] w9)) w8) w7)
  (J_1 [] w7)) w6)) w5) w4)
  (ixK 6 v1 (nth vs_1 0) fun t40_1 =>
  faK 1 t40_1 fun t41_1 =>
  ld1K t41_1 (fun t42_1 w10 =>
  notK t42_1 fun t43_1 =>
  condK t43_1
  (ixK 6 v1 (nth vs_1 0) fun t47_1 =>
  faK 2 t47_1 fun t48_1 =>
  ldnK 4 t48_1 (fun t49_1 w11 =>
  callK Try.prog 94 [t49_1] (fun t50_1 w12 =>
  notK t50_1 fun t51_1 =>
  condK t51_1
  (K (.int .i64 3) w12)
  (J_1 [] w12)) w11) w10)
  (J_1 [] w10)) w4)) w2))
  (LoopK [(.int .i64 0)] (fun vs_3 again_1 w13 => ∀ _h_3 : Env,
  lenK v1 fun t56 =>
  ltK .i64 (nth vs_3 0) t56 fun t57 =>
  condK t57
  (JoinK (fun _vs_4 w14 => ∀ _h_4 : Env,
  addK .i64 (nth vs_3 0) (.int .i64 1) fun t59 =>
  again_1 [t59] w14) (fun J_2 =>
  ixK 6 v1 (nth vs_3 0) fun t64 =>
  faK 0 t64 fun t65 =>
  ld1K t65 (fun t66 w15 =>
  callK Try.prog 97 [v0, t66] (fun t67 w16 =>
  extK 0 t67 fun t68 =>
  extK 1 t67 fun t69 =>
  newK 72 [(.int .i64 0), (.bool false), (.int .u8 0), (.bool false), (.bool false), (.int .i64 0)] (fun t7 w17 =>
  stnK 6 t7 t68 (fun w18 =>
  DrawC [21] [[], [0], [0, 1], [0, 1, 2], [0, 1, 2], [0, 1, 2, 3, 4], [0, 1, 2, 3, 4, 5], [0, 1, 2, 3, 4, 5, 6], [0, 1, 2, 3, 4, 5, 6, 7], [0, 1, 2, 3, 4, 5, 6, 7, 8], [0, 1, 2, 3, 4, 5, 6, 7, 8, 9], [0, 1, 2, 3, 4, 5, 6, 7, 8, 9], [0, 1, 2, 3, 4, 5, 6, 7, 8, 9], [0, 1, 2, 3, 4, 5, 6, 7, 8, 9, 11, 12], [0, 1, 2, 3, 4, 5, 6, 7, 8, 9, 11, 12, 13], [0, 1, 2, 3, 4, 5, 6, 7, 8, 9, 11, 12, 13, 14], [0, 1, 2, 3, 4, 5, 6, 7, 8, 9], [0, 1, 2, 3, 4, 5, 6, 7, 8, 9], [0, 1, 2, 3, 4, 5, 6, 7, 8, 9, 16, 17], [0, 1, 2, 3, 4, 5, 6, 7, 8, 9, 16, 17, 18], [0, 1, 2, 3, 4, 5, 6, 7, 8, 9, 16, 17, 18, 19], [0, 1, 2, 3, 4, 5, 6, 7, 8, 9, 10, 11, 12, 13, 14, 15, 16, 17, 18, 19, 20], [0, 1, 2, 3, 4, 5, 6, 7, 8, 9, 10, 11, 12, 13, 14, 15, 16, 17, 18, 19, 20, 21], [0, 1, 2, 3, 4, 5, 6, 7, 8, 9, 10, 11, 12, 13, 14, 15, 16, 17, 18, 19, 20, 21, 22], [0, 1, 2, 3, 4, 5, 6, 7, 8, 9, 10, 11, 12, 13, 14, 15, 16, 17, 18, 19, 20, 21, 22, 23]] w18.drew (fun M St =>
  notK t69 fun t71 =>
  condK t71
  (K (.int .i64 4) w18.drew)
  (ixK 6 v1 (nth vs_3 0) fun t75 =>
  faK 1 t75 fun t76 =>
  sld1 (St 7) t76 fun t77 =>
  notK t77 fun t78 =>
  condK t78
  (ixK 6 v1 (nth vs_3 0) fun t83 =>
  faK 0 t83 fun t84 =>
  sld1 (St 15) t84 fun t85 =>
  ixK 6 v1 (nth vs_3 0) fun t88 =>
  faK 2 t88 fun t89 =>
  sldn (St 20) 4 t89 fun t90 =>
  callK Try.prog 95 [v0, t85, t90] (fun t91 w19 =>
  Mod (M 21) w18.drew w19 ∧
  notK t91 fun t92 =>
  condK t92
  (K (.int .i64 4) w19)
  (J_2 [] w19)) w18.drew)
  (J_2 [] w18.drew)))) w17) w16) w15) w13))
  (K (.int .i64 0) w13)) w2)) w1) (fun J =>
  callK Try.prog 96 [v1] (fun t10 w20 =>
  notK t10 fun t11 =>
  condK t11
  (K (.int .i64 3) w20)
  (lenK v1 fun t14 =>
  gtK .i64 t14 (.int .i64 64) fun t15 =>
  condK t15
  (K (.int .i64 3) w20)
  (J [] w20))) w)
theorem S82_eq (v0 v1 : Value) (K : Cont) (w : World) : S82 v0 v1 K w = D Try.prog okf 95 (bodyOf Try.f82) (.node [] [] .nil (.cut [] [(4, 4), (9, 16)] (.node [] [] .nil (.node [] [] (.node [] [] .nil .nil) .nil)) (.node [] [] (.node [] [] .nil (.node [5] [(4, 5), (17, 53)] (.node [] [] (.node [] [] .nil (.node [] [] .nil .nil)) (.cut [] [(4, 4), (23, 53)] (.node [] [] .nil (.node [] [] (.node [] [] .nil .nil) .nil)) .nil)) .nil)) (.node [] [] (.node [] [] .nil (.node [6] [(4, 4), (6, 8), (54, 94)] (.node [] [] (.node [] [] .nil (.node [] [] .nil .nil)) (.cut [] [(4, 4), (7, 8), (60, 94)] (.node [] [] .nil (.node [] [] (.dc [21] [[], [0], [0, 1], [0, 1, 2], [0, 1, 2], [0, 1, 2, 3, 4], [0, 1, 2, 3, 4, 5], [0, 1, 2, 3, 4, 5, 6], [0, 1, 2, 3, 4, 5, 6, 7], [0, 1, 2, 3, 4, 5, 6, 7, 8], [0, 1, 2, 3, 4, 5, 6, 7, 8, 9], [0, 1, 2, 3, 4, 5, 6, 7, 8, 9], [0, 1, 2, 3, 4, 5, 6, 7, 8, 9], [0, 1, 2, 3, 4, 5, 6, 7, 8, 9, 11, 12], [0, 1, 2, 3, 4, 5, 6, 7, 8, 9, 11, 12, 13], [0, 1, 2, 3, 4, 5, 6, 7, 8, 9, 11, 12, 13, 14], [0, 1, 2, 3, 4, 5, 6, 7, 8, 9], [0, 1, 2, 3, 4, 5, 6, 7, 8, 9], [0, 1, 2, 3, 4, 5, 6, 7, 8, 9, 16, 17], [0, 1, 2, 3, 4, 5, 6, 7, 8, 9, 16, 17, 18], [0, 1, 2, 3, 4, 5, 6, 7, 8, 9, 16, 17, 18, 19], [0, 1, 2, 3, 4, 5, 6, 7, 8, 9, 10, 11, 12, 13, 14, 15, 16, 17, 18, 19, 20], [0, 1, 2, 3, 4, 5, 6, 7, 8, 9, 10, 11, 12, 13, 14, 15, 16, 17, 18, 19, 20, 21], [0, 1, 2, 3, 4, 5, 6, 7, 8, 9, 10, 11, 12, 13, 14, 15, 16, 17, 18, 19, 20, 21, 22], [0, 1, 2, 3, 4, 5, 6, 7, 8, 9, 10, 11, 12, 13, 14, 15, 16, 17, 18, 19, 20, 21, 22, 23]] []) (.node [] [] (.node [] [] .nil .nil) .nil))) .nil)) .nil)) (.node [] [] .nil .nil))))) (retK Try.prog [.tmp 4] K) (nth [v0, v1]) w := by kernel_rfl
theorem S82_ok {v0 v1 : Value} {K : Cont} {w : World} (h : S82 v0 v1 K w) : callK Try.prog 82 [v0, v1] K w :=
  callK_of (P := Try.prog) (ok := okf) (n := 95) (fn := Try.f82) (c := bodyOf Try.f82) (rs := [.tmp 4]) (an := (.node [] [] .nil (.cut [] [(4, 4), (9, 16)] (.node [] [] .nil (.node [] [] (.node [] [] .nil .nil) .nil)) (.node [] [] (.node [] [] .nil (.node [5] [(4, 5), (17, 53)] (.node [] [] (.node [] [] .nil (.node [] [] .nil .nil)) (.cut [] [(4, 4), (23, 53)] (.node [] [] .nil (.node [] [] (.node [] [] .nil .nil) .nil)) .nil)) .nil)) (.node [] [] (.node [] [] .nil (.node [6] [(4, 4), (6, 8), (54, 94)] (.node [] [] (.node [] [] .nil (.node [] [] .nil .nil)) (.cut [] [(4, 4), (7, 8), (60, 94)] (.node [] [] .nil (.node [] [] (.dc [21] [[], [0], [0, 1], [0, 1, 2], [0, 1, 2], [0, 1, 2, 3, 4], [0, 1, 2, 3, 4, 5], [0, 1, 2, 3, 4, 5, 6], [0, 1, 2, 3, 4, 5, 6, 7], [0, 1, 2, 3, 4, 5, 6, 7, 8], [0, 1, 2, 3, 4, 5, 6, 7, 8, 9], [0, 1, 2, 3, 4, 5, 6, 7, 8, 9], [0, 1, 2, 3, 4, 5, 6, 7, 8, 9], [0, 1, 2, 3, 4, 5, 6, 7, 8, 9, 11, 12], [0, 1, 2, 3, 4, 5, 6, 7, 8, 9, 11, 12, 13], [0, 1, 2, 3, 4, 5, 6, 7, 8, 9, 11, 12, 13, 14], [0, 1, 2, 3, 4, 5, 6, 7, 8, 9], [0, 1, 2, 3, 4, 5, 6, 7, 8, 9], [0, 1, 2, 3, 4, 5, 6, 7, 8, 9, 16, 17], [0, 1, 2, 3, 4, 5, 6, 7, 8, 9, 16, 17, 18], [0, 1, 2, 3, 4, 5, 6, 7, 8, 9, 16, 17, 18, 19], [0, 1, 2, 3, 4, 5, 6, 7, 8, 9, 10, 11, 12, 13, 14, 15, 16, 17, 18, 19, 20], [0, 1, 2, 3, 4, 5, 6, 7, 8, 9, 10, 11, 12, 13, 14, 15, 16, 17, 18, 19, 20, 21], [0, 1, 2, 3, 4, 5, 6, 7, 8, 9, 10, 11, 12, 13, 14, 15, 16, 17, 18, 19, 20, 21, 22], [0, 1, 2, 3, 4, 5, 6, 7, 8, 9, 10, 11, 12, 13, 14, 15, 16, 17, 18, 19, 20, 21, 22, 23]] []) (.node [] [] (.node [] [] .nil .nil) .nil))) .nil)) .nil)) (.node [] [] .nil .nil)))))) good mixed Try.func82 (by kernel_rfl) (by kernel_rfl) (by kernel_rfl) (by kernel_rfl) (Eq.mp (S82_eq v0 v1 K w) h)

/-- rubric/rubricref15.Takes -/
def S83 (v0 : Value) (K : Cont) (w : World) : Prop :=
  LoopK [(.int .i64 0), (.int .i64 0)] (fun vs again w1 => ∀ _h : Env,
  lenK v0 fun t7 =>
  ltK .i64 (nth vs 1) t7 fun t8 =>
  condK t8
  (ixK 5 v0 (nth vs 1) fun t13 =>
  faK 0 t13 fun t14 =>
  ld1K t14 (fun t15 w2 =>
  neK .u8 t15 (.int .u8 2) fun t16 =>
  condK t16
  (ixK 5 v0 (nth vs 1) fun t20 =>
  faK 1 t20 fun t21 =>
  ld1K t21 (fun t22 w3 =>
  addK .i64 (nth vs 0) t22 fun t23 =>
  addK .i64 (nth vs 1) (.int .i64 1) fun t10 =>
  again [t23, t10] w3) w2)
  (addK .i64 (nth vs 1) (.int .i64 1) fun t10_1 =>
  again [(nth vs 0), t10_1] w2)) w1)
  (K (nth vs 0) w1)) w
theorem S83_eq (v0 : Value) (K : Cont) (w : World) : S83 v0 K w = D Try.prog okf 25 (bodyOf Try.f83) (.node [] [] .nil (.node [] [] .nil (.node [] [] (.node [] [] .nil (.node [3, 4] [(3, 23)] (.node [] [] (.node [] [] .nil (.node [] [] .nil .nil)) (.node [] [] (.node [] [] .nil (.node [] [] .nil .nil)) .nil)) .nil)) (.node [] [] .nil .nil)))) (retK Try.prog [.tmp 2] K) (nth [v0]) w := by kernel_rfl
theorem S83_ok {v0 : Value} {K : Cont} {w : World} (h : S83 v0 K w) : callK Try.prog 83 [v0] K w :=
  callK_of (P := Try.prog) (ok := okf) (n := 25) (fn := Try.f83) (c := bodyOf Try.f83) (rs := [.tmp 2]) (an := (.node [] [] .nil (.node [] [] .nil (.node [] [] (.node [] [] .nil (.node [3, 4] [(3, 23)] (.node [] [] (.node [] [] .nil (.node [] [] .nil .nil)) (.node [] [] (.node [] [] .nil (.node [] [] .nil .nil)) .nil)) .nil)) (.node [] [] .nil .nil))))) good mixed Try.func83 (by kernel_rfl) (by kernel_rfl) (by kernel_rfl) (by kernel_rfl) (Eq.mp (S83_eq v0 K w) h)

/-- rubric/rubricref15.Makes -/
def S84 (v0 : Value) (K : Cont) (w : World) : Prop :=
  LoopK [(.int .i64 0), (.int .i64 0)] (fun vs again w1 => ∀ _h : Env,
  lenK v0 fun t7 =>
  ltK .i64 (nth vs 1) t7 fun t8 =>
  condK t8
  (ixK 5 v0 (nth vs 1) fun t13 =>
  faK 0 t13 fun t14 =>
  ld1K t14 (fun t15 w2 =>
  neK .u8 t15 (.int .u8 3) fun t16 =>
  condK t16
  (ixK 5 v0 (nth vs 1) fun t20 =>
  ldnK 5 t20 (fun t21 w3 =>
  callK Try.prog 98 [t21] (fun t22 w4 =>
  addK .i64 (nth vs 0) t22 fun t23 =>
  addK .i64 (nth vs 1) (.int .i64 1) fun t10 =>
  again [t23, t10] w4) w3) w2)
  (addK .i64 (nth vs 1) (.int .i64 1) fun t10_1 =>
  again [(nth vs 0), t10_1] w2)) w1)
  (K (nth vs 0) w1)) w
theorem S84_eq (v0 : Value) (K : Cont) (w : World) : S84 v0 K w = D Try.prog okf 25 (bodyOf Try.f84) (.node [] [] .nil (.node [] [] .nil (.node [] [] (.node [] [] .nil (.node [3, 4] [(3, 23)] (.node [] [] (.node [] [] .nil (.node [] [] .nil .nil)) (.node [] [] (.node [] [] .nil (.node [] [] .nil .nil)) .nil)) .nil)) (.node [] [] .nil .nil)))) (retK Try.prog [.tmp 2] K) (nth [v0]) w := by kernel_rfl
theorem S84_ok {v0 : Value} {K : Cont} {w : World} (h : S84 v0 K w) : callK Try.prog 84 [v0] K w :=
  callK_of (P := Try.prog) (ok := okf) (n := 25) (fn := Try.f84) (c := bodyOf Try.f84) (rs := [.tmp 2]) (an := (.node [] [] .nil (.node [] [] .nil (.node [] [] (.node [] [] .nil (.node [3, 4] [(3, 23)] (.node [] [] (.node [] [] .nil (.node [] [] .nil .nil)) (.node [] [] (.node [] [] .nil (.node [] [] .nil .nil)) .nil)) .nil)) (.node [] [] .nil .nil))))) good mixed Try.func84 (by kernel_rfl) (by kernel_rfl) (by kernel_rfl) (by kernel_rfl) (Eq.mp (S84_eq v0 K w) h)

/-- slices.Clone[[]rubric/api.Op,rubric/api.Op] -/
def S85 (v0 : Value) (K : Cont) (w : World) : Prop :=
  snilK v0 fun b4 =>
  condK (.bool b4)
  (K (.slice none 0 0) w)
  (rowK 59 5 0 [] [] (fun t5 w1 =>
  runK Try.prog (Builtin.append_ #[50, 50] 50 [t5, v0].toArray) (fun t7 w2 =>
  K t7 w2) w1) w)
theorem S85_eq (v0 : Value) (K : Cont) (w : World) : S85 v0 K w = D Try.prog okf 8 (bodyOf Try.f85) (.node [] [] .nil (.node [] [] (.node [] [] .nil (.node [] [] (.node [] [] .nil .nil) .nil)) (.node [] [] .nil .nil))) (retK Try.prog [.tmp 2] K) (nth [v0]) w := by kernel_rfl
theorem S85_ok {v0 : Value} {K : Cont} {w : World} (h : S85 v0 K w) : callK Try.prog 85 [v0] K w :=
  callK_of (P := Try.prog) (ok := okf) (n := 8) (fn := Try.f85) (c := bodyOf Try.f85) (rs := [.tmp 2]) (an := (.node [] [] .nil (.node [] [] (.node [] [] .nil (.node [] [] (.node [] [] .nil .nil) .nil)) (.node [] [] .nil .nil)))) good mixed Try.func85 (by kernel_rfl) (by kernel_rfl) (by kernel_rfl) (by kernel_rfl) (Eq.mp (S85_eq v0 K w) h)

/-- slices.Equal[[]rubric/api.Change,rubric/api.Change] -/
def S86 (v0 v1 : Value) (K : Cont) (w : World) : Prop :=
  lenK v0 fun t7 =>
  lenK v1 fun t9 =>
  neK .i64 t7 t9 fun t10 =>
  condK t10
  (K (.bool false) w)
  (lenK v0 fun t12 =>
  LoopK [(.int .i64 0)] (fun vs again w1 => ∀ _h : Env,
  ltK .i64 (nth vs 0) t12 fun t14 =>
  condK t14
  (DrawK w1 (fun C =>
  ixK 6 v0 (nth vs 0) fun t18 =>
  qldnK C 6 t18 fun t19 =>
  ixK 6 v1 (nth vs 0) fun t22 =>
  qldnK C 6 t22 fun t23 =>
  qrunK Try.prog C (binS .neq 61 (.tmp 19) (.tmp 23) t19 t23) fun t24 =>
  ∀ w2 : World, C w2 →
  condK t24
  (K (.bool false) w2)
  (addK .i64 (nth vs 0) (.int .i64 1) fun t25 =>
  again [t25] w2)))
  (K (.bool true) w1)) w)
theorem S86_eq (v0 v1 : Value) (K : Cont) (w : World) : S86 v0 v1 K w = D Try.prog okf 26 (bodyOf Try.f86) (.node [] [] .nil (.node [] [] (.node [] [] .nil (.node [] [] (.node [] [] .nil .nil) .nil)) (.node [] [] (.node [] [] .nil (.node [13] [(4, 5), (13, 25)] (.node [] [] .nil (.node [] [] (.node [] [] .nil .nil) (.node [] [] (.node [] [] .nil (.node [] [] .draw (.node [] [] (.node [] [] .nil .nil) .nil))) .nil))) .nil)) (.node [] [] .nil .nil)))) (retK Try.prog [.tmp 4] K) (nth [v0, v1]) w := by kernel_rfl
theorem S86_ok {v0 v1 : Value} {K : Cont} {w : World} (h : S86 v0 v1 K w) : callK Try.prog 86 [v0, v1] K w :=
  callK_of (P := Try.prog) (ok := okf) (n := 26) (fn := Try.f86) (c := bodyOf Try.f86) (rs := [.tmp 4]) (an := (.node [] [] .nil (.node [] [] (.node [] [] .nil (.node [] [] (.node [] [] .nil .nil) .nil)) (.node [] [] (.node [] [] .nil (.node [13] [(4, 5), (13, 25)] (.node [] [] .nil (.node [] [] (.node [] [] .nil .nil) (.node [] [] (.node [] [] .nil (.node [] [] .draw (.node [] [] (.node [] [] .nil .nil) .nil))) .nil))) .nil)) (.node [] [] .nil .nil))))) good mixed Try.func86 (by kernel_rfl) (by kernel_rfl) (by kernel_rfl) (by kernel_rfl) (Eq.mp (S86_eq v0 v1 K w) h)

/-- slices.Clone[[]rubric/api.Change,rubric/api.Change] -/
def S87 (v0 : Value) (K : Cont) (w : World) : Prop :=
  snilK v0 fun b4 =>
  condK (.bool b4)
  (K (.slice none 0 0) w)
  (rowK 61 6 0 [] [] (fun t5 w1 =>
  runK Try.prog (Builtin.append_ #[57, 57] 57 [t5, v0].toArray) (fun t7 w2 =>
  K t7 w2) w1) w)
theorem S87_eq (v0 : Value) (K : Cont) (w : World) : S87 v0 K w = D Try.prog okf 8 (bodyOf Try.f87) (.node [] [] .nil (.node [] [] (.node [] [] .nil (.node [] [] (.node [] [] .nil .nil) .nil)) (.node [] [] .nil .nil))) (retK Try.prog [.tmp 2] K) (nth [v0]) w := by kernel_rfl
theorem S87_ok {v0 : Value} {K : Cont} {w : World} (h : S87 v0 K w) : callK Try.prog 87 [v0] K w :=
  callK_of (P := Try.prog) (ok := okf) (n := 8) (fn := Try.f87) (c := bodyOf Try.f87) (rs := [.tmp 2]) (an := (.node [] [] .nil (.node [] [] (.node [] [] .nil (.node [] [] (.node [] [] .nil .nil) .nil)) (.node [] [] .nil .nil)))) good mixed Try.func87 (by kernel_rfl) (by kernel_rfl) (by kernel_rfl) (by kernel_rfl) (Eq.mp (S87_eq v0 K w) h)

/-- slices.Grow[[]rubric/api.Op,rubric/api.Op] -/
def S88 (v0 v1 : Value) (K : Cont) (w : World) : Prop :=
  JoinK (fun _vs w1 => ∀ _h : Env,
  runK Try.prog (Builtin.cap_ #[50] 3 [v0].toArray) (fun t10 w2 =>
  lenK v0 fun t12 =>
  subK .i64 t10 t12 fun t13 =>
  subK .i64 v1 t13 fun t14 =>
  gtK .i64 t14 (.int .i64 0) fun t16 =>
  condK t16
  (runK Try.prog (Builtin.cap_ #[50] 3 [v0].toArray) (fun t19 w3 =>
  runK Try.prog (Instr.sliceAt 50 v0 none (some t19) none) (fun t20 w4 =>
  runK Try.prog (Builtin.append_ #[50, 3] 50 [t20, t14].toArray) (fun t22 w5 =>
  lenK v0 fun t24 =>
  runK Try.prog (Instr.sliceAt 50 t22 none (some t24) none) (fun t25 w6 =>
  K t25 w6) w5) w4) w3) w2)
  (K v0 w2)) w1) (fun J =>
  ltK .i64 v1 (.int .i64 0) fun t6 =>
  condK t6
  (runK Try.prog (Instr.makeInterface 9 (.string (ByteArray.mk #[99, 97, 110, 110, 111, 116, 32, 98, 101, 32, 110, 101, 103, 97, 116, 105, 118, 101]))) (fun _t7 w7 =>
  False) w)
  (J [] w))
theorem S88_eq (v0 v1 : Value) (K : Cont) (w : World) : S88 v0 v1 K w = D Try.prog okf 27 (bodyOf Try.f88) (.node [] [] .nil (.cut [] [(5, 7)] (.node [] [] .nil (.node [] [] .nil .nil)) (.node [] [] (.node [] [] .nil (.node [] [] .nil (.node [] [] .nil .nil))) (.node [] [] .nil .nil)))) (retK Try.prog [.tmp 4] K) (nth [v0, v1]) w := by kernel_rfl
theorem S88_ok {v0 v1 : Value} {K : Cont} {w : World} (h : S88 v0 v1 K w) : callK Try.prog 88 [v0, v1] K w :=
  callK_of (P := Try.prog) (ok := okf) (n := 27) (fn := Try.f88) (c := bodyOf Try.f88) (rs := [.tmp 4]) (an := (.node [] [] .nil (.cut [] [(5, 7)] (.node [] [] .nil (.node [] [] .nil .nil)) (.node [] [] (.node [] [] .nil (.node [] [] .nil (.node [] [] .nil .nil))) (.node [] [] .nil .nil))))) good mixed Try.func88 (by kernel_rfl) (by kernel_rfl) (by kernel_rfl) (by kernel_rfl) (Eq.mp (S88_eq v0 v1 K w) h)

/-- rubric/rubricref01.May -/
def S92 (v0 : Value) (K : Cont) (w : World) : Prop :=
  geK .i32 v0 (.int .i32 0) fun t4 =>
  condK t4
  (ltK .i32 v0 (.int .i32 55296) fun t7 =>
  condK t7
  (K (.bool true) w)
  (geK .i32 v0 (.int .i32 57344) fun t11 =>
  condK t11
  (leK .i32 v0 (.int .i32 1114111) fun t14 =>
  K t14 w)
  (K (.bool false) w)))
  (geK .i32 v0 (.int .i32 57344) fun t11_1 =>
  condK t11_1
  (leK .i32 v0 (.int .i32 1114111) fun t14_1 =>
  K t14_1 w)
  (K (.bool false) w))
theorem S92_eq (v0 : Value) (K : Cont) (w : World) : S92 v0 K w = D Try.prog okf 17 (bodyOf Try.f92) (.node [] [] .nil (.node [] [] .nil .nil)) (retK Try.prog [.tmp 2] K) (nth [v0]) w := by kernel_rfl
theorem S92_ok {v0 : Value} {K : Cont} {w : World} (h : S92 v0 K w) : callK Try.prog 92 [v0] K w :=
  callK_of (P := Try.prog) (ok := okf) (n := 17) (fn := Try.f92) (c := bodyOf Try.f92) (rs := [.tmp 2]) (an := (.node [] [] .nil (.node [] [] .nil .nil))) good mixed Try.func92 (by kernel_rfl) (by kernel_rfl) (by kernel_rfl) (by kernel_rfl) (Eq.mp (S92_eq v0 K w) h)

/-- rubric/rubricref05.Rising -/
def S93 (v0 : Value) (K : Cont) (w : World) : Prop :=
  LoopK [(.int .i64 1)] (fun vs again w1 => ∀ _h : Env,
  lenK v0 fun t6 =>
  ltK .i64 (nth vs 0) t6 fun t7 =>
  condK t7
  (DrawK w1 (fun C =>
  subK .i64 (nth vs 0) (.int .i64 1) fun t12 =>
  ixK 5 v0 t12 fun t13 =>
  faK 0 t13 fun t14 =>
  qld1K C t14 fun t15 =>
  ixK 5 v0 (nth vs 0) fun t18 =>
  faK 0 t18 fun t19 =>
  qld1K C t19 fun t20 =>
  geK .i64 t15 t20 fun t21 =>
  ∀ w2 : World, C w2 →
  condK t21
  (K (.bool false) w2)
  (addK .i64 (nth vs 0) (.int .i64 1) fun t9 =>
  again [t9] w2)))
  (K (.bool true) w1)) w
theorem S93_eq (v0 : Value) (K : Cont) (w : World) : S93 v0 K w = D Try.prog okf 22 (bodyOf Try.f93) (.node [] [] .nil (.node [] [] (.node [] [] .nil (.node [3] [(2, 21)] (.node [] [] (.node [] [] .nil (.node [] [] .nil .nil)) (.node [] [] (.node [] [] .draw (.node [] [] (.node [] [] .nil .nil) .nil)) .nil)) .nil)) (.node [] [] .nil .nil))) (retK Try.prog [.tmp 2] K) (nth [v0]) w := by kernel_rfl
theorem S93_ok {v0 : Value} {K : Cont} {w : World} (h : S93 v0 K w) : callK Try.prog 93 [v0] K w :=
  callK_of (P := Try.prog) (ok := okf) (n := 22) (fn := Try.f93) (c := bodyOf Try.f93) (rs := [.tmp 2]) (an := (.node [] [] .nil (.node [] [] (.node [] [] .nil (.node [3] [(2, 21)] (.node [] [] (.node [] [] .nil (.node [] [] .nil .nil)) (.node [] [] (.node [] [] .draw (.node [] [] (.node [] [] .nil .nil) .nil)) .nil)) .nil)) (.node [] [] .nil .nil)))) good mixed Try.func93 (by kernel_rfl) (by kernel_rfl) (by kernel_rfl) (by kernel_rfl) (Eq.mp (S93_eq v0 K w) h)

/-- rubric/rubricref03.May -/
def S94 (v0 : Value) (K : Cont) (w : World) : Prop :=
  boxnK 44 v0 (fun t1 w1 =>
  faK 0 t1 fun t5 =>
  ld1K t5 (fun t6 w2 =>
  eqK .u8 t6 (.int .u8 1) fun t8 =>
  condK t8
  (ldnK 4 t1 (fun t9 w3 =>
  faK 1 t1 fun t10 =>
  ld1K t10 (fun t11 w4 =>
  buildK [(0, 1), (1, 1), (2, 1), (3, 1)] [(.int .u8 0), (.int .i64 0), (.int .u64 0), (.string (ByteArray.mk #[]))] [(0, (.int .u8 1)), (1, t11)] fun t12 =>
  runK Try.prog (binS .eql 44 (.tmp 9) (.tmp 12) t9 t12) (fun t13 w5 =>
  condK t13
  (faK 1 t1 fun t15 =>
  ld1K t15 (fun t16 w6 =>
  eqK .i64 t16 (.int .i64 0) fun t17 =>
  condK t17
  (K (.bool true) w6)
  (faK 1 t1 fun t19 =>
  ld1K t19 (fun t20 w7 =>
  eqK .i64 t20 (.int .i64 1) fun t21 =>
  K t21 w7) w6)) w5)
  (K (.bool false) w5)) w4) w3) w2)
  (eqK .u8 t6 (.int .u8 2) fun t25 =>
  condK t25
  (ldnK 4 t1 (fun t26 w8 =>
  faK 1 t1 fun t27 =>
  ld1K t27 (fun t28 w9 =>
  buildK [(0, 1), (1, 1), (2, 1), (3, 1)] [(.int .u8 0), (.int .i64 0), (.int .u64 0), (.string (ByteArray.mk #[]))] [(0, (.int .u8 2)), (1, t28)] fun t29 =>
  runK Try.prog (binS .eql 44 (.tmp 26) (.tmp 29) t26 t29) (fun t30 w10 =>
  K t30 w10) w9) w8) w2)
  (eqK .u8 t6 (.int .u8 3) fun t32 =>
  condK t32
  (ldnK 4 t1 (fun t33 w11 =>
  faK 2 t1 fun t34 =>
  ld1K t34 (fun t35 w12 =>
  buildK [(0, 1), (1, 1), (2, 1), (3, 1)] [(.int .u8 0), (.int .i64 0), (.int .u64 0), (.string (ByteArray.mk #[]))] [(0, (.int .u8 3)), (2, t35)] fun t36 =>
  runK Try.prog (binS .eql 44 (.tmp 33) (.tmp 36) t33 t36) (fun t37 w13 =>
  condK t37
  (faK 2 t1 fun t39 =>
  ld1K t39 (fun t40 w14 =>
  callK Try.prog 109 [t40] (fun t41 w15 =>
  notK t41 fun t42 =>
  condK t42
  (K (.bool true) w15)
  (faK 2 t1 fun t44 =>
  ld1K t44 (fun t45 w16 =>
  eqK .u64 t45 (.int .u64 9221120237041090560) fun t46 =>
  K t46 w16) w15)) w14) w13)
  (K (.bool false) w13)) w12) w11) w2)
  (eqK .u8 t6 (.int .u8 4) fun t50 =>
  condK t50
  (faK 3 t1 fun t52 =>
  ld1K t52 (fun t53 w17 =>
  runK Try.prog (convert 9 137 t53) (fun t54 w18 =>
  callK Try.prog 110 [t54] (fun t55 w19 =>
  extK 0 t55 fun _t56 =>
  extK 1 t55 fun t57 =>
  ldnK 4 t1 (fun t58 w20 =>
  faK 3 t1 fun t59 =>
  ld1K t59 (fun t60 w21 =>
  buildK [(0, 1), (1, 1), (2, 1), (3, 1)] [(.int .u8 0), (.int .i64 0), (.int .u64 0), (.string (ByteArray.mk #[]))] [(0, (.int .u8 4)), (3, t60)] fun t61 =>
  runK Try.prog (binS .eql 44 (.tmp 58) (.tmp 61) t58 t61) (fun t62 w22 =>
  condK t62
  (faK 3 t1 fun t64 =>
  ld1K t64 (fun t65 w23 =>
  slenK t65 fun t66 =>
  leK .i64 t66 (.int .i64 64) fun t67 =>
  condK t67
  (eqK .i64 t57 (.int .i64 0) fun t71 =>
  K t71 w23)
  (K (.bool false) w23)) w22)
  (K (.bool false) w22)) w21) w20) w19) w18) w17) w2)
  (K (.bool false) w2))))) w1) w
theorem S94_eq (v0 : Value) (K : Cont) (w : World) : S94 v0 K w = D Try.prog okf 73 (bodyOf Try.f94) (.node [] [] .nil (.node [] [] (.node [] [] .nil (.node [] [] .nil (.node [] [] (.node [] [] .nil .nil) (.node [] [] .nil (.node [] [] (.node [] [] .nil .nil) (.node [] [] .nil (.node [] [] (.node [] [] .nil .nil) (.node [] [] .nil (.node [] [] (.node [] [] .nil (.node [] [] .nil .nil)) .nil))))))))) (.node [] [] .nil .nil))) (retK Try.prog [.tmp 2] K) (nth [v0]) w := by kernel_rfl
theorem S94_ok {v0 : Value} {K : Cont} {w : World} (h : S94 v0 K w) : callK Try.prog 94 [v0] K w :=
  callK_of (P := Try.prog) (ok := okf) (n := 73) (fn := Try.f94) (c := bodyOf Try.f94) (rs := [.tmp 2]) (an := (.node [] [] .nil (.node [] [] (.node [] [] .nil (.node [] [] .nil (.node [] [] (.node [] [] .nil .nil) (.node [] [] .nil (.node [] [] (.node [] [] .nil .nil) (.node [] [] .nil (.node [] [] (.node [] [] .nil .nil) (.node [] [] .nil (.node [] [] (.node [] [] .nil (.node [] [] .nil .nil)) .nil))))))))) (.node [] [] .nil .nil)))) good mixed Try.func94 (by kernel_rfl) (by kernel_rfl) (by kernel_rfl) (by kernel_rfl) (Eq.mp (S94_eq v0 K w) h)

/-- rubric/rubricref04.Fits -/
def S95 (v0 v1 v2 : Value) (K : Cont) (w : World) : Prop :=
  boxnK 44 v2 (fun t5 w1 =>
  callK Try.prog 97 [v0, v1] (fun t12 w2 =>
  extK 0 t12 fun t13 =>
  extK 1 t12 fun t14 =>
  newK 72 [(.int .i64 0), (.bool false), (.int .u8 0), (.bool false), (.bool false), (.int .i64 0)] (fun t7 w3 =>
  stnK 6 t7 t13 (fun w4 =>
  condK t14
  (ldnK 4 t5 (fun t17 w5 =>
  callK Try.prog 94 [t17] (fun t18 w6 =>
  condK t18
  (faK 0 t5 fun t21 =>
  ld1K t21 (fun t22 w7 =>
  faK 2 t7 fun t23 =>
  ld1K t23 (fun t24 w8 =>
  eqK .u8 t22 t24 fun t25 =>
  K t25 w8) w7) w6)
  (K (.bool false) w6)) w5) w4)
  (K (.bool false) w4)) w3) w2) w1) w
theorem S95_eq (v0 v1 v2 : Value) (K : Cont) (w : World) : S95 v0 v1 v2 K w = D Try.prog okf 27 (bodyOf Try.f95) (.node [] [] .nil (.node [] [] .nil (.node [] [] .nil .nil))) (retK Try.prog [.tmp 6] K) (nth [v0, v1, v2]) w := by kernel_rfl
theorem S95_ok {v0 v1 v2 : Value} {K : Cont} {w : World} (h : S95 v0 v1 v2 K w) : callK Try.prog 95 [v0, v1, v2] K w :=
  callK_of (P := Try.prog) (ok := okf) (n := 27) (fn := Try.f95) (c := bodyOf Try.f95) (rs := [.tmp 6]) (an := (.node [] [] .nil (.node [] [] .nil (.node [] [] .nil .nil)))) good mixed Try.func95 (by kernel_rfl) (by kernel_rfl) (by kernel_rfl) (by kernel_rfl) (Eq.mp (S95_eq v0 v1 v2 K w) h)

/-- rubric/rubricref06.Rising -/
def S96 (v0 : Value) (K : Cont) (w : World) : Prop :=
  LoopK [(.int .i64 1)] (fun vs again w1 => ∀ _h : Env,
  lenK v0 fun t6 =>
  ltK .i64 (nth vs 0) t6 fun t7 =>
  condK t7
  (DrawK w1 (fun C =>
  subK .i64 (nth vs 0) (.int .i64 1) fun t12 =>
  ixK 6 v0 t12 fun t13 =>
  faK 0 t13 fun t14 =>
  qld1K C t14 fun t15 =>
  ixK 6 v0 (nth vs 0) fun t18 =>
  faK 0 t18 fun t19 =>
  qld1K C t19 fun t20 =>
  geK .i64 t15 t20 fun t21 =>
  ∀ w2 : World, C w2 →
  condK t21
  (K (.bool false) w2)
  (addK .i64 (nth vs 0) (.int .i64 1) fun t9 =>
  again [t9] w2)))
  (K (.bool true) w1)) w
theorem S96_eq (v0 : Value) (K : Cont) (w : World) : S96 v0 K w = D Try.prog okf 22 (bodyOf Try.f96) (.node [] [] .nil (.node [] [] (.node [] [] .nil (.node [3] [(2, 21)] (.node [] [] (.node [] [] .nil (.node [] [] .nil .nil)) (.node [] [] (.node [] [] .draw (.node [] [] (.node [] [] .nil .nil) .nil)) .nil)) .nil)) (.node [] [] .nil .nil))) (retK Try.prog [.tmp 2] K) (nth [v0]) w := by kernel_rfl
theorem S96_ok {v0 : Value} {K : Cont} {w : World} (h : S96 v0 K w) : callK Try.prog 96 [v0] K w :=
  callK_of (P := Try.prog) (ok := okf) (n := 22) (fn := Try.f96) (c := bodyOf Try.f96) (rs := [.tmp 2]) (an := (.node [] [] .nil (.node [] [] (.node [] [] .nil (.node [3] [(2, 21)] (.node [] [] (.node [] [] .nil (.node [] [] .nil .nil)) (.node [] [] (.node [] [] .draw (.node [] [] (.node [] [] .nil .nil) .nil)) .nil)) .nil)) (.node [] [] .nil .nil)))) good mixed Try.func96 (by kernel_rfl) (by kernel_rfl) (by kernel_rfl) (by kernel_rfl) (Eq.mp (S96_eq v0 K w) h)

/-- rubric/rubricref04.Find -/
def S97 (v0 v1 : Value) (K : Cont) (w : World) : Prop :=
  newK 72 [(.int .i64 0), (.bool false), (.int .u8 0), (.bool false), (.bool false), (.int .i64 0)] (fun t4 w1 =>
  LoopK [(.int .i64 0)] (fun vs again w2 => ∀ _h : Env,
  lenK v0 fun t9 =>
  ltK .i64 (nth vs 0) t9 fun t10 =>
  condK t10
  (ixK 6 v0 (nth vs 0) fun t15 =>
  faK 0 t15 fun t16 =>
  ld1K t16 (fun t17 w3 =>
  eqK .i64 t17 v1 fun t19 =>
  condK t19
  (ixK 6 v0 (nth vs 0) fun t22 =>
  ldnK 6 t22 (fun t23 w4 =>
  stnK 6 t4 t23 (fun w5 =>
  ldnK 6 t4 (fun r0 w6 =>
  K (.tuple #[r0, (.bool true)]) w6) w5) w4) w3)
  (addK .i64 (nth vs 0) (.int .i64 1) fun t12 =>
  again [t12] w3)) w2)
  (buildK [(0, 1), (1, 1), (2, 1), (3, 1), (4, 1), (5, 1)] [(.int .i64 0), (.bool false), (.int .u8 0), (.bool false), (.bool false), (.int .i64 0)] [] fun t24 =>
  stnK 6 t4 t24 (fun w7 =>
  ldnK 6 t4 (fun r0_1 w8 =>
  K (.tuple #[r0_1, (.bool false)]) w8) w7) w2)) w1) w
theorem S97_eq (v0 v1 : Value) (K : Cont) (w : World) : S97 v0 v1 K w = D Try.prog okf 25 (bodyOf Try.f97) (.node [] [] .nil (.node [] [] (.node [] [] .nil (.node [6] [(5, 23)] (.node [] [] (.node [] [] .nil (.node [] [] .nil .nil)) (.node [] [] (.node [] [] .nil (.node [] [] (.node [] [] .nil .nil) .nil)) .nil)) .nil)) (.node [] [] .nil .nil))) (retK Try.prog [.cell 4 72, .tmp 5] K) (nth [v0, v1]) w := by kernel_rfl
theorem S97_ok {v0 v1 : Value} {K : Cont} {w : World} (h : S97 v0 v1 K w) : callK Try.prog 97 [v0, v1] K w :=
  callK_of (P := Try.prog) (ok := okf) (n := 25) (fn := Try.f97) (c := bodyOf Try.f97) (rs := [.cell 4 72, .tmp 5]) (an := (.node [] [] .nil (.node [] [] (.node [] [] .nil (.node [6] [(5, 23)] (.node [] [] (.node [] [] .nil (.node [] [] .nil .nil)) (.node [] [] (.node [] [] .nil (.node [] [] (.node [] [] .nil .nil) .nil)) .nil)) .nil)) (.node [] [] .nil .nil)))) good mixed Try.func97 (by kernel_rfl) (by kernel_rfl) (by kernel_rfl) (by kernel_rfl) (Eq.mp (S97_eq v0 v1 K w) h)

/-- rubric/rubricref15.Len -/
def S98 (v0 : Value) (K : Cont) (w : World) : Prop :=
  boxnK 59 v0 (fun t1 w1 =>
  faK 0 t1 fun t3 =>
  ld1K t3 (fun t4 w2 =>
  eqK .u8 t4 (.int .u8 2) fun t5 =>
  condK t5
  (faK 2 t1 fun t6 =>
  ld1K t6 (fun t7 w3 =>
  lenK t7 fun t8 =>
  K t8 w3) w2)
  (faK 1 t1 fun t9 =>
  ld1K t9 (fun t10 w4 =>
  K t10 w4) w2)) w1) w
theorem S98_eq (v0 : Value) (K : Cont) (w : World) : S98 v0 K w = D Try.prog okf 11 (bodyOf Try.f98) (.node [] [] .nil (.node [] [] (.node [] [] .nil (.node [] [] (.node [] [] .nil .nil) .nil)) (.node [] [] .nil .nil))) (retK Try.prog [.tmp 2] K) (nth [v0]) w := by kernel_rfl
theorem S98_ok {v0 : Value} {K : Cont} {w : World} (h : S98 v0 K w) : callK Try.prog 98 [v0] K w :=
  callK_of (P := Try.prog) (ok := okf) (n := 11) (fn := Try.f98) (c := bodyOf Try.f98) (rs := [.tmp 2]) (an := (.node [] [] .nil (.node [] [] (.node [] [] .nil (.node [] [] (.node [] [] .nil .nil) .nil)) (.node [] [] .nil .nil)))) good mixed Try.func98 (by kernel_rfl) (by kernel_rfl) (by kernel_rfl) (by kernel_rfl) (Eq.mp (S98_eq v0 K w) h)

/-- rubric/rubricref03.none -/
def S109 (v0 : Value) (K : Cont) (w : World) : Prop :=
  runK Try.prog (binS .rem 42 (.tmp 3) (.const (.int .u64 9223372036854775808)) v0 (.int .u64 9223372036854775808)) (fun t4 w1 =>
  gtK .u64 t4 (.int .u64 9218868437227405312) fun t5 =>
  K t5 w1) w
theorem S109_eq (v0 : Value) (K : Cont) (w : World) : S109 v0 K w = D Try.prog okf 6 (bodyOf Try.f109) (.node [] [] .nil (.node [] [] .nil .nil)) (retK Try.prog [.tmp 2] K) (nth [v0]) w := by kernel_rfl
theorem S109_ok {v0 : Value} {K : Cont} {w : World} (h : S109 v0 K w) : callK Try.prog 109 [v0] K w :=
  callK_of (P := Try.prog) (ok := okf) (n := 6) (fn := Try.f109) (c := bodyOf Try.f109) (rs := [.tmp 2]) (an := (.node [] [] .nil (.node [] [] .nil .nil))) good mixed Try.func109 (by kernel_rfl) (by kernel_rfl) (by kernel_rfl) (by kernel_rfl) (Eq.mp (S109_eq v0 K w) h)

/-- rubric/rubricref01.Read -/
def S110 (v0 : Value) (K : Cont) (w : World) : Prop :=
  LoopK [(.slice none 0 0), (.int .i64 0)] (fun vs again w1 => ∀ _h : Env,
  lenK v0 fun t10 =>
  ltK .i64 (nth vs 1) t10 fun t11 =>
  condK t11
  (runK Try.prog (Instr.sliceAt 137 v0 (some (nth vs 1)) none none) (fun t15 w2 =>
  callK Try.prog 116 [t15] (fun t16 w3 =>
  extK 0 t16 fun t17 =>
  extK 1 t16 fun t18 =>
  eqK .i64 t18 (.int .i64 0) fun t20 =>
  condK t20
  (K (.tuple #[(.slice none 0 0), (.int .i64 3)]) w3)
  (rowK 21 1 1 [(.int .i32 0)] [(0, t17)] (fun t23 w4 =>
  runK Try.prog (Builtin.append_ #[56, 56] 56 [(nth vs 0), t23].toArray) (fun t24 w5 =>
  addK .i64 (nth vs 1) t18 fun t27 =>
  again [t24, t27] w5) w4) w3)) w2) w1)
  (K (.tuple #[(nth vs 0), (.int .i64 0)]) w1)) w
theorem S110_eq (v0 : Value) (K : Cont) (w : World) : S110 v0 K w = D Try.prog okf 29 (bodyOf Try.f110) (.node [] [] .nil (.node [] [] .nil (.node [] [] (.node [] [] .nil (.node [4, 5] [(2, 27)] (.node [] [] (.node [] [] .nil (.node [] [] .nil .nil)) (.node [] [] .nil (.node [] [] (.node [] [] .nil (.node [] [] (.node [] [] .nil .nil) .nil)) (.node [] [] .nil .nil)))) .nil)) (.node [] [] .nil .nil)))) (retK Try.prog [.tmp 2, .tmp 3] K) (nth [v0]) w := by kernel_rfl
theorem S110_ok {v0 : Value} {K : Cont} {w : World} (h : S110 v0 K w) : callK Try.prog 110 [v0] K w :=
  callK_of (P := Try.prog) (ok := okf) (n := 29) (fn := Try.f110) (c := bodyOf Try.f110) (rs := [.tmp 2, .tmp 3]) (an := (.node [] [] .nil (.node [] [] .nil (.node [] [] (.node [] [] .nil (.node [4, 5] [(2, 27)] (.node [] [] (.node [] [] .nil (.node [] [] .nil .nil)) (.node [] [] .nil (.node [] [] (.node [] [] .nil (.node [] [] (.node [] [] .nil .nil) .nil)) (.node [] [] .nil .nil)))) .nil)) (.node [] [] .nil .nil))))) good mixed Try.func110 (by kernel_rfl) (by kernel_rfl) (by kernel_rfl) (by kernel_rfl) (Eq.mp (S110_eq v0 K w) h)

/-- rubric/rubricref01.next -/
def S116 (v0 : Value) (K : Cont) (w : World) : Prop :=
  ixK 1 v0 (.int .i64 0) fun t8 =>
  ld1K t8 (fun t9 w1 =>
  runK Try.prog (convert 5 21 t9) (fun t10 w2 =>
  JoinK (fun vs w3 => ∀ _h : Env,
  lenK v0 fun t47 =>
  ltK .i64 t47 (nth vs 0) fun t49 =>
  condK t49
  (K (.tuple #[(.int .i32 0), (.int .i64 0)]) w3)
  (LoopK [(nth vs 1), (.int .i64 1)] (fun vs_1 again w4 => ∀ _h_1 : Env,
  ltK .i64 (nth vs_1 1) (nth vs 0) fun t52 =>
  condK t52
  (JoinK (fun _vs_2 w5 => ∀ _h_2 : Env,
  mulK .i32 (nth vs_1 0) (.int .i32 64) fun t68 =>
  ixK 1 v0 (nth vs_1 1) fun t71 =>
  ld1K t71 (fun t72 w6 =>
  runK Try.prog (convert 5 21 t72) (fun t73 w7 =>
  addK .i32 t68 t73 fun t74 =>
  subK .i32 t74 (.int .i32 128) fun t75 =>
  addK .i64 (nth vs_1 1) (.int .i64 1) fun t54 =>
  again [t75, t54] w7) w6) w5) (fun J_1 =>
  ixK 1 v0 (nth vs_1 1) fun t57 =>
  ld1K t57 (fun t58 w8 =>
  ltK .u8 t58 (.int .u8 128) fun t59 =>
  condK t59
  (K (.tuple #[(.int .i32 0), (.int .i64 0)]) w8)
  (ixK 1 v0 (nth vs_1 1) fun t63 =>
  ld1K t63 (fun t64 w9 =>
  gtK .u8 t64 (.int .u8 191) fun t65 =>
  condK t65
  (K (.tuple #[(.int .i32 0), (.int .i64 0)]) w9)
  (J_1 [] w9)) w8)) w4))
  (callK Try.prog 92 [(nth vs_1 0)] (fun t77 w10 =>
  notK t77 fun t78 =>
  condK t78
  (K (.tuple #[(.int .i32 0), (.int .i64 0)]) w10)
  (callK Try.prog 118 [(nth vs_1 0)] (fun t81 w11 =>
  lenK t81 fun t82 =>
  neK .i64 t82 (nth vs 0) fun t84 =>
  condK t84
  (K (.tuple #[(.int .i32 0), (.int .i64 0)]) w11)
  (K (.tuple #[(nth vs_1 0), (nth vs 0)]) w11)) w10)) w4)) w3)) (fun J =>
  ixK 1 v0 (.int .i64 0) fun t13 =>
  ld1K t13 (fun t14 w12 =>
  geK .u8 t14 (.int .u8 240) fun t15 =>
  condK t15
  (ixK 1 v0 (.int .i64 0) fun t17 =>
  ld1K t17 (fun t18 w13 =>
  runK Try.prog (convert 5 21 t18) (fun t19 w14 =>
  subK .i32 t19 (.int .i32 240) fun t20 =>
  J [(.int .i64 4), t20] w14) w13) w12)
  (ixK 1 v0 (.int .i64 0) fun t23 =>
  ld1K t23 (fun t24 w15 =>
  geK .u8 t24 (.int .u8 224) fun t25 =>
  condK t25
  (ixK 1 v0 (.int .i64 0) fun t27 =>
  ld1K t27 (fun t28 w16 =>
  runK Try.prog (convert 5 21 t28) (fun t29 w17 =>
  subK .i32 t29 (.int .i32 224) fun t30 =>
  J [(.int .i64 3), t30] w17) w16) w15)
  (ixK 1 v0 (.int .i64 0) fun t33 =>
  ld1K t33 (fun t34 w18 =>
  geK .u8 t34 (.int .u8 192) fun t35 =>
  condK t35
  (ixK 1 v0 (.int .i64 0) fun t37 =>
  ld1K t37 (fun t38 w19 =>
  runK Try.prog (convert 5 21 t38) (fun t39 w20 =>
  subK .i32 t39 (.int .i32 192) fun t40 =>
  J [(.int .i64 2), t40] w20) w19) w18)
  (ixK 1 v0 (.int .i64 0) fun t43 =>
  ld1K t43 (fun t44 w21 =>
  geK .u8 t44 (.int .u8 128) fun t45 =>
  condK t45
  (K (.tuple #[(.int .i32 0), (.int .i64 0)]) w21)
  (J [(.int .i64 1), t10] w21)) w18)) w15)) w12)) w2)) w1) w
theorem S116_eq (v0 : Value) (K : Cont) (w : World) : S116 v0 K w = D Try.prog okf 88 (bodyOf Try.f116) (.node [] [] .nil (.node [] [] .nil (.node [] [] .nil (.cut [4, 5] [(2, 5), (11, 45)] (.node [] [] .nil (.node [] [] (.node [] [] .nil .nil) (.node [] [] .nil (.node [] [] (.node [] [] .nil .nil) (.node [] [] .nil (.node [] [] (.node [] [] .nil .nil) (.node [] [] .nil (.node [] [] (.node [] [] .nil .nil) .nil)))))))) (.node [] [] (.node [] [] .nil (.node [] [] (.node [] [] .nil .nil) .nil)) (.node [] [] (.node [] [] .nil (.node [5, 6] [(2, 3), (5, 6), (50, 75)] (.node [] [] (.node [] [] .nil (.node [] [] .nil .nil)) (.node [] [] (.cut [] [(2, 3), (55, 66)] (.node [] [] .nil (.node [] [] (.node [] [] .nil .nil) .nil)) .nil) .nil)) .nil)) (.node [] [] (.node [] [] .nil (.node [] [] (.node [] [] .nil .nil) .nil)) (.node [] [] .nil .nil)))))))) (retK Try.prog [.tmp 2, .tmp 3] K) (nth [v0]) w := by kernel_rfl
theorem S116_ok {v0 : Value} {K : Cont} {w : World} (h : S116 v0 K w) : callK Try.prog 116 [v0] K w :=
  callK_of (P := Try.prog) (ok := okf) (n := 88) (fn := Try.f116) (c := bodyOf Try.f116) (rs := [.tmp 2, .tmp 3]) (an := (.node [] [] .nil (.node [] [] .nil (.node [] [] .nil (.cut [4, 5] [(2, 5), (11, 45)] (.node [] [] .nil (.node [] [] (.node [] [] .nil .nil) (.node [] [] .nil (.node [] [] (.node [] [] .nil .nil) (.node [] [] .nil (.node [] [] (.node [] [] .nil .nil) (.node [] [] .nil (.node [] [] (.node [] [] .nil .nil) .nil)))))))) (.node [] [] (.node [] [] .nil (.node [] [] (.node [] [] .nil .nil) .nil)) (.node [] [] (.node [] [] .nil (.node [5, 6] [(2, 3), (5, 6), (50, 75)] (.node [] [] (.node [] [] .nil (.node [] [] .nil .nil)) (.node [] [] (.cut [] [(2, 3), (55, 66)] (.node [] [] .nil (.node [] [] (.node [] [] .nil .nil) .nil)) .nil) .nil)) .nil)) (.node [] [] (.node [] [] .nil (.node [] [] (.node [] [] .nil .nil) .nil)) (.node [] [] .nil .nil))))))))) good mixed Try.func116 (by kernel_rfl) (by kernel_rfl) (by kernel_rfl) (by kernel_rfl) (Eq.mp (S116_eq v0 K w) h)

/-- rubric/rubricref01.one -/
def S118 (v0 : Value) (K : Cont) (w : World) : Prop :=
  ltK .i32 v0 (.int .i32 128) fun t5 =>
  condK t5
  (runK Try.prog (convert 21 5 v0) (fun t7 w1 =>
  rowK 5 1 1 [(.int .u8 0)] [(0, t7)] (fun t8 w2 =>
  K t8 w2) w1) w)
  (ltK .i32 v0 (.int .i32 2048) fun t11 =>
  condK t11
  (runK Try.prog (binS .quo 21 (.tmp 12) (.const (.int .i32 64)) v0 (.int .i32 64)) (fun t13 w3 =>
  addK .i32 (.int .i32 192) t13 fun t14 =>
  runK Try.prog (convert 21 5 t14) (fun t15 w4 =>
  callK Try.prog 119 [v0] (fun t17 w5 =>
  rowK 5 1 2 [(.int .u8 0)] [(0, t15), (1, t17)] (fun t18 w6 =>
  K t18 w6) w5) w4) w3) w)
  (ltK .i32 v0 (.int .i32 65536) fun t21 =>
  condK t21
  (runK Try.prog (binS .quo 21 (.tmp 22) (.const (.int .i32 4096)) v0 (.int .i32 4096)) (fun t23 w7 =>
  addK .i32 (.int .i32 224) t23 fun t24 =>
  runK Try.prog (convert 21 5 t24) (fun t25 w8 =>
  runK Try.prog (binS .quo 21 (.tmp 26) (.const (.int .i32 64)) v0 (.int .i32 64)) (fun t27 w9 =>
  callK Try.prog 119 [t27] (fun t28 w10 =>
  callK Try.prog 119 [v0] (fun t30 w11 =>
  rowK 5 1 3 [(.int .u8 0)] [(0, t25), (1, t28), (2, t30)] (fun t31 w12 =>
  K t31 w12) w11) w10) w9) w8) w7) w)
  (runK Try.prog (binS .quo 21 (.tmp 32) (.const (.int .i32 262144)) v0 (.int .i32 262144)) (fun t33 w13 =>
  addK .i32 (.int .i32 240) t33 fun t34 =>
  runK Try.prog (convert 21 5 t34) (fun t35 w14 =>
  runK Try.prog (binS .quo 21 (.tmp 36) (.const (.int .i32 4096)) v0 (.int .i32 4096)) (fun t37 w15 =>
  callK Try.prog 119 [t37] (fun t38 w16 =>
  runK Try.prog (binS .quo 21 (.tmp 39) (.const (.int .i32 64)) v0 (.int .i32 64)) (fun t40 w17 =>
  callK Try.prog 119 [t40] (fun t41 w18 =>
  callK Try.prog 119 [v0] (fun t43 w19 =>
  rowK 5 1 4 [(.int .u8 0)] [(0, t35), (1, t38), (2, t41), (3, t43)] (fun t44 w20 =>
  K t44 w20) w19) w18) w17) w16) w15) w14) w13) w)))
theorem S118_eq (v0 : Value) (K : Cont) (w : World) : S118 v0 K w = D Try.prog okf 45 (bodyOf Try.f118) (.node [] [] .nil (.node [] [] (.node [] [] .nil (.node [] [] (.node [] [] .nil .nil) (.node [] [] .nil (.node [] [] (.node [] [] .nil .nil) (.node [] [] .nil (.node [] [] (.node [] [] .nil .nil) .nil)))))) (.node [] [] .nil .nil))) (retK Try.prog [.tmp 2] K) (nth [v0]) w := by kernel_rfl
theorem S118_ok {v0 : Value} {K : Cont} {w : World} (h : S118 v0 K w) : callK Try.prog 118 [v0] K w :=
  callK_of (P := Try.prog) (ok := okf) (n := 45) (fn := Try.f118) (c := bodyOf Try.f118) (rs := [.tmp 2]) (an := (.node [] [] .nil (.node [] [] (.node [] [] .nil (.node [] [] (.node [] [] .nil .nil) (.node [] [] .nil (.node [] [] (.node [] [] .nil .nil) (.node [] [] .nil (.node [] [] (.node [] [] .nil .nil) .nil)))))) (.node [] [] .nil .nil)))) good mixed Try.func118 (by kernel_rfl) (by kernel_rfl) (by kernel_rfl) (by kernel_rfl) (Eq.mp (S118_eq v0 K w) h)

/-- rubric/rubricref01.six -/
def S119 (v0 : Value) (K : Cont) (w : World) : Prop :=
  runK Try.prog (binS .rem 21 (.tmp 3) (.const (.int .i32 64)) v0 (.int .i32 64)) (fun t4 w1 =>
  addK .i32 (.int .i32 128) t4 fun t5 =>
  runK Try.prog (convert 21 5 t5) (fun t6 w2 =>
  K t6 w2) w1) w
theorem S119_eq (v0 : Value) (K : Cont) (w : World) : S119 v0 K w = D Try.prog okf 7 (bodyOf Try.f119) (.node [] [] .nil (.node [] [] .nil .nil)) (retK Try.prog [.tmp 2] K) (nth [v0]) w := by kernel_rfl
theorem S119_ok {v0 : Value} {K : Cont} {w : World} (h : S119 v0 K w) : callK Try.prog 119 [v0] K w :=
  callK_of (P := Try.prog) (ok := okf) (n := 7) (fn := Try.f119) (c := bodyOf Try.f119) (rs := [.tmp 2]) (an := (.node [] [] .nil (.node [] [] .nil .nil))) good mixed Try.func119 (by kernel_rfl) (by kernel_rfl) (by kernel_rfl) (by kernel_rfl) (Eq.mp (S119_eq v0 K w) h)

end Go.Proofs.Ytmfplfaeibehiaa

namespace Go.K
open Go
theorem clone_g {α : Type} {P : Program} {t e k bytes : Nat} {R : World → List Value → α → Prop} {S : Nat → Prop} {w : World} {v : Value} {l : List α} {K : Cont} (hE : ElemOK P t e k bytes) (h : SlR S k R w v l) (hl : l.length * bytes ≤ 140737488355328)
    (hone : ∀ w r y, R w r y → ∀ u ∈ r, u.oneCell' = true) (hR : ∀ w1 w2 r y, w.heap.size ≤ w1.heap.size → Mod (fun b => w.heap.size ≤ b) w1 w2 → R w1 r y → R w2 r y)
    (hK : ∀ v' w', OwnR w.heap.size e k R w' v' l → Grow w w' → K v' w') :
    snilK v fun b4 => condK (.bool b4) (K (.slice none 0 0) w) (rowK e k 0 [] [] (fun t5 w1 => runK P (Builtin.append_ #[t, t] t [t5, v].toArray) (fun t7 w2 => K t7 w2) w1) w) := by
  obtain ⟨a, c, rfl, hm⟩ := h.shape
  have hk := hE
  obtain ⟨_, _, _, _, _, _, _, _, hk0⟩ := hk
  cases a with
  | none =>
    simp only [KS]
    have : l = [] := by
      cases l with
      | nil => rfl
      | cons x l => obtain ⟨p, r, e, _⟩ := h.get (i := 0) (by simp); cases e
    subst this
    exact hK _ _ OwnR.nil (Mod.refl _ _)
  | some p =>
    simp only [KS]
    refine rowK_empty ?_
    have hg : Grow w (w.alloc (.cells #[] e)) := Mod.alloc _ _ _
    have ho : OwnR w.heap.size e k R (w.alloc (.cells #[] e)) (.slice (some ⟨w.heap.size, 0, none⟩) 0 0) ([] : List α) := OwnR.made (Nat.le_refl _)
    obtain ⟨v', w', h1, h2, h3, h4⟩ := OwnR.append (ty := t) hE ho ((h.old hk0).grow hg hk0 fun r x hx => hR _ _ _ _ (Nat.le_refl _) hg.mod hx) (fun _ _ => hone _ _ _) (by simpa using hl) (by simp) (by simpa using hm) (fun w' hg' r y hy => hR _ _ _ _ hg.size ((Mod.of_grownBy hg').mono fun b _ e => by simp only [Value.ownBlock, Option.some.injEq] at e; omega) hy)
    refine runK_i h1 (hK _ _ ?_ (hg.next (Mod.of_grownBy h3) ?_))
    · refine h2.base fun g hg' => ?_
      rcases h4 g hg' with h | h
      · cases h; exact Nat.le_refl _
      · simp only [World.size_alloc] at h; omega
    · intro b hb e; simp only [Value.ownBlock, Option.some.injEq] at e; omega
theorem condK_neg {p : Prop} [Decidable p] {A B : Prop} (h1 : p → B) (h2 : ¬ p → A) : condK (.bool (!decide p)) A B := by
  by_cases h : p
  · rw [decide_eq_true h]; exact h1 h
  · rw [decide_eq_false h]; exact h2 h
/-- the loop that compares two rows of the same length -/
theorem eq_loop {α : Type} [DecidableEq α] {P : Program} {k : Nat} {R R' : World → List Value → α → Prop} {S S' : Nat → Prop} {w : World} {a b : Option Addr} {ca cb : Nat} {l m : List α} {K : Cont} {bin : Value → Value → Sem Value}
    (ha : SlR S k R w (.slice a l.length ca) l) (hb : SlR S' k R' w (.slice b m.length cb) m) (hlen : l.length = m.length) (hm : l.length ≤ maxLen)
    (hbin : ∀ r r' x y w1, R w r x → R' w r' y → (bin (.agg r.toArray) (.agg r'.toArray)).run P w1 = .ok (.bool (!decide (x = y))) w1)
    (hK : ∀ w', Grow w w' → K (.bool (decide (l = m))) w') :
    LoopK [(.int .i64 0)] (fun vs again w1 => ∀ _ : Env, ltK .i64 (nth vs 0) (.int .i64 l.length) fun t14 => condK t14
      (DrawK w1 (fun C => ixK k (.slice a l.length ca) (nth vs 0) fun t18 => qldnK C k t18 fun t19 => ixK k (.slice b m.length cb) (nth vs 0) fun t22 => qldnK C k t22 fun t23 => qrunK P C (bin t19 t23) fun t24 =>
        ∀ w2 : World, C w2 → condK t24 (K (.bool false) w2) (addK .i64 (nth vs 0) (.int .i64 1) fun t25 => again [t25] w2)))
      (K (.bool true) w1)) w := by
  simp only [maxLen] at hm
  refine LoopK_i (fun vs w' => ∃ k : Nat, k ≤ l.length ∧ vs = [.int .i64 k] ∧ Grow w w' ∧ l.take k = m.take k) (fun vs _ => l.length - iOf vs 0) ⟨0, Nat.zero_le _, rfl, Mod.refl _ _, rfl⟩ ?_
  rintro vs w1 ⟨q, hq, rfl, hg, ht⟩ h
  simp only [KS]
  by_cases hlt : q < l.length
  · rw [if_pos (show (q : Int) < l.length by omega)]
    refine ⟨fun w2 => Grow w1 w2, Mod.drew _ _, ?_⟩
    obtain ⟨p, r, rfl, _, hr, hc, hx⟩ := ha.get hlt
    obtain ⟨p', r', rfl, _, hr', hc', hx'⟩ := hb.get (show q < m.length by omega)
    refine ixK_n hlt (qldnK_i hr (fun w2 h2 j u hu => ?_) ?_)
    · rw [Addr.add_add]; exact h2.cell (hg.cell (hc j u hu) (fun h => h)) (fun h => h)
    refine ixK_n (by omega) (qldnK_i hr' (fun w2 h2 j u hu => ?_) ?_)
    · rw [Addr.add_add]; exact h2.cell (hg.cell (hc' j u hu) (fun h => h)) (fun h => h)
    refine ⟨_, fun w2 _ => hbin _ _ _ _ w2 hx hx', fun w2 h2 => ?_⟩
    simp only [KS]
    by_cases he : l[q] = m[q]
    · rw [if_neg (fun h => h he)]
      refine ⟨⟨q + 1, by omega, by rw [wrap64 (by omega) (by omega)]; rfl, hg.trans h2, ?_⟩, ?_⟩
      · rw [List.take_add_one, List.take_add_one, ht]
        simp [hlt, show q < m.length by omega, he]
      · simp only [iOf, nth, List.headD_cons]; rw [wrap64 (by omega) (by omega)]; omega
    · rw [if_pos he]
      have : decide (l = m) = false := by rw [decide_eq_false_iff_not]; intro e; subst e; exact he rfl
      rw [← this]; exact hK _ (hg.trans h2)
  · rw [if_neg (show ¬ (q : Int) < l.length by omega)]
    have : q = l.length := by omega
    subst this
    rw [List.take_length, hlen, List.take_length] at ht
    have : decide (l = m) = true := by rw [decide_eq_true_eq]; exact ht
    rw [← this]; exact hK _ hg
/-- the same at elements of one cell -/
theorem eq_loop1 {q : IntKind} {R : World → List Value → Int → Prop} {S S' : Nat → Prop} {w : World} {a b : Option Addr} {ca cb : Nat} {l m : List Int} {K : Cont}
    (ha : SlR S 1 R w (.slice a l.length ca) l) (hb : SlR S' 1 R w (.slice b m.length cb) m) (hlen : l.length = m.length) (hm : l.length ≤ maxLen)
    (hRi : ∀ r x, R w r x → r = [.int q x])
    (hK : ∀ w', Grow w w' → K (.bool (decide (l = m))) w') :
    LoopK [(.int .i64 0)] (fun vs again w1 => ∀ _ : Env, ltK .i64 (nth vs 0) (.int .i64 l.length) fun t14 => condK t14
      (DrawK w1 (fun C => ixK 1 (.slice a l.length ca) (nth vs 0) fun t18 => qld1K C t18 fun t19 => ixK 1 (.slice b m.length cb) (nth vs 0) fun t22 => qld1K C t22 fun t23 => neK q t19 t23 fun t24 =>
        ∀ w2 : World, C w2 → condK t24 (K (.bool false) w2) (addK .i64 (nth vs 0) (.int .i64 1) fun t25 => again [t25] w2)))
      (K (.bool true) w1)) w := by
  simp only [maxLen] at hm
  refine LoopK_i (fun vs w' => ∃ k : Nat, k ≤ l.length ∧ vs = [.int .i64 k] ∧ Grow w w' ∧ l.take k = m.take k) (fun vs _ => l.length - iOf vs 0) ⟨0, Nat.zero_le _, rfl, Mod.refl _ _, rfl⟩ ?_
  rintro vs w1 ⟨i, hi, rfl, hg, ht⟩ h
  simp only [KS]
  by_cases hlt : i < l.length
  · rw [if_pos (show (i : Int) < l.length by omega)]
    refine ⟨fun w2 => Grow w1 w2, Mod.drew _ _, ?_⟩
    obtain ⟨p, r, rfl, _, hr, hc, hx⟩ := ha.get hlt
    obtain ⟨p', r', rfl, _, hr', hc', hx'⟩ := hb.get (show i < m.length by omega)
    obtain rfl := hRi _ _ hx
    obtain rfl := hRi _ _ hx'
    refine ixK_n hlt (qld1K_i (v := .int q l[i]) (fun w2 h2 => h2.cell (hg.cell (hc 0 _ rfl) fun h => h) fun h => h) ?_)
    refine ixK_n (by omega) (qld1K_i (v := .int q m[i]) (fun w2 h2 => h2.cell (hg.cell (hc' 0 _ rfl) fun h => h) fun h => h) ?_)
    simp only [KS]
    intro w2 h2
    by_cases he : l[i] = m[i]
    · rw [if_neg (fun h => h he)]
      refine ⟨⟨i + 1, by omega, by rw [wrap64 (by omega) (by omega)]; rfl, hg.trans h2, ?_⟩, ?_⟩
      · rw [List.take_add_one, List.take_add_one, ht]
        simp [hlt, show i < m.length by omega, he]
      · simp only [iOf, nth, List.headD_cons]; rw [wrap64 (by omega) (by omega)]; omega
    · rw [if_pos he]
      have : decide (l = m) = false := by rw [decide_eq_false_iff_not]; intro e; subst e; exact he rfl
      rw [← this]; exact hK _ (hg.trans h2)
  · rw [if_neg (show ¬ (i : Int) < l.length by omega)]
    have : i = l.length := by omega
    subst this
    rw [List.take_length, hlen, List.take_length] at ht
    have : decide (l = m) = true := by rw [decide_eq_true_eq]; exact ht
    rw [← this]; exact hK _ hg
end Go.K
namespace Go.Proofs.Ytmfplfaeibehiaa
open Go Go.K
theorem clone_run {S : Nat → Prop} {v : Value} {l : List Int} {w : World} (h : SlR S 1 RRune w v l) (hl : l.length * 4 ≤ 140737488355328) :
    callK Try.prog 64 [v] (fun v' w' => OwnR w.heap.size 21 1 RRune w' v' l ∧ Grow w w') w := by
  apply S64_ok
  unfold S64
  exact clone_g elem_rune h hl (fun _ _ _ => RRune.one) (fun _ _ _ _ _ _ h => h) fun v' w' h1 h2 => And.intro h1 h2
theorem clone_pat {S : Nat → Prop} {v : Value} {l : List Chg} {w : World} (h : SlR S 6 RChg w v l) (hl : l.length * 56 ≤ 140737488355328) :
    callK Try.prog 87 [v] (fun v' w' => OwnR w.heap.size 61 6 RChg w' v' l ∧ Grow w w') w := by
  apply S87_ok
  unfold S87
  exact clone_g elem_chg h hl (fun _ _ _ => RChg.one) (fun _ _ _ _ _ _ h => h) fun v' w' h1 h2 => And.intro h1 h2
theorem RDops.old {S D : Nat → Prop} {w : World} {v : Value} {l : List Dop} (h : RDops S D w v l) : RDops (fun b => S b ∧ b < w.heap.size) (fun b => D b ∧ b < w.heap.size) w v l :=
  SlR.sub h (fun b hb h => ⟨h, hb⟩) (by decide) fun r x hx => hx.mod (Mod.refl (fun _ => False) _) (fun _ _ _ h => h) fun b hb h => ⟨h, hb⟩
/-- a row of ops of its own; what they hold is what was held -/
theorem clone_dops {S D : Nat → Prop} {v : Value} {l : List Dop} {w : World} (h : RDops S D w v l) (hl : l.length * 88 ≤ 140737488355328) :
    callK Try.prog 85 [v] (fun v' w' => OwnR w.heap.size 59 5 (RDop fun b => D b ∧ b < w.heap.size) w' v' l ∧ Grow w w') w := by
  apply S85_ok
  unfold S85
  exact clone_g elem_dop h.old hl (fun _ _ _ => RDop.one) (fun w1 w2 r y hz hm hy => hy.mod hm (fun b _ hd hb => by omega) fun _ _ h => h) fun v' w' h1 h2 => And.intro h1 h2
theorem copy_pat {S : Nat → Prop} {v : Value} {l : List Chg} {w : World} (h : RPat S w v l) (hl : l.length * 56 ≤ 140737488355328) :
    callK Try.prog 63 [v] (fun v' w' => OwnR w.heap.size 61 6 RChg w' v' l ∧ Grow w w') w := by
  apply S63_ok
  exact clone_pat h hl
theorem eq_run {S S' : Nat → Prop} {a b : Value} {l m : List Int} {w : World} (ha : SlR S 1 RRune w a l) (hb : SlR S' 1 RRune w b m) :
    callK Try.prog 70 [a, b] (fun v w' => v = .bool (decide (l = m)) ∧ Grow w w') w := by
  apply S70_ok
  unfold S70
  obtain ⟨pa, ca, rfl, hla⟩ := ha.shape
  obtain ⟨pb, cb, rfl, hlb⟩ := hb.shape
  simp only [lenK_i]
  rw [neK_i]
  refine condK_neg (fun hlen => ?_) fun hlen => ?_
  · exact eq_loop1 (K := fun v w' => v = .bool (decide (l = m)) ∧ Grow w w') ha hb (by omega) hla (fun _ _ h => h) fun _ hg => ⟨rfl, hg⟩
  · refine ⟨?_, Mod.refl _ _⟩
    congr 1; symm
    rw [decide_eq_false_iff_not]
    intro e; exact hlen (by rw [e])
theorem rsame_run {S S' : Nat → Prop} {a b : Value} {l m : List Int} {w : World} (ha : SlR S 1 RRune w a l) (hb : SlR S' 1 RRune w b m) :
    callK Try.prog 58 [a, b] (fun v w' => v = .bool (decide (l = m)) ∧ Grow w w') w := by
  apply S58_ok
  unfold S58
  obtain ⟨pa, ca, rfl, hla⟩ := ha.shape
  obtain ⟨pb, cb, rfl, hlb⟩ := hb.shape
  simp only [lenK_i]
  rw [neK_i]
  refine condK_neg (fun hlen => ?_) fun hlen => ?_
  · exact eq_loop1 (K := fun v w' => v = .bool (decide (l = m)) ∧ Grow w w') ha hb (by omega) hla (fun _ _ h => h) fun _ hg => ⟨rfl, hg⟩
  · refine ⟨?_, Mod.refl _ _⟩
    congr 1; symm
    rw [decide_eq_false_iff_not]
    intro e; exact hlen (by rw [e])
theorem eq_pat {S S' : Nat → Prop} {a b : Value} {l m : List Chg} {w : World} (ha : SlR S 6 RChg w a l) (hb : SlR S' 6 RChg w b m) :
    callK Try.prog 86 [a, b] (fun v w' => v = .bool (decide (l = m)) ∧ Grow w w') w := by
  apply S86_ok
  unfold S86
  obtain ⟨pa, ca, rfl, hla⟩ := ha.shape
  obtain ⟨pb, cb, rfl, hlb⟩ := hb.shape
  simp only [lenK_i]
  rw [neK_i]
  refine condK_neg (fun hlen => ?_) fun hlen => ?_
  · exact eq_loop (K := fun v w' => v = .bool (decide (l = m)) ∧ Grow w w') (bin := fun x y => binS .neq 61 _ _ x y) ha hb (by omega) hla (fun r r' x y w1 hx hy => by subst hx; subst hy; exact run_ne_chg _ _ _ _ w1) fun _ hg => ⟨rfl, hg⟩
  · refine ⟨?_, Mod.refl _ _⟩
    congr 1; symm
    rw [decide_eq_false_iff_not]
    intro e; exact hlen (by rw [e])
theorem rsame_pat {S S' : Nat → Prop} {a b : Value} {l m : List Chg} {w : World} (ha : SlR S 6 RChg w a l) (hb : SlR S' 6 RChg w b m) :
    callK Try.prog 59 [a, b] (fun v w' => v = .bool (decide (l = m)) ∧ Grow w w') w := by
  apply S59_ok
  unfold S59
  obtain ⟨pa, ca, rfl, hla⟩ := ha.shape
  obtain ⟨pb, cb, rfl, hlb⟩ := hb.shape
  simp only [lenK_i]
  rw [neK_i]
  refine condK_neg (fun hlen => ?_) fun hlen => ?_
  · exact eq_loop (K := fun v w' => v = .bool (decide (l = m)) ∧ Grow w w') (bin := fun x y => binS .neq 61 _ _ x y) ha hb (by omega) hla (fun r r' x y w1 hx hy => by subst hx; subst hy; exact run_ne_chg _ _ _ _ w1) fun _ hg => ⟨rfl, hg⟩
  · refine ⟨?_, Mod.refl _ _⟩
    congr 1; symm
    rw [decide_eq_false_iff_not]
    intro e; exact hlen (by rw [e])
theorem same_pat {S S' : Nat → Prop} {a b : Value} {l m : List Chg} {w : World} (ha : RPat S w a l) (hb : RPat S' w b m) :
    callK Try.prog 62 [a, b] (fun v w' => v = .bool (decide (l = m)) ∧ Grow w w') w := by
  apply S62_ok
  exact eq_pat ha hb
end Go.Proofs.Ytmfplfaeibehiaa
