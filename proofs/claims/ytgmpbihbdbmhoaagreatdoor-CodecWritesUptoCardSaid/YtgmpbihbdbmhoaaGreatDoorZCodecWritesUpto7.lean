/- CodecWrites: for every input of bulk at most 1048576 the law returns true, and each argument reads behind the call as it read before; the two tables tied. Condition: the bulk. -/
import Derived.Test.YtgmpbihbdbmhoaaGreatDoorZCodecWritesUpto6
import Derived.Test.YtgmpbihbdbmhoaaGreatDoorRows
import Derived.Lib.LaidU8
import Derived.Lib.LaidIn
import Derived.LaidHandle
import Derived.LaidMore
import Derived.MakeChecks
import Derived.Test.YtgmpbihbdbmhoaaGreatDoorTie
import Derived.Test.YtgmpbihbdbmhoaaGreatDoorCards
import Derived.WalkKit
import Derived.OpenShut
import Derived.ShutString
import Derived.ChangeOld
import Derived.ChangeVars
import Derived.JoinedOf
import Derived.JoinedCond
import Derived.Deep.DeepHandedRow
import Derived.SevenTiedAt
namespace Go.Proofs.YtgmpbihbdbmhoaaGreatDoor
open Go Go.K
def S10 (v0 v1:Value) (K:Cont) (w:World):Prop:=
 callK Tryz.prog 23 [v0,v1] (fun t9 w1=>
 neK .i64 t9 (.int .i64 0) fun t11=>
 condK t11
 (K (.tuple #[(.slice none 0 0),t9]) w1)
 (callK Tryz.prog 25 [v1] (fun t14 w2=>
 callK Tryz.prog 24 [t14] (fun t15 w3=>
 K (.tuple #[t15,(.int .i64 0)]) w3) w2) w1)) w
theorem S10_eq (v0 v1:Value) (K:Cont) (w:World):S10 v0 v1 K w=D Tryz.prog okf 16 (bodyOf Tryz.f10) (.node [] [] .nil (.node [] [] .nil (.node [] [] (.node [] [] .nil (.node [] [] (.node [] [] .nil .nil) .nil)) (.node [] [] .nil .nil)))) (retK Tryz.prog [.tmp 4,.tmp 5] K) (nth [v0,v1]) w:=by kernel_rfl
theorem S10_ok {v0 v1:Value} {K:Cont} {w:World} (h:S10 v0 v1 K w):callK Tryz.prog 10 [v0,v1] K w:=
 callK_of (P:=Tryz.prog) (ok:=okf) (n:=16) (fn:=Tryz.f10) (c:=bodyOf Tryz.f10) (rs:=[.tmp 4,.tmp 5]) (an:=(.node [] [] .nil (.node [] [] .nil (.node [] [] (.node [] [] .nil (.node [] [] (.node [] [] .nil .nil) .nil)) (.node [] [] .nil .nil))))) good mixed Tryz.func10 (by kernel_rfl) (by kernel_rfl) (by kernel_rfl) (by kernel_rfl) (Eq.mp (S10_eq v0 v1 K w) h)

def S24 (v0:Value) (K:Cont) (w:World):Prop:=
 lenK v0 fun t11=>
 runK Tryz.prog (convert 3 57 t11) (fun t12 w1=>
 callK Tryz.prog 60 [t12] (fun t13 w2=>
 LoopK [t13,(.int .i64 0)] (fun vs again w3=>∀ _h:Env,
 lenK v0 fun t16=>
 ltK .i64 (nth vs 1) t16 fun t17=>
 condK t17
 (JoinK (fun vs_1 w4=>∀ _h_1:Env,
 addK .i64 (nth vs 1) (.int .i64 1) fun t19=>
 again [(nth vs_1 0),t19] w4) (fun J=>
 ixK 5 v0 (nth vs 1) fun t22=>
 ldnK 5 t22 (fun t23 w5=>
 newK 56 [(.int .u8 0),(.int .i64 0),(.slice none 0 0),(.slice none 0 0),(.slice none 0 0)] (fun t5 w6=>
 stnK 5 t5 t23 (fun w7=>
 faK 0 t5 fun t25=>
 ld1K t25 (fun t26 w8=>
 runK Tryz.prog (convert 5 57 t26) (fun t27 w9=>
 callK Tryz.prog 60 [t27] (fun t28 w10=>
 runK Tryz.prog (Builtin.append_ #[31,31] 31 [(nth vs 0),t28].toArray) (fun t29 w11=>
 faK 0 t5 fun t30=>
 ld1K t30 (fun t31 w12=>
 eqK .u8 t31 (.int .u8 1) fun t33=>
 condK t33
 (faK 1 t5 fun t35=>
 ld1K t35 (fun t36 w13=>
 runK Tryz.prog (convert 3 57 t36) (fun t37 w14=>
 callK Tryz.prog 60 [t37] (fun t38 w15=>
 runK Tryz.prog (Builtin.append_ #[31,31] 31 [t29,t38].toArray) (fun t39 w16=>
 faK 4 t5 fun t41=>
 ld1K t41 (fun t42 w17=>
 lenK t42 fun t43=>
 runK Tryz.prog (convert 3 57 t43) (fun t44 w18=>
 callK Tryz.prog 60 [t44] (fun t45 w19=>
 runK Tryz.prog (Builtin.append_ #[31,31] 31 [t39,t45].toArray) (fun t46 w20=>
 LoopK [t46,(.int .i64 0)] (fun vs_2 again_1 w21=>∀ _h_2:Env,
 faK 4 t5 fun t48=>
 ld1K t48 (fun t49 w22=>
 lenK t49 fun t50=>
 ltK .i64 (nth vs_2 1) t50 fun t51=>
 condK t51
 (faK 4 t5 fun t55=>
 ld1K t55 (fun t56 w23=>
 ixK 6 t56 (nth vs_2 1) fun t58=>
 faK 0 t58 fun t59=>
 ld1K t59 (fun t60 w24=>
 runK Tryz.prog (convert 3 57 t60) (fun t61 w25=>
 callK Tryz.prog 60 [t61] (fun t62 w26=>
 runK Tryz.prog (Builtin.append_ #[31,31] 31 [(nth vs_2 0),t62].toArray) (fun t63 w27=>
 faK 4 t5 fun t64=>
 ld1K t64 (fun t65 w28=>
 ixK 6 t65 (nth vs_2 1) fun t67=>
 faK 1 t67 fun t68=>
 ld1K t68 (fun t69 w29=>
 condK t69
 (rowK 5 1 1 [(.int .u8 0)] [(0,(.int .u8 0))] (fun t71 w30=>
 runK Tryz.prog (Builtin.append_ #[31,31] 31 [t63,t71].toArray) (fun t72 w31=>
 addK .i64 (nth vs_2 1) (.int .i64 1) fun t53=>
 again_1 [t72,t53] w31) w30) w29)
 (faK 4 t5 fun t74=>
 ld1K t74 (fun t75 w32=>
 ixK 6 t75 (nth vs_2 1) fun t77=>
 faK 2 t77 fun t78=>
 ldnK 4 t78 (fun t79 w33=>
 callK Tryz.prog 61 [t79] (fun t80 w34=>
 runK Tryz.prog (Builtin.append_ #[31,31] 31 [t63,t80].toArray) (fun t81 w35=>
 addK .i64 (nth vs_2 1) (.int .i64 1) fun t53_1=>
 again_1 [t81,t53_1] w35) w34) w33) w32) w29)) w28) w27) w26) w25) w24) w23) w22)
 (J [(nth vs_2 0)] w22)) w21) w20) w19) w18) w17) w16) w15) w14) w13) w12)
 (eqK .u8 t31 (.int .u8 2) fun t83=>
 condK t83
 (faK 2 t5 fun t85=>
 ld1K t85 (fun t86 w36=>
 callK Tryz.prog 62 [t86] (fun t87 w37=>
 extK 0 t87 fun t88=>
 extK 1 t87 fun _t89=>
 lenK t88 fun t92=>
 runK Tryz.prog (convert 3 57 t92) (fun t93 w38=>
 callK Tryz.prog 60 [t93] (fun t94 w39=>
 runK Tryz.prog (Builtin.append_ #[31,31] 31 [t29,t94].toArray) (fun t95 w40=>
 runK Tryz.prog (Builtin.append_ #[31,31] 31 [t95,t88].toArray) (fun t98 w41=>
 faK 3 t5 fun t100=>
 ld1K t100 (fun t101 w42=>
 lenK t101 fun t102=>
 runK Tryz.prog (convert 3 57 t102) (fun t103 w43=>
 callK Tryz.prog 60 [t103] (fun t104 w44=>
 runK Tryz.prog (Builtin.append_ #[31,31] 31 [t98,t104].toArray) (fun t105 w45=>
 LoopK [t105,(.int .i64 0)] (fun vs_3 again_2 w46=>∀ _h_3:Env,
 faK 3 t5 fun t107=>
 ld1K t107 (fun t108 w47=>
 lenK t108 fun t109=>
 ltK .i64 (nth vs_3 1) t109 fun t110=>
 condK t110
 (faK 3 t5 fun t114=>
 ld1K t114 (fun t115 w48=>
 ixK 5 t115 (nth vs_3 1) fun t117=>
 faK 0 t117 fun t118=>
 ld1K t118 (fun t119 w49=>
 runK Tryz.prog (convert 3 57 t119) (fun t120 w50=>
 callK Tryz.prog 60 [t120] (fun t121 w51=>
 runK Tryz.prog (Builtin.append_ #[31,31] 31 [(nth vs_3 0),t121].toArray) (fun t122 w52=>
 faK 3 t5 fun t124=>
 ld1K t124 (fun t125 w53=>
 ixK 5 t125 (nth vs_3 1) fun t127=>
 faK 1 t127 fun t128=>
 ldnK 4 t128 (fun t129 w54=>
 callK Tryz.prog 61 [t129] (fun t130 w55=>
 runK Tryz.prog (Builtin.append_ #[31,31] 31 [t122,t130].toArray) (fun t131 w56=>
 addK .i64 (nth vs_3 1) (.int .i64 1) fun t112=>
 again_2 [t131,t112] w56) w55) w54) w53) w52) w51) w50) w49) w48) w47)
 (J [(nth vs_3 0)] w47)) w46) w45) w44) w43) w42) w41) w40) w39) w38) w37) w36) w12)
 (eqK .u8 t31 (.int .u8 3) fun t133=>
 condK t133
 (faK 1 t5 fun t135=>
 ld1K t135 (fun t136 w57=>
 runK Tryz.prog (convert 3 57 t136) (fun t137 w58=>
 callK Tryz.prog 60 [t137] (fun t138 w59=>
 runK Tryz.prog (Builtin.append_ #[31,31] 31 [t29,t138].toArray) (fun t139 w60=>
 J [t139] w60) w59) w58) w57) w12)
 (J [t29] w12)))) w11) w10) w9) w8) w7) w6) w5) w3))
 (K (nth vs 0) w3)) w2) w1) w
theorem S24_eq (v0:Value) (K:Cont) (w:World):S24 v0 K w=D Tryz.prog okf 141 (bodyOf Tryz.f24) (.node [] [] .nil (.node [] [] .nil (.node [] [] (.node [] [] .nil (.node [3,4] [(3,9),(14,139)] (.node [] [] (.node [] [] .nil (.node [] [] .nil .nil)) (.cut [3] [(3,3),(5,9),(20,139)] (.node [] [] .nil (.node [] [] .nil (.node [] [] .nil (.node [] [] .nil (.node [] [] (.node [] [] .nil (.node [] [] .nil (.node [] [] .nil (.node [3,6] [(3,3),(6,6),(47,81)] (.node [] [] (.node [] [] .nil (.node [] [] .nil .nil)) (.node [] [] (.node [] [] .nil (.node [] [] .nil (.node [] [] .nil .nil))) .nil)) .nil)))) (.node [] [] .nil (.node [] [] (.node [] [] .nil (.node [] [] .nil (.node [] [] .nil (.node [] [] .nil (.node [] [] .nil (.node [3,9] [(3,3),(9,9),(106,131)] (.node [] [] (.node [] [] .nil (.node [] [] .nil .nil)) (.node [] [] (.node [] [] .nil .nil) .nil)) .nil)))))) (.node [] [] .nil (.node [] [] .nil .nil))))))))) .nil)) .nil)) (.node [] [] .nil .nil)))) (retK Tryz.prog [.tmp 2] K) (nth [v0]) w:=by kernel_rfl
theorem S24_ok {v0:Value} {K:Cont} {w:World} (h:S24 v0 K w):callK Tryz.prog 24 [v0] K w:=
 callK_of (P:=Tryz.prog) (ok:=okf) (n:=141) (fn:=Tryz.f24) (c:=bodyOf Tryz.f24) (rs:=[.tmp 2]) (an:=(.node [] [] .nil (.node [] [] .nil (.node [] [] (.node [] [] .nil (.node [3,4] [(3,9),(14,139)] (.node [] [] (.node [] [] .nil (.node [] [] .nil .nil)) (.cut [3] [(3,3),(5,9),(20,139)] (.node [] [] .nil (.node [] [] .nil (.node [] [] .nil (.node [] [] .nil (.node [] [] (.node [] [] .nil (.node [] [] .nil (.node [] [] .nil (.node [3,6] [(3,3),(6,6),(47,81)] (.node [] [] (.node [] [] .nil (.node [] [] .nil .nil)) (.node [] [] (.node [] [] .nil (.node [] [] .nil (.node [] [] .nil .nil))) .nil)) .nil)))) (.node [] [] .nil (.node [] [] (.node [] [] .nil (.node [] [] .nil (.node [] [] .nil (.node [] [] .nil (.node [] [] .nil (.node [3,9] [(3,3),(9,9),(106,131)] (.node [] [] (.node [] [] .nil (.node [] [] .nil .nil)) (.node [] [] (.node [] [] .nil .nil) .nil)) .nil)))))) (.node [] [] .nil (.node [] [] .nil .nil))))))))) .nil)) .nil)) (.node [] [] .nil .nil))))) good mixed Tryz.func24 (by kernel_rfl) (by kernel_rfl) (by kernel_rfl) (by kernel_rfl) (Eq.mp (S24_eq v0 K w) h)

def S61 (v0:Value) (K:Cont) (w:World):Prop:=
 boxnK 59 v0 (fun t1 w1=>
 faK 0 t1 fun t4=>
 ld1K t4 (fun t5 w2=>
 runK Tryz.prog (convert 5 57 t5) (fun t6 w3=>
 callK Tryz.prog 60 [t6] (fun t7 w4=>
 faK 0 t1 fun t8=>
 ld1K t8 (fun t9 w5=>
 JoinK (fun vs w6=>∀ _h:Env,
 condK (nth vs 0)
 (faK 1 t1 fun t14=>
 ld1K t14 (fun t15 w7=>
 callK Tryz.prog 113 [t15] (fun t16 w8=>
 callK Tryz.prog 60 [t16] (fun t17 w9=>
 runK Tryz.prog (Builtin.append_ #[31,31] 31 [t7,t17].toArray) (fun t18 w10=>
 K t18 w10) w9) w8) w7) w6)
 (eqK .u8 t9 (.int .u8 3) fun t20=>
 condK t20
 (faK 2 t1 fun t22=>
 ld1K t22 (fun t23 w11=>
 callK Tryz.prog 60 [t23] (fun t24 w12=>
 runK Tryz.prog (Builtin.append_ #[31,31] 31 [t7,t24].toArray) (fun t25 w13=>
 K t25 w13) w12) w11) w6)
 (faK 3 t1 fun t27=>
 ld1K t27 (fun t28 w14=>
 slenK t28 fun t29=>
 runK Tryz.prog (convert 3 57 t29) (fun t30 w15=>
 callK Tryz.prog 60 [t30] (fun t31 w16=>
 runK Tryz.prog (Builtin.append_ #[31,31] 31 [t7,t31].toArray) (fun t32 w17=>
 faK 3 t1 fun t34=>
 ld1K t34 (fun t35 w18=>
 runK Tryz.prog (convert 9 31 t35) (fun t36 w19=>
 runK Tryz.prog (Builtin.append_ #[31,31] 31 [t32,t36].toArray) (fun t37 w20=>
 K t37 w20) w19) w18) w17) w16) w15) w14) w6))) (fun J=>
 eqK .u8 t9 (.int .u8 1) fun t11=>
 condK t11
 (J [t11] w5)
 (eqK .u8 t9 (.int .u8 2) fun t12=>
 J [t12] w5))) w4) w3) w2) w1) w
theorem S61_eq (v0:Value) (K:Cont) (w:World):S61 v0 K w=D Tryz.prog okf 38 (bodyOf Tryz.f61) (.node [] [] .nil (.node [] [] .nil (.node [] [] (.node [] [] .nil (.cut [10] [(10,12)] (.node [] [] .nil (.node [] [] .nil .nil)) (.node [] [] (.node [] [] .nil .nil) (.node [] [] .nil (.node [] [] (.node [] [] .nil .nil) .nil))))) (.node [] [] .nil (.node [] [] .nil .nil))))) (retK Tryz.prog [.tmp 2] K) (nth [v0]) w:=by kernel_rfl
theorem S61_ok {v0:Value} {K:Cont} {w:World} (h:S61 v0 K w):callK Tryz.prog 61 [v0] K w:=
 callK_of (P:=Tryz.prog) (ok:=okf) (n:=38) (fn:=Tryz.f61) (c:=bodyOf Tryz.f61) (rs:=[.tmp 2]) (an:=(.node [] [] .nil (.node [] [] .nil (.node [] [] (.node [] [] .nil (.cut [10] [(10,12)] (.node [] [] .nil (.node [] [] .nil .nil)) (.node [] [] (.node [] [] .nil .nil) (.node [] [] .nil (.node [] [] (.node [] [] .nil .nil) .nil))))) (.node [] [] .nil (.node [] [] .nil .nil)))))) good mixed Tryz.func61 (by kernel_rfl) (by kernel_rfl) (by kernel_rfl) (by kernel_rfl) (Eq.mp (S61_eq v0 K w) h)

def S13 (v0 v1:Value) (K:Cont) (w:World):Prop:=
 buildK [(0,1),(1,1),(2,1)] [(.slice none 0 0),(.int .i64 0),(.bool false)] [(0,v1)] fun t20=>
 boxnK 83 t20 (fun t21 w1=>
 JoinK (fun vs w2=>∀ _h:Env,
 JoinK (fun _vs_1 w3=>∀ _h_1:Env,
 callK Tryz.prog 23 [v0,(nth vs 0)] (fun t147 w4=>
 JoinK (fun _vs_2 w5=>∀ _h_2:Env,
 neK .i64 t147 (.int .i64 0) fun t156=>
 condK t156
 (K (.tuple #[(.slice none 0 0),t147]) w5)
 (K (.tuple #[(nth vs 0),(.int .i64 0)]) w5)) (fun J_2=>
 eqK .i64 t147 (.int .i64 3) fun t149=>
 condK t149
 (K (.tuple #[(.slice none 0 0),(.int .i64 3)]) w4)
 (callK Tryz.prog 38 [(nth vs 0)] (fun t152 w6=>
 notK t152 fun t153=>
 condK t153
 (K (.tuple #[(.slice none 0 0),(.int .i64 3)]) w6)
 (J_2 [] w6)) w4))) w3) (fun J_1=>
 nilckK t21 fun t133=>
 faK 2 t133 fun t134=>
 ld1K t134 (fun t135 w7=>
 condK t135
 (K (.tuple #[(.slice none 0 0),(.int .i64 3)]) w7)
 (nilckK t21 fun t138=>
 faK 1 t138 fun t139=>
 ld1K t139 (fun t140 w8=>
 lenK v1 fun t142=>
 neK .i64 t140 t142 fun t143=>
 condK t143
 (K (.tuple #[(.slice none 0 0),(.int .i64 3)]) w8)
 (J_1 [] w8)) w7)) w2)) (fun J=>
 callK Tryz.prog 32 [t21] (fun t23 w9=>
 LoopK [(.slice none 0 0),t23] (fun vs_3 again w10=>∀ _h_3:Env,
 JoinK (fun _vs_4 w11=>∀ _h_4:Env,
 buildK [(0,1),(1,1),(2,1),(3,1),(4,1)] [(.int .u8 0),(.int .i64 0),(.slice none 0 0),(.slice none 0 0),(.slice none 0 0)] [] fun t35=>
 newK 56 [(.int .u8 0),(.int .i64 0),(.slice none 0 0),(.slice none 0 0),(.slice none 0 0)] (fun t9 w12=>
 stnK 5 t9 t35 (fun w13=>
 callK Tryz.prog 32 [t21] (fun t37 w14=>
 JoinK (fun _vs_5 w15=>∀ _h_5:Env,
 ldnK 5 t9 (fun t129 w16=>
 rowK 56 5 1 [(.int .u8 0),(.int .i64 0),(.slice none 0 0),(.slice none 0 0),(.slice none 0 0)] [(0,t129)] (fun t130 w17=>
 runK Tryz.prog (Builtin.append_ #[23,23] 23 [(nth vs_3 0),t130].toArray) (fun t131 w18=>
 subK .u64 (nth vs_3 1) (.int .u64 1) fun t34=>
 again [t131,t34] w18) w17) w16) w15) (fun J_4=>
 eqK .u64 t37 (.int .u64 1) fun t43=>
 condK t43
 (faK 0 t9 fun t44=>
 st1K t44 (.int .u8 1) (fun w19=>
 callK Tryz.prog 33 [t21] (fun t46 w20=>
 faK 1 t9 fun t47=>
 st1K t47 t46 (fun w21=>
 callK Tryz.prog 32 [t21] (fun t49 w22=>
 LoopK [t49] (fun vs_6 again_1 w23=>∀ _h_6:Env,
 JoinK (fun _vs_7 w24=>∀ _h_7:Env,
 callK Tryz.prog 34 [t21] (fun t62 w25=>
 buildK [(0,1),(1,1),(2,4)] [(.int .i64 0),(.bool false),(.int .u8 0),(.int .i64 0),(.int .u64 0),(.string (ByteArray.mk #[]))] [(0,t62)] fun t63=>
 newK 63 [(.int .i64 0),(.bool false),(.int .u8 0),(.int .i64 0),(.int .u64 0),(.string (ByteArray.mk #[]))] (fun t12 w26=>
 stnK 6 t12 t63 (fun w27=>
 callK Tryz.prog 32 [t21] (fun t65 w28=>
 JoinK (fun _vs_8 w29=>∀ _h_8:Env,
 faK 4 t9 fun t73=>
 ld1K t73 (fun t74 w30=>
 ldnK 6 t12 (fun t75 w31=>
 rowK 63 6 1 [(.int .i64 0),(.bool false),(.int .u8 0),(.int .i64 0),(.int .u64 0),(.string (ByteArray.mk #[]))] [(0,t75)] (fun t76 w32=>
 runK Tryz.prog (Builtin.append_ #[54,54] 54 [t74,t76].toArray) (fun t77 w33=>
 faK 4 t9 fun t78=>
 st1K t78 t77 (fun w34=>
 subK .u64 (nth vs_6 0) (.int .u64 1) fun t60=>
 again_1 [t60] w34) w33) w32) w31) w30) w29) (fun J_6=>
 eqK .u64 t65 (.int .u64 0) fun t67=>
 condK t67
 (faK 1 t12 fun t68=>
 st1K t68 (.bool true) (fun w35=>
 J_6 [] w35) w28)
 (callK Tryz.prog 35 [t21,t65] (fun t71 w36=>
 faK 2 t12 fun t72=>
 stnK 4 t72 t71 (fun w37=>
 J_6 [] w37) w36) w28))) w27) w26) w25) w24) (fun J_5=>
 gtK .u64 (nth vs_6 0) (.int .u64 0) fun t51=>
 condK t51
 (nilckK t21 fun t54=>
 faK 2 t54 fun t55=>
 ld1K t55 (fun t56 w38=>
 notK t56 fun t57=>
 condK t57
 (J_5 [] w38)
 (J_4 [] w38)) w23)
 (J_4 [] w23))) w22) w21) w20) w19) w14)
 (eqK .u64 t37 (.int .u64 2) fun t80=>
 condK t80
 (faK 0 t9 fun t81=>
 st1K t81 (.int .u8 2) (fun w39=>
 callK Tryz.prog 37 [t21] (fun t84 w40=>
 callK Tryz.prog 36 [t84] (fun t85 w41=>
 extK 0 t85 fun t86=>
 extK 1 t85 fun t87=>
 JoinK (fun _vs_9 w42=>∀ _h_9:Env,
 faK 2 t9 fun t94=>
 st1K t94 t86 (fun w43=>
 callK Tryz.prog 32 [t21] (fun t96 w44=>
 LoopK [t96] (fun vs_10 again_2 w45=>∀ _h_10:Env,
 JoinK (fun _vs_11 w46=>∀ _h_11:Env,
 callK Tryz.prog 34 [t21] (fun t109 w47=>
 buildK [(0,1),(1,4)] [(.int .i64 0),(.int .u8 0),(.int .i64 0),(.int .u64 0),(.string (ByteArray.mk #[]))] [(0,t109)] fun t110=>
 newK 61 [(.int .i64 0),(.int .u8 0),(.int .i64 0),(.int .u64 0),(.string (ByteArray.mk #[]))] (fun t17 w48=>
 stnK 5 t17 t110 (fun w49=>
 callK Tryz.prog 32 [t21] (fun t113 w50=>
 callK Tryz.prog 35 [t21,t113] (fun t114 w51=>
 faK 1 t17 fun t115=>
 stnK 4 t115 t114 (fun w52=>
 faK 3 t9 fun t116=>
 ld1K t116 (fun t117 w53=>
 ldnK 5 t17 (fun t118 w54=>
 rowK 61 5 1 [(.int .i64 0),(.int .u8 0),(.int .i64 0),(.int .u64 0),(.string (ByteArray.mk #[]))] [(0,t118)] (fun t119 w55=>
 runK Tryz.prog (Builtin.append_ #[53,53] 53 [t117,t119].toArray) (fun t120 w56=>
 faK 3 t9 fun t121=>
 st1K t121 t120 (fun w57=>
 subK .u64 (nth vs_10 0) (.int .u64 1) fun t107=>
 again_2 [t107] w57) w56) w55) w54) w53) w52) w51) w50) w49) w48) w47) w46) (fun J_8=>
 gtK .u64 (nth vs_10 0) (.int .u64 0) fun t98=>
 condK t98
 (nilckK t21 fun t101=>
 faK 2 t101 fun t102=>
 ld1K t102 (fun t103 w58=>
 notK t103 fun t104=>
 condK t104
 (J_8 [] w58)
 (J_4 [] w58)) w45)
 (J_4 [] w45))) w44) w43) w42) (fun J_7=>
 neK .i64 t87 (.int .i64 0) fun t89=>
 condK t89
 (nilckK t21 fun t91=>
 faK 2 t91 fun t92=>
 st1K t92 (.bool true) (fun w59=>
 J_7 [] w59) w41)
 (J_7 [] w41))) w40) w39) w14)
 (eqK .u64 t37 (.int .u64 3) fun t123=>
 condK t123
 (faK 0 t9 fun t124=>
 st1K t124 (.int .u8 3) (fun w60=>
 callK Tryz.prog 33 [t21] (fun t126 w61=>
 faK 1 t9 fun t127=>
 st1K t127 t126 (fun w62=>
 J_4 [] w62) w61) w60) w14)
 (nilckK t21 fun t40=>
 faK 2 t40 fun t41=>
 st1K t41 (.bool true) (fun w63=>
 J_4 [] w63) w14))))) w13) w12) w11) (fun J_3=>
 gtK .u64 (nth vs_3 1) (.int .u64 0) fun t25=>
 condK t25
 (nilckK t21 fun t28=>
 faK 2 t28 fun t29=>
 ld1K t29 (fun t30 w64=>
 notK t30 fun t31=>
 condK t31
 (J_3 [] w64)
 (J [(nth vs_3 0)] w64)) w10)
 (J [(nth vs_3 0)] w10))) w9) w1)) w
theorem S13_eq (v0 v1:Value) (K:Cont) (w:World):S13 v0 v1 K w=D Tryz.prog okf 159 (bodyOf Tryz.f13) (.node [] [] .nil (.node [] [] .nil (.node [] [] .nil (.cut [7] [(7,17),(22,131)] (.node [] [] .nil (.node [7,8] [(7,17),(24,131)] (.cut [] [(24,32)] (.node [] [] .nil (.node [] [] .nil .nil)) (.node [] [] (.node [] [] .nil (.node [] [] .nil (.cut [] [(11,17),(38,127)] (.node [] [] .nil (.node [] [] .nil (.node [] [] (.node [] [] .nil (.node [] [] .nil (.node [] [] .nil (.node [11] [(11,13),(50,78)] (.cut [] [(50,58)] (.node [] [] .nil (.node [] [] .nil .nil)) (.node [] [] (.node [] [] .nil (.node [] [] .nil (.cut [] [(66,72)] (.node [] [] .nil (.node [] [] .nil .nil)) .nil))) .nil)) .nil)))) (.node [] [] .nil (.node [] [] (.node [] [] .nil (.node [] [] .nil (.cut [] [(88,92)] (.node [] [] .nil (.node [] [] .nil .nil)) (.node [] [] .nil (.node [] [] .nil (.node [16] [(16,17),(97,121)] (.cut [] [(97,105)] (.node [] [] .nil (.node [] [] .nil .nil)) (.node [] [] (.node [] [] .nil (.node [] [] .nil .nil)) .nil)) .nil)))))) (.node [] [] .nil (.node [] [] (.node [] [] .nil .nil) .nil))))))) .nil))) .nil)) .nil)) (.cut [] [(4,5),(132,144)] (.node [] [] .nil (.node [] [] (.node [] [] .nil .nil) .nil)) (.node [] [] .nil (.cut [] [(4,5),(148,154)] (.node [] [] .nil (.node [] [] (.node [] [] .nil .nil) .nil)) (.node [] [] (.node [] [] .nil (.node [] [] (.node [] [] .nil .nil) .nil)) (.node [] [] .nil .nil))))))))) (retK Tryz.prog [.tmp 4,.tmp 5] K) (nth [v0,v1]) w:=by kernel_rfl
theorem S13_ok {v0 v1:Value} {K:Cont} {w:World} (h:S13 v0 v1 K w):callK Tryz.prog 13 [v0,v1] K w:=
 callK_of (P:=Tryz.prog) (ok:=okf) (n:=159) (fn:=Tryz.f13) (c:=bodyOf Tryz.f13) (rs:=[.tmp 4,.tmp 5]) (an:=(.node [] [] .nil (.node [] [] .nil (.node [] [] .nil (.cut [7] [(7,17),(22,131)] (.node [] [] .nil (.node [7,8] [(7,17),(24,131)] (.cut [] [(24,32)] (.node [] [] .nil (.node [] [] .nil .nil)) (.node [] [] (.node [] [] .nil (.node [] [] .nil (.cut [] [(11,17),(38,127)] (.node [] [] .nil (.node [] [] .nil (.node [] [] (.node [] [] .nil (.node [] [] .nil (.node [] [] .nil (.node [11] [(11,13),(50,78)] (.cut [] [(50,58)] (.node [] [] .nil (.node [] [] .nil .nil)) (.node [] [] (.node [] [] .nil (.node [] [] .nil (.cut [] [(66,72)] (.node [] [] .nil (.node [] [] .nil .nil)) .nil))) .nil)) .nil)))) (.node [] [] .nil (.node [] [] (.node [] [] .nil (.node [] [] .nil (.cut [] [(88,92)] (.node [] [] .nil (.node [] [] .nil .nil)) (.node [] [] .nil (.node [] [] .nil (.node [16] [(16,17),(97,121)] (.cut [] [(97,105)] (.node [] [] .nil (.node [] [] .nil .nil)) (.node [] [] (.node [] [] .nil (.node [] [] .nil .nil)) .nil)) .nil)))))) (.node [] [] .nil (.node [] [] (.node [] [] .nil .nil) .nil))))))) .nil))) .nil)) .nil)) (.cut [] [(4,5),(132,144)] (.node [] [] .nil (.node [] [] (.node [] [] .nil .nil) .nil)) (.node [] [] .nil (.cut [] [(4,5),(148,154)] (.node [] [] .nil (.node [] [] (.node [] [] .nil .nil) .nil)) (.node [] [] (.node [] [] .nil (.node [] [] (.node [] [] .nil .nil) .nil)) (.node [] [] .nil .nil)))))))))) good mixed Tryz.func13 (by kernel_rfl) (by kernel_rfl) (by kernel_rfl) (by kernel_rfl) (Eq.mp (S13_eq v0 v1 K w) h)

def S32 (v0:Value) (K:Cont) (w:World):Prop:=
 DrawC [8] [[],[0],[0,1],[0,1,2],[],[4],[4,5],[4,5,6],[0,1,2,3,4,5,6,7],[0,1,2,3,4,5,6,7,8],[0,1,2,3,4,5,6,7,8,9],[0,1,2,3,4,5,6,7,8,9],[0,1,2,3,4,5,6,7,8,9],[0,1,2,3,4,5,6,7,8,9,10],[0,1,2,3,4,5,6,7,8,9,10,11,13],[0,1,2,3,4,5,6,7,8,9,10,11,12,13,14]] w.drew (fun M St=>
 nilckK v0 fun t8=>
 faK 0 t8 fun t9=>
 sld1 (St 3) t9 fun t10=>
 nilckK v0 fun t12=>
 faK 1 t12 fun t13=>
 sld1 (St 7) t13 fun t14=>
 callK Tryz.prog 73 [t10,t14] (fun t15 w1=>
 Mod (M 8) w.drew w1∧
 extK 0 t15 fun t16=>
 extK 1 t15 fun t17=>
 extK 2 t15 fun t18=>
 neK .i64 t18 (.int .i64 0) fun t20=>
 condK t20
 (nilckK v0 fun t22=>
 faK 2 t22 fun t23=>
 st1K t23 (.bool true) (fun w2=>
 K (.int .u64 0) w2) w1)
 (nilckK v0 fun t26=>
 faK 1 t26 fun t27=>
 st1K t27 t17 (fun w3=>
 K t16 w3) w1)) w.drew)
theorem S32_eq (v0:Value) (K:Cont) (w:World):S32 v0 K w=D Tryz.prog okf 29 (bodyOf Tryz.f32) (.node [] [] .nil (.node [] [] (.dc [8] [[],[0],[0,1],[0,1,2],[],[4],[4,5],[4,5,6],[0,1,2,3,4,5,6,7],[0,1,2,3,4,5,6,7,8],[0,1,2,3,4,5,6,7,8,9],[0,1,2,3,4,5,6,7,8,9],[0,1,2,3,4,5,6,7,8,9],[0,1,2,3,4,5,6,7,8,9,10],[0,1,2,3,4,5,6,7,8,9,10,11,13],[0,1,2,3,4,5,6,7,8,9,10,11,12,13,14]] []) (.node [] [] (.node [] [] .nil (.node [] [] (.node [] [] .nil (.node [] [] .nil .nil)) .nil)) (.node [] [] .nil (.node [] [] .nil .nil))))) (retK Tryz.prog [.tmp 2] K) (nth [v0]) w:=by kernel_rfl
theorem S32_ok {v0:Value} {K:Cont} {w:World} (h:S32 v0 K w):callK Tryz.prog 32 [v0] K w:=
 callK_of (P:=Tryz.prog) (ok:=okf) (n:=29) (fn:=Tryz.f32) (c:=bodyOf Tryz.f32) (rs:=[.tmp 2]) (an:=(.node [] [] .nil (.node [] [] (.dc [8] [[],[0],[0,1],[0,1,2],[],[4],[4,5],[4,5,6],[0,1,2,3,4,5,6,7],[0,1,2,3,4,5,6,7,8],[0,1,2,3,4,5,6,7,8,9],[0,1,2,3,4,5,6,7,8,9],[0,1,2,3,4,5,6,7,8,9],[0,1,2,3,4,5,6,7,8,9,10],[0,1,2,3,4,5,6,7,8,9,10,11,13],[0,1,2,3,4,5,6,7,8,9,10,11,12,13,14]] []) (.node [] [] (.node [] [] .nil (.node [] [] (.node [] [] .nil (.node [] [] .nil .nil)) .nil)) (.node [] [] .nil (.node [] [] .nil .nil)))))) good mixed Tryz.func32 (by kernel_rfl) (by kernel_rfl) (by kernel_rfl) (by kernel_rfl) (Eq.mp (S32_eq v0 K w) h)

def S33 (v0:Value) (K:Cont) (w:World):Prop:=
 callK Tryz.prog 32 [v0] (fun t5 w1=>
 gtK .u64 t5 (.int .u64 1073741824) fun t7=>
 condK t7
 (nilckK v0 fun t9=>
 faK 2 t9 fun t10=>
 st1K t10 (.bool true) (fun w2=>
 K (.int .i64 0) w2) w1)
 (runK Tryz.prog (convert 57 3 t5) (fun t12 w3=>
 K t12 w3) w1)) w
theorem S33_eq (v0:Value) (K:Cont) (w:World):S33 v0 K w=D Tryz.prog okf 13 (bodyOf Tryz.f33) (.node [] [] .nil (.node [] [] .nil (.node [] [] (.node [] [] .nil (.node [] [] (.node [] [] .nil (.node [] [] .nil .nil)) .nil)) (.node [] [] .nil .nil)))) (retK Tryz.prog [.tmp 2] K) (nth [v0]) w:=by kernel_rfl
theorem S33_ok {v0:Value} {K:Cont} {w:World} (h:S33 v0 K w):callK Tryz.prog 33 [v0] K w:=
 callK_of (P:=Tryz.prog) (ok:=okf) (n:=13) (fn:=Tryz.f33) (c:=bodyOf Tryz.f33) (rs:=[.tmp 2]) (an:=(.node [] [] .nil (.node [] [] .nil (.node [] [] (.node [] [] .nil (.node [] [] (.node [] [] .nil (.node [] [] .nil .nil)) .nil)) (.node [] [] .nil .nil))))) good mixed Tryz.func33 (by kernel_rfl) (by kernel_rfl) (by kernel_rfl) (by kernel_rfl) (Eq.mp (S33_eq v0 K w) h)

def S34 (v0:Value) (K:Cont) (w:World):Prop:=
 callK Tryz.prog 32 [v0] (fun t5 w1=>
 geK .u64 t5 (.int .u64 9223372036854775808) fun t7=>
 condK t7
 (nilckK v0 fun t9=>
 faK 2 t9 fun t10=>
 st1K t10 (.bool true) (fun w2=>
 K (.int .i64 0) w2) w1)
 (runK Tryz.prog (convert 57 3 t5) (fun t12 w3=>
 K t12 w3) w1)) w
theorem S34_eq (v0:Value) (K:Cont) (w:World):S34 v0 K w=D Tryz.prog okf 13 (bodyOf Tryz.f34) (.node [] [] .nil (.node [] [] .nil (.node [] [] (.node [] [] .nil (.node [] [] (.node [] [] .nil (.node [] [] .nil .nil)) .nil)) (.node [] [] .nil .nil)))) (retK Tryz.prog [.tmp 2] K) (nth [v0]) w:=by kernel_rfl
theorem S34_ok {v0:Value} {K:Cont} {w:World} (h:S34 v0 K w):callK Tryz.prog 34 [v0] K w:=
 callK_of (P:=Tryz.prog) (ok:=okf) (n:=13) (fn:=Tryz.f34) (c:=bodyOf Tryz.f34) (rs:=[.tmp 2]) (an:=(.node [] [] .nil (.node [] [] .nil (.node [] [] (.node [] [] .nil (.node [] [] (.node [] [] .nil (.node [] [] .nil .nil)) .nil)) (.node [] [] .nil .nil))))) good mixed Tryz.func34 (by kernel_rfl) (by kernel_rfl) (by kernel_rfl) (by kernel_rfl) (Eq.mp (S34_eq v0 K w) h)

def S35 (v0 v1:Value) (K:Cont) (w:World):Prop:=
 newK 59 [(.int .u8 0),(.int .i64 0),(.int .u64 0),(.string (ByteArray.mk #[]))] (fun t4 w1=>
 JoinK (fun vs w2=>∀ _h:Env,
 condK (nth vs 0)
 (runK Tryz.prog (convert 57 5 v1) (fun t10 w3=>
 callK Tryz.prog 32 [v0] (fun t12 w4=>
 callK Tryz.prog 74 [t12] (fun t13 w5=>
 buildK [(0,1),(1,1),(2,1),(3,1)] [(.int .u8 0),(.int .i64 0),(.int .u64 0),(.string (ByteArray.mk #[]))] [(0,t10),(1,t13)] fun t14=>
 stnK 4 t4 t14 (fun w6=>
 ldnK 4 t4 (fun r0 w7=>
 K r0 w7) w6) w5) w4) w3) w2)
 (eqK .u64 v1 (.int .u64 3) fun t16=>
 condK t16
 (callK Tryz.prog 32 [v0] (fun t18 w8=>
 buildK [(0,1),(1,1),(2,1),(3,1)] [(.int .u8 0),(.int .i64 0),(.int .u64 0),(.string (ByteArray.mk #[]))] [(0,(.int .u8 3)),(2,t18)] fun t19=>
 stnK 4 t4 t19 (fun w9=>
 ldnK 4 t4 (fun r0_1 w10=>
 K r0_1 w10) w9) w8) w2)
 (eqK .u64 v1 (.int .u64 4) fun t21=>
 condK t21
 (callK Tryz.prog 37 [v0] (fun t23 w11=>
 runK Tryz.prog (convert 31 9 t23) (fun t24 w12=>
 buildK [(0,1),(1,1),(2,1),(3,1)] [(.int .u8 0),(.int .i64 0),(.int .u64 0),(.string (ByteArray.mk #[]))] [(0,(.int .u8 4)),(3,t24)] fun t25=>
 stnK 4 t4 t25 (fun w13=>
 ldnK 4 t4 (fun r0_2 w14=>
 K r0_2 w14) w13) w12) w11) w2)
 (nilckK v0 fun t27=>
 faK 2 t27 fun t28=>
 st1K t28 (.bool true) (fun w15=>
 buildK [(0,1),(1,1),(2,1),(3,1)] [(.int .u8 0),(.int .i64 0),(.int .u64 0),(.string (ByteArray.mk #[]))] [] fun t29=>
 stnK 4 t4 t29 (fun w16=>
 ldnK 4 t4 (fun r0_3 w17=>
 K r0_3 w17) w16) w15) w2)))) (fun J=>
 eqK .u64 v1 (.int .u64 1) fun t7=>
 condK t7
 (J [t7] w1)
 (eqK .u64 v1 (.int .u64 2) fun t8=>
 J [t8] w1))) w
theorem S35_eq (v0 v1:Value) (K:Cont) (w:World):S35 v0 v1 K w=D Tryz.prog okf 30 (bodyOf Tryz.f35) (.node [] [] .nil (.node [] [] (.node [] [] .nil (.cut [6] [(6,8)] (.node [] [] .nil (.node [] [] .nil .nil)) (.node [] [] (.node [] [] .nil .nil) (.node [] [] .nil (.node [] [] (.node [] [] .nil .nil) (.node [] [] .nil (.node [] [] (.node [] [] .nil .nil) .nil))))))) (.node [] [] .nil (.node [] [] .nil .nil)))) (retK Tryz.prog [.cell 4 59] K) (nth [v0,v1]) w:=by kernel_rfl
theorem S35_ok {v0 v1:Value} {K:Cont} {w:World} (h:S35 v0 v1 K w):callK Tryz.prog 35 [v0,v1] K w:=
 callK_of (P:=Tryz.prog) (ok:=okf) (n:=30) (fn:=Tryz.f35) (c:=bodyOf Tryz.f35) (rs:=[.cell 4 59]) (an:=(.node [] [] .nil (.node [] [] (.node [] [] .nil (.cut [6] [(6,8)] (.node [] [] .nil (.node [] [] .nil .nil)) (.node [] [] (.node [] [] .nil .nil) (.node [] [] .nil (.node [] [] (.node [] [] .nil .nil) (.node [] [] .nil (.node [] [] (.node [] [] .nil .nil) .nil))))))) (.node [] [] .nil (.node [] [] .nil .nil))))) good mixed Tryz.func35 (by kernel_rfl) (by kernel_rfl) (by kernel_rfl) (by kernel_rfl) (Eq.mp (S35_eq v0 v1 K w) h)

def S37 (v0:Value) (K:Cont) (w:World):Prop:=
 DrawC [13] [[],[0],[0,1],[0,1,2],[],[4],[4,5],[4,5,6],[],[8],[8,9],[8,9,10],[8,9,10,11],[0,1,2,3,4,5,6,7,8,9,10,11,12],[0,1,2,3,4,5,6,7,8,9,10,11,12,13],[0,1,2,3,4,5,6,7,8,9,10,11,12,13,14],[0,1,2,3,4,5,6,7,8,9,10,11,12,13,14],[0,1,2,3,4,5,6,7,8,9,10,11,12,13,14],[0,1,2,3,4,5,6,7,8,9,10,11,12,13,14,15],[0,1,2,3,4,5,6,7,8,9,10,11,12,13,14,15,16,18],[0,1,2,3,4,5,6,7,8,9,10,11,12,13,14,15,16,17,18,19]] w.drew (fun M St=>
 nilckK v0 fun t8=>
 faK 0 t8 fun t9=>
 sld1 (St 3) t9 fun t10=>
 nilckK v0 fun t12=>
 faK 1 t12 fun t13=>
 sld1 (St 7) t13 fun t14=>
 nilckK v0 fun t16=>
 faK 0 t16 fun t17=>
 sld1 (St 11) t17 fun t18=>
 lenK t18 fun t19=>
 callK Tryz.prog 76 [t10,t14,t19] (fun t20 w1=>
 Mod (M 13) w.drew w1∧
 extK 0 t20 fun t21=>
 extK 1 t20 fun t22=>
 extK 2 t20 fun t23=>
 neK .i64 t23 (.int .i64 0) fun t25=>
 condK t25
 (nilckK v0 fun t27=>
 faK 2 t27 fun t28=>
 st1K t28 (.bool true) (fun w2=>
 K (.slice none 0 0) w2) w1)
 (nilckK v0 fun t31=>
 faK 1 t31 fun t32=>
 st1K t32 t22 (fun w3=>
 K t21 w3) w1)) w.drew)
theorem S37_eq (v0:Value) (K:Cont) (w:World):S37 v0 K w=D Tryz.prog okf 34 (bodyOf Tryz.f37) (.node [] [] .nil (.node [] [] (.dc [13] [[],[0],[0,1],[0,1,2],[],[4],[4,5],[4,5,6],[],[8],[8,9],[8,9,10],[8,9,10,11],[0,1,2,3,4,5,6,7,8,9,10,11,12],[0,1,2,3,4,5,6,7,8,9,10,11,12,13],[0,1,2,3,4,5,6,7,8,9,10,11,12,13,14],[0,1,2,3,4,5,6,7,8,9,10,11,12,13,14],[0,1,2,3,4,5,6,7,8,9,10,11,12,13,14],[0,1,2,3,4,5,6,7,8,9,10,11,12,13,14,15],[0,1,2,3,4,5,6,7,8,9,10,11,12,13,14,15,16,18],[0,1,2,3,4,5,6,7,8,9,10,11,12,13,14,15,16,17,18,19]] []) (.node [] [] (.node [] [] .nil (.node [] [] (.node [] [] .nil (.node [] [] .nil .nil)) .nil)) (.node [] [] .nil (.node [] [] .nil .nil))))) (retK Tryz.prog [.tmp 2] K) (nth [v0]) w:=by kernel_rfl
theorem S37_ok {v0:Value} {K:Cont} {w:World} (h:S37 v0 K w):callK Tryz.prog 37 [v0] K w:=
 callK_of (P:=Tryz.prog) (ok:=okf) (n:=34) (fn:=Tryz.f37) (c:=bodyOf Tryz.f37) (rs:=[.tmp 2]) (an:=(.node [] [] .nil (.node [] [] (.dc [13] [[],[0],[0,1],[0,1,2],[],[4],[4,5],[4,5,6],[],[8],[8,9],[8,9,10],[8,9,10,11],[0,1,2,3,4,5,6,7,8,9,10,11,12],[0,1,2,3,4,5,6,7,8,9,10,11,12,13],[0,1,2,3,4,5,6,7,8,9,10,11,12,13,14],[0,1,2,3,4,5,6,7,8,9,10,11,12,13,14],[0,1,2,3,4,5,6,7,8,9,10,11,12,13,14],[0,1,2,3,4,5,6,7,8,9,10,11,12,13,14,15],[0,1,2,3,4,5,6,7,8,9,10,11,12,13,14,15,16,18],[0,1,2,3,4,5,6,7,8,9,10,11,12,13,14,15,16,17,18,19]] []) (.node [] [] (.node [] [] .nil (.node [] [] (.node [] [] .nil (.node [] [] .nil .nil)) .nil)) (.node [] [] .nil (.node [] [] .nil .nil)))))) good mixed Tryz.func37 (by kernel_rfl) (by kernel_rfl) (by kernel_rfl) (by kernel_rfl) (Eq.mp (S37_eq v0 K w) h)

def S60 (v0:Value) (K:Cont) (w:World):Prop:=
 LoopK [v0,(.slice none 0 0)] (fun vs again w1=>∀ _h:Env,
 runK Tryz.prog (binS .rem 57 (.tmp 5) (.const (.int .u64 128)) (nth vs 0) (.int .u64 128)) (fun t6 w2=>
 runK Tryz.prog (convert 57 5 t6) (fun t7 w3=>
 runK Tryz.prog (binS .quo 57 (.tmp 8) (.const (.int .u64 128)) (nth vs 0) (.int .u64 128)) (fun t9 w4=>
 eqK .u64 t9 (.int .u64 0) fun t11=>
 condK t11
 (rowK 5 1 1 [(.int .u8 0)] [(0,t7)] (fun t14 w5=>
 runK Tryz.prog (Builtin.append_ #[31,31] 31 [(nth vs 1),t14].toArray) (fun t15 w6=>
 K t15 w6) w5) w4)
 (addK .u8 t7 (.int .u8 128) fun t18=>
 rowK 5 1 1 [(.int .u8 0)] [(0,t18)] (fun t19 w7=>
 runK Tryz.prog (Builtin.append_ #[31,31] 31 [(nth vs 1),t19].toArray) (fun t20 w8=>
 again [t9,t20] w8) w7) w4)) w3) w2) w1) w
theorem S60_eq (v0:Value) (K:Cont) (w:World):S60 v0 K w=D Tryz.prog okf 21 (bodyOf Tryz.f60) (.node [] [] .nil (.node [] [] .nil (.node [0,3] [(0,0),(2,20)] (.node [] [] .nil (.node [] [] .nil (.node [] [] (.node [] [] .nil (.node [] [] (.node [] [] .nil .nil) .nil)) .nil))) .nil))) (retK Tryz.prog [.tmp 2] K) (nth [v0]) w:=by kernel_rfl
theorem S60_ok {v0:Value} {K:Cont} {w:World} (h:S60 v0 K w):callK Tryz.prog 60 [v0] K w:=
 callK_of (P:=Tryz.prog) (ok:=okf) (n:=21) (fn:=Tryz.f60) (c:=bodyOf Tryz.f60) (rs:=[.tmp 2]) (an:=(.node [] [] .nil (.node [] [] .nil (.node [0,3] [(0,0),(2,20)] (.node [] [] .nil (.node [] [] .nil (.node [] [] (.node [] [] .nil (.node [] [] (.node [] [] .nil .nil) .nil)) .nil))) .nil)))) good mixed Tryz.func60 (by kernel_rfl) (by kernel_rfl) (by kernel_rfl) (by kernel_rfl) (Eq.mp (S60_eq v0 K w) h)

def S113 (v0:Value) (K:Cont) (w:World):Prop:=
 geK .i64 v0 (.int .i64 0) fun t4=>
 condK t4
 (runK Tryz.prog (convert 2 57 v0) (fun t6 w1=>
 mulK .u64 (.int .u64 2) t6 fun t7=>
 K t7 w1) w)
 (addK .i64 v0 (.int .i64 1) fun t9=>
 runK Tryz.prog (Op.unary .neg t9) (fun t10 w2=>
 runK Tryz.prog (convert 2 57 t10) (fun t11 w3=>
 mulK .u64 (.int .u64 2) t11 fun t12=>
 addK .u64 t12 (.int .u64 1) fun t13=>
 K t13 w3) w2) w)
theorem S113_eq (v0:Value) (K:Cont) (w:World):S113 v0 K w=D Tryz.prog okf 14 (bodyOf Tryz.f113) (.node [] [] .nil (.node [] [] (.node [] [] .nil (.node [] [] (.node [] [] .nil .nil) .nil)) (.node [] [] .nil .nil))) (retK Tryz.prog [.tmp 2] K) (nth [v0]) w:=by kernel_rfl
theorem S113_ok {v0:Value} {K:Cont} {w:World} (h:S113 v0 K w):callK Tryz.prog 113 [v0] K w:=
 callK_of (P:=Tryz.prog) (ok:=okf) (n:=14) (fn:=Tryz.f113) (c:=bodyOf Tryz.f113) (rs:=[.tmp 2]) (an:=(.node [] [] .nil (.node [] [] (.node [] [] .nil (.node [] [] (.node [] [] .nil .nil) .nil)) (.node [] [] .nil .nil)))) good mixed Tryz.func113 (by kernel_rfl) (by kernel_rfl) (by kernel_rfl) (by kernel_rfl) (Eq.mp (S113_eq v0 K w) h)

def S73 (v0 v1:Value) (K:Cont) (w:World):Prop:=
 JoinK (fun _vs w1=>∀ _h:Env,
 LoopK [(.int .u64 0),(.int .u64 1),(.int .i64 0)] (fun vs_1 again w2=>∀ _h_1:Env,
 JoinK (fun _vs_2 w3=>∀ _h_2:Env,
 addK .i64 v1 (nth vs_1 2) fun t35=>
 ixK 1 v0 t35 fun t36=>
 ld1K t36 (fun t37 w4=>
 runK Tryz.prog (binS .rem 5 (.tmp 39) (.const (.int .u8 128)) t37 (.int .u8 128)) (fun t40 w5=>
 runK Tryz.prog (convert 5 57 t40) (fun t41 w6=>
 mulK .u64 t41 (nth vs_1 1) fun t43=>
 addK .u64 (nth vs_1 0) t43 fun t44=>
 mulK .u64 (nth vs_1 1) (.int .u64 128) fun t46=>
 ltK .u8 t37 (.int .u8 128) fun t48=>
 condK t48
 (callK Tryz.prog 60 [t44] (fun t50 w7=>
 DrawG [1,8,9] [[],[0],[],[],[],[],[4,5],[4,5,6],[2,3,4,5,6,7],[2,3,4,5,6,7,8],[0,1,2,3,4,5,6,7,8,9]] w7.drew (fun A M _St=>
 (∀ w8:World,Mod (ButM [1,8,9] M 1) w7.drew w8→
 addK .i64 v1 (nth vs_1 2) fun t57=>
 addK .i64 t57 (.int .i64 1) fun _t58=>
 runK Tryz.prog (convert 31 9 t50) (fun t52 w9=>
 Mod (M 1) w8 w9∧A 1 t52 w9) w8)∧
 (∀ w10:World,Mod (ButM [1,8,9] M 8) w7.drew w10→
 addK .i64 v1 (nth vs_1 2) fun t57_1=>
 addK .i64 t57_1 (.int .i64 1) fun t58_1=>
 runK Tryz.prog (Instr.sliceAt 31 v0 (some v1) (some t58_1) none) (fun t59 w11=>
 Mod (M 8) w10 w11∧A 8 t59 w11) w10)∧
 (∀ w12:World,Mod (ButM [1,8,9] M 9) w7.drew w12→
 addK .i64 v1 (nth vs_1 2) fun t57_2=>
 addK .i64 t57_2 (.int .i64 1) fun _t58_2=>
 ∀ t59_1:Value,A 8 t59_1 w12→
 runK Tryz.prog (convert 31 9 t59_1) (fun t60 w13=>
 Mod (M 9) w12 w13∧A 9 t60 w13) w12)∧
 (∀ w14:World,Mod (AllM [1,8,9] M) w7.drew w14→
 ∀ t52_1:Value,A 1 t52_1 w14→
 addK .i64 v1 (nth vs_1 2) fun t57_3=>
 addK .i64 t57_3 (.int .i64 1) fun _t58_3=>
 ∀ t59_2:Value,A 8 t59_2 w14→
 ∀ t60_1:Value,A 9 t60_1 w14→
 sneK t52_1 t60_1 fun t61=>
 condK t61
 (K (.tuple #[(.int .u64 0),(.int .i64 0),(.int .i64 3)]) w14)
 (addK .i64 v1 (nth vs_1 2) fun t65=>
 addK .i64 t65 (.int .i64 1) fun t66=>
 K (.tuple #[t44,t66,(.int .i64 0)]) w14)))) w6)
 (addK .i64 (nth vs_1 2) (.int .i64 1) fun t31=>
 again [t44,t46,t31] w6)) w5) w4) w3) (fun J_1=>
 ltK .i64 (nth vs_1 2) (.int .i64 10) fun t21=>
 condK t21
 (addK .i64 v1 (nth vs_1 2) fun t25=>
 lenK v0 fun t27=>
 ltK .i64 t25 t27 fun t28=>
 condK t28
 (J_1 [] w2)
 (K (.tuple #[(.int .u64 0),(.int .i64 0),(.int .i64 3)]) w2))
 (K (.tuple #[(.int .u64 0),(.int .i64 0),(.int .i64 3)]) w2))) w1) (fun J=>
 ltK .i64 v1 (.int .i64 0) fun t13=>
 condK t13
 (K (.tuple #[(.int .u64 0),(.int .i64 0),(.int .i64 5)]) w)
 (lenK v0 fun t17=>
 gtK .i64 v1 t17 fun t18=>
 condK t18
 (K (.tuple #[(.int .u64 0),(.int .i64 0),(.int .i64 5)]) w)
 (J [] w)))
theorem S73_eq (v0 v1:Value) (K:Cont) (w:World):S73 v0 v1 K w=D Tryz.prog okf 67 (bodyOf Tryz.f73) (.node [] [] .nil (.cut [] [(4,6),(12,19)] (.node [] [] .nil (.node [] [] (.node [] [] .nil .nil) .nil)) (.node [] [] .nil (.node [] [] .nil (.node [] [] (.node [] [] .nil (.node [7,8,9] [(4,11),(20,66)] (.cut [] [(20,29)] (.node [] [] .nil (.node [] [] .nil .nil)) (.node [] [] (.node [] [] .nil (.node [] [] .nil (.node [] [] .nil (.node [] [] .nil (.node [] [] (.node [] [] .nil (.node [] [] (.node [] [] (.dg [1,8,9] [[],[0],[],[],[],[],[4,5],[4,5,6],[2,3,4,5,6,7],[2,3,4,5,6,7,8],[0,1,2,3,4,5,6,7,8,9]] []) (.node [] [] (.node [] [] .nil .nil) .nil)) (.node [] [] .nil .nil))) .nil))))) .nil)) .nil)) (.node [] [] .nil .nil)))))) (retK Tryz.prog [.tmp 4,.tmp 5,.tmp 6] K) (nth [v0,v1]) w:=by kernel_rfl
theorem S73_ok {v0 v1:Value} {K:Cont} {w:World} (h:S73 v0 v1 K w):callK Tryz.prog 73 [v0,v1] K w:=
 callK_of (P:=Tryz.prog) (ok:=okf) (n:=67) (fn:=Tryz.f73) (c:=bodyOf Tryz.f73) (rs:=[.tmp 4,.tmp 5,.tmp 6]) (an:=(.node [] [] .nil (.cut [] [(4,6),(12,19)] (.node [] [] .nil (.node [] [] (.node [] [] .nil .nil) .nil)) (.node [] [] .nil (.node [] [] .nil (.node [] [] (.node [] [] .nil (.node [7,8,9] [(4,11),(20,66)] (.cut [] [(20,29)] (.node [] [] .nil (.node [] [] .nil .nil)) (.node [] [] (.node [] [] .nil (.node [] [] .nil (.node [] [] .nil (.node [] [] .nil (.node [] [] (.node [] [] .nil (.node [] [] (.node [] [] (.dg [1,8,9] [[],[0],[],[],[],[],[4,5],[4,5,6],[2,3,4,5,6,7],[2,3,4,5,6,7,8],[0,1,2,3,4,5,6,7,8,9]] []) (.node [] [] (.node [] [] .nil .nil) .nil)) (.node [] [] .nil .nil))) .nil))))) .nil)) .nil)) (.node [] [] .nil .nil))))))) good mixed Tryz.func73 (by kernel_rfl) (by kernel_rfl) (by kernel_rfl) (by kernel_rfl) (Eq.mp (S73_eq v0 v1 K w) h)

def S74 (v0:Value) (K:Cont) (w:World):Prop:=
 runK Tryz.prog (binS .rem 57 (.tmp 3) (.const (.int .u64 2)) v0 (.int .u64 2)) (fun t4 w1=>
 eqK .u64 t4 (.int .u64 0) fun t5=>
 condK t5
 (runK Tryz.prog (binS .quo 57 (.tmp 6) (.const (.int .u64 2)) v0 (.int .u64 2)) (fun t7 w2=>
 runK Tryz.prog (convert 57 2 t7) (fun t8 w3=>
 K t8 w3) w2) w1)
 (runK Tryz.prog (binS .quo 57 (.tmp 9) (.const (.int .u64 2)) v0 (.int .u64 2)) (fun t10 w4=>
 runK Tryz.prog (convert 57 2 t10) (fun t11 w5=>
 runK Tryz.prog (Op.unary .neg t11) (fun t12 w6=>
 subK .i64 t12 (.int .i64 1) fun t13=>
 K t13 w6) w5) w4) w1)) w
theorem S74_eq (v0:Value) (K:Cont) (w:World):S74 v0 K w=D Tryz.prog okf 14 (bodyOf Tryz.f74) (.node [] [] .nil (.node [] [] (.node [] [] .nil (.node [] [] (.node [] [] .nil .nil) .nil)) (.node [] [] .nil .nil))) (retK Tryz.prog [.tmp 2] K) (nth [v0]) w:=by kernel_rfl
theorem S74_ok {v0:Value} {K:Cont} {w:World} (h:S74 v0 K w):callK Tryz.prog 74 [v0] K w:=
 callK_of (P:=Tryz.prog) (ok:=okf) (n:=14) (fn:=Tryz.f74) (c:=bodyOf Tryz.f74) (rs:=[.tmp 2]) (an:=(.node [] [] .nil (.node [] [] (.node [] [] .nil (.node [] [] (.node [] [] .nil .nil) .nil)) (.node [] [] .nil .nil)))) good mixed Tryz.func74 (by kernel_rfl) (by kernel_rfl) (by kernel_rfl) (by kernel_rfl) (Eq.mp (S74_eq v0 K w) h)

def S76 (v0 v1 v2:Value) (K:Cont) (w:World):Prop:=
 callK Tryz.prog 73 [v0,v1] (fun t15 w1=>
 extK 0 t15 fun t16=>
 extK 1 t15 fun t17=>
 extK 2 t15 fun t18=>
 neK .i64 t18 (.int .i64 0) fun t20=>
 condK t20
 (K (.tuple #[(.slice none 0 0),(.int .i64 0),t18]) w1)
 (JoinK (fun _vs w2=>∀ _h:Env,
 rowK 5 1 0 [] [] (fun t39 w3=>
 runK Tryz.prog (convert 57 3 t16) (fun t44 w4=>
 addK .i64 t17 t44 fun t45=>
 runK Tryz.prog (Instr.sliceAt 31 v0 (some t17) (some t45) none) (fun t46 w5=>
 runK Tryz.prog (Builtin.append_ #[31,31] 31 [t39,t46].toArray) (fun t47 w6=>
 runK Tryz.prog (convert 57 3 t16) (fun t50 w7=>
 addK .i64 t17 t50 fun t51=>
 K (.tuple #[t47,t51,(.int .i64 0)]) w7) w6) w5) w4) w3) w2) (fun J=>
 ltK .i64 v2 (.int .i64 0) fun t23=>
 condK t23
 (K (.tuple #[(.slice none 0 0),(.int .i64 0),(.int .i64 3)]) w1)
 (runK Tryz.prog (convert 3 57 v2) (fun t27 w8=>
 gtK .u64 t16 t27 fun t28=>
 condK t28
 (K (.tuple #[(.slice none 0 0),(.int .i64 0),(.int .i64 3)]) w8)
 (lenK v0 fun t33=>
 subK .i64 t33 t17 fun t35=>
 runK Tryz.prog (convert 3 57 t35) (fun t36 w9=>
 gtK .u64 t16 t36 fun t37=>
 condK t37
 (K (.tuple #[(.slice none 0 0),(.int .i64 0),(.int .i64 3)]) w9)
 (J [] w9)) w8)) w1)))) w
theorem S76_eq (v0 v1 v2:Value) (K:Cont) (w:World):S76 v0 v1 v2 K w=D Tryz.prog okf 52 (bodyOf Tryz.f76) (.node [] [] .nil (.node [] [] .nil (.node [] [] (.node [] [] .nil (.node [] [] (.node [] [] .nil .nil) .nil)) (.cut [] [(6,8),(22,38)] (.node [] [] .nil (.node [] [] (.node [] [] .nil .nil) .nil)) (.node [] [] .nil .nil))))) (retK Tryz.prog [.tmp 6,.tmp 7,.tmp 8] K) (nth [v0,v1,v2]) w:=by kernel_rfl
theorem S76_ok {v0 v1 v2:Value} {K:Cont} {w:World} (h:S76 v0 v1 v2 K w):callK Tryz.prog 76 [v0,v1,v2] K w:=
 callK_of (P:=Tryz.prog) (ok:=okf) (n:=52) (fn:=Tryz.f76) (c:=bodyOf Tryz.f76) (rs:=[.tmp 6,.tmp 7,.tmp 8]) (an:=(.node [] [] .nil (.node [] [] .nil (.node [] [] (.node [] [] .nil (.node [] [] (.node [] [] .nil .nil) .nil)) (.cut [] [(6,8),(22,38)] (.node [] [] .nil (.node [] [] (.node [] [] .nil .nil) .nil)) (.node [] [] .nil .nil)))))) good mixed Tryz.func76 (by kernel_rfl) (by kernel_rfl) (by kernel_rfl) (by kernel_rfl) (Eq.mp (S76_eq v0 v1 v2 K w) h)

def S62 (v0:Value) (K:Cont) (w:World):Prop:=
 LoopK [(.slice none 0 0),(.int .i64 0)] (fun vs again w1=>∀ _h:Env,
 lenK v0 fun t8=>
 ltK .i64 (nth vs 1) t8 fun t9=>
 condK t9
 (ixK 1 v0 (nth vs 1) fun t14=>
 ld1K t14 (fun t15 w2=>
 callK Tryz.prog 106 [t15] (fun t16 w3=>
 notK t16 fun t17=>
 condK t17
 (K (.tuple #[(.slice none 0 0),(.int .i64 3)]) w3)
 (ixK 1 v0 (nth vs 1) fun t21=>
 ld1K t21 (fun t22 w4=>
 callK Tryz.prog 114 [t22] (fun t23 w5=>
 runK Tryz.prog (Builtin.append_ #[31,31] 31 [(nth vs 0),t23].toArray) (fun t24 w6=>
 addK .i64 (nth vs 1) (.int .i64 1) fun t11=>
 again [t24,t11] w6) w5) w4) w3)) w2) w1)
 (K (.tuple #[(nth vs 0),(.int .i64 0)]) w1)) w
theorem S62_eq (v0:Value) (K:Cont) (w:World):S62 v0 K w=D Tryz.prog okf 26 (bodyOf Tryz.f62) (.node [] [] .nil (.node [] [] .nil (.node [] [] (.node [] [] .nil (.node [4,5] [(2,24)] (.node [] [] (.node [] [] .nil (.node [] [] .nil .nil)) (.node [] [] (.node [] [] (.node [] [] .nil (.node [] [] (.node [] [] .nil .nil) .nil)) .nil) .nil)) .nil)) (.node [] [] .nil .nil)))) (retK Tryz.prog [.tmp 2,.tmp 3] K) (nth [v0]) w:=by kernel_rfl
theorem S62_ok {v0:Value} {K:Cont} {w:World} (h:S62 v0 K w):callK Tryz.prog 62 [v0] K w:=
 callK_of (P:=Tryz.prog) (ok:=okf) (n:=26) (fn:=Tryz.f62) (c:=bodyOf Tryz.f62) (rs:=[.tmp 2,.tmp 3]) (an:=(.node [] [] .nil (.node [] [] .nil (.node [] [] (.node [] [] .nil (.node [4,5] [(2,24)] (.node [] [] (.node [] [] .nil (.node [] [] .nil .nil)) (.node [] [] (.node [] [] (.node [] [] .nil (.node [] [] (.node [] [] .nil .nil) .nil)) .nil) .nil)) .nil)) (.node [] [] .nil .nil))))) good mixed Tryz.func62 (by kernel_rfl) (by kernel_rfl) (by kernel_rfl) (by kernel_rfl) (Eq.mp (S62_eq v0 K w) h)

def S3 (v0 v1:Value) (K:Cont) (w:World):Prop:=
 callK Tryz.prog 5 [v0] (fun t18 w1=>
 extK 0 t18 fun t19=>
 extK 1 t18 fun t20=>
 JoinK (fun _vs w2=>∀ _h:Env,
 callK Tryz.prog 8 [v1] (fun t30 w3=>
 callK Tryz.prog 9 [t19,t30] (fun t34 w4=>
 extK 0 t34 fun t35=>
 extK 1 t34 fun t36=>
 callK Tryz.prog 10 [v0,v1] (fun t40 w5=>
 extK 0 t40 fun t41=>
 extK 1 t40 fun t42=>
 JoinK (fun _vs_1 w6=>∀ _h_1:Env,
 neK .i64 t36 (.int .i64 0) fun t60=>
 condK t60
 (lenK t35 fun t62=>
 eqK .i64 t62 (.int .i64 0) fun t63=>
 condK t63
 (callK Tryz.prog 7 [] (fun t65 w7=>
 K t65 w7) w6)
 (K (.bool false) w6))
 (callK Tryz.prog 12 [t19,t35] (fun t70 w8=>
 extK 0 t70 fun t71=>
 extK 1 t70 fun t72=>
 callK Tryz.prog 13 [v0,t41] (fun t76 w9=>
 extK 0 t76 fun t77=>
 extK 1 t76 fun t78=>
 eqK .i64 t72 (.int .i64 0) fun t80=>
 condK t80
 (eqK .i64 t78 (.int .i64 0) fun t83=>
 condK t83
 (callK Tryz.prog 11 [t71,t77] (fun t88 w10=>
 condK t88
 (callK Tryz.prog 7 [] (fun t91 w11=>
 K t91 w11) w10)
 (K (.bool false) w10)) w9)
 (K (.bool false) w9))
 (K (.bool false) w9)) w8) w6)) (fun J_1=>
 runK Tryz.prog (convert 31 9 t35) (fun t44 w12=>
 runK Tryz.prog (convert 31 9 t41) (fun t46 w13=>
 sneK t44 t46 fun t47=>
 condK t47
 (K (.bool false) w13)
 (neK .i64 t36 t42 fun t51=>
 condK t51
 (K (.bool false) w13)
 (callK Tryz.prog 11 [t30,v1] (fun t56 w14=>
 notK t56 fun t57=>
 condK t57
 (K (.bool false) w14)
 (J_1 [] w14)) w13))) w12) w5)) w4) w3) w2) (fun J=>
 neK .i64 t20 (.int .i64 0) fun t22=>
 condK t22
 (callK Tryz.prog 7 [] (fun t28 w15=>
 K t28 w15) w1)
 (callK Tryz.prog 6 [v1] (fun t25 w16=>
 gtK .i64 t25 (.int .i64 200) fun t26=>
 condK t26
 (callK Tryz.prog 7 [] (fun t28_1 w17=>
 K t28_1 w17) w16)
 (J [] w16)) w1))) w
theorem S3_eq (v0 v1:Value) (K:Cont) (w:World):S3 v0 v1 K w=D Tryz.prog okf 93 (bodyOf Tryz.f3) (.node [] [] .nil (.node [] [] .nil (.cut [] [(4,4),(21,28)] (.node [] [] .nil (.node [] [] (.node [] [] .nil .nil) .nil)) (.node [] [] .nil (.node [] [] .nil (.node [] [] .nil (.cut [] [(4,4),(43,58)] (.node [] [] .nil (.node [] [] (.node [] [] .nil .nil) .nil)) (.node [] [] (.node [] [] .nil (.node [] [] (.node [] [] .nil .nil) .nil)) (.node [] [] .nil (.node [] [] .nil (.node [] [] .nil .nil))))))))))) (retK Tryz.prog [.tmp 4] K) (nth [v0,v1]) w:=by kernel_rfl
theorem S3_ok {v0 v1:Value} {K:Cont} {w:World} (h:S3 v0 v1 K w):callK Tryz.prog 3 [v0,v1] K w:=
 callK_of (P:=Tryz.prog) (ok:=okf) (n:=93) (fn:=Tryz.f3) (c:=bodyOf Tryz.f3) (rs:=[.tmp 4]) (an:=(.node [] [] .nil (.node [] [] .nil (.cut [] [(4,4),(21,28)] (.node [] [] .nil (.node [] [] (.node [] [] .nil .nil) .nil)) (.node [] [] .nil (.node [] [] .nil (.node [] [] .nil (.cut [] [(4,4),(43,58)] (.node [] [] .nil (.node [] [] (.node [] [] .nil .nil) .nil)) (.node [] [] (.node [] [] .nil (.node [] [] (.node [] [] .nil .nil) .nil)) (.node [] [] .nil (.node [] [] .nil (.node [] [] .nil .nil)))))))))))) good mixed Tryz.func3 (by kernel_rfl) (by kernel_rfl) (by kernel_rfl) (by kernel_rfl) (Eq.mp (S3_eq v0 v1 K w) h)

end Go.Proofs.YtgmpbihbdbmhoaaGreatDoor

namespace Go.Proofs.YtgmpbihbdbmhoaaGreatDoor
open Go Go.K

theorem app_b {w0 w:World} {v x:Value} {l m:List Int} {S:Nat→Prop} {K:Cont} (ho:OBytes w0.heap.size w v l) (g:Grow w0 w) (hx:RBytes S w x m) (hl:l.length+m.length≤1099511627776)
  (hK:∀ v' w',OBytes w0.heap.size w' v' (l++m)→Grow w0 w'→Mod (fun z=>v.ownBlock=some z) w w'→(∀ z,v'.ownBlock=some z→v.ownBlock=some z∨w.heap.size≤z)→K v' w') :
  runK Tryz.prog (Builtin.append_ #[31,31] 31 [v,x].toArray) K w:=by
 obtain ⟨v',w',r1,r2,r3,r4⟩:=OwnR.append (ty:=31) elem_byte ho hx (fun _ _=>RByte.one) (by omega) g.size (by simp only [maxLen];omega) fun _ _ _ _ h=>h
 exact runK_i r1 (hK v' w' r2 (g.next (Mod.of_grownBy r3) fun b hb e=>by have:=(OwnR.ownB ho b e).1;omega) (Mod.of_grownBy r3) r4)
theorem rem128 {n:Nat} {t:TypeId} {xo yo:Operand} {K:Cont} {w:World} (h:K (.int .u64 ((n % 128:Nat):Int)) w):runK Tryz.prog (binS .rem t xo yo (.int .u64 n) (.int .u64 128)) K w:=by
 refine rem_i (by decide) ?_
 rw [Int.tmod_eq_emod_of_nonneg (by omega)]
 exact_mod_cast h
theorem quo128 {n:Nat} {t:TypeId} {xo yo:Operand} {K:Cont} {w:World} (hn:n < 18446744073709551616) (h:K (.int .u64 ((n / 128:Nat):Int)) w):runK Tryz.prog (binS .quo t xo yo (.int .u64 n) (.int .u64 128)) K w:=by
 refine quo_i (by decide) ?_
 rw [Int.tdiv_eq_ediv_of_nonneg (by omega),wrapu64 ⟨by omega,by omega⟩]
 exact_mod_cast h
theorem form_bytes {n:Nat} {w:World} (hn:n < 18446744073709551616):callK Tryz.prog 60 [.int .u64 n] (fun v' w'=>OBytes w.heap.size w' v' (uv n)∧Grow w w') w:=by
 apply S60_ok
 unfold S60
 have e128:(128:Nat) ^ (9+1)=1180591620717411303424:=by decide
 refine LoopK_i (fun vs W1=>∃ (f m:Nat) (pre:List Int) (ov:Value),vs=[.int .u64 m,ov]∧uv n=pre++uvB f m∧m < 128 ^ (f+1)∧m < 18446744073709551616∧pre.length+f=9∧OBytes w.heap.size W1 ov pre∧Grow w W1) (fun vs _=>iOf vs 0)
  ⟨9,n,[],.slice none 0 0,rfl,rfl,by omega,hn,rfl,OwnR.nil,Mod.refl _ _⟩ ?_
 rintro vs W1 ⟨f,m,pre,ov,rfl,hu,hm,hm2,hf,ho,g⟩ _
 simp only [nth_s,nth_z,List.headD_cons,List.tail_cons]
 refine rem128 ?_
 refine conv64_8 ?_
 rw [show (((m % 128:Nat):Int) % 256)=((m % 128:Nat):Int) by omega]
 refine quo128 hm2 ?_
 rw [eqK_i]
 refine condK_p (fun h0=>?_) fun h0=>?_
 ·have hend:uvB f m=[(m:Int)]:=uvB_small (by omega)
  rw [show m % 128=m by omega]
  refine push_n (w0:=w) elem_byte ho g (cs:=[.int .u8 (m:Int)]) (x:=(m:Int)) (by kernel_rfl) rfl rfl (fun _ _ _=>RByte.one) (fun _ _ _ _ _ _ h=>h) (by omega) (by simp only [maxLen];omega) fun v' w' o' g'=>?_
  rw [hu,hend]
  exact ⟨o',g'⟩
 ·cases f with
  | zero=>simp at hm;omega
  | succ f=>
   rw [addK_i,wrapu8 (by omega) (by omega),show (((m % 128:Nat):Int)+128)=((m % 128+128:Nat):Int) by omega]
   obtain ⟨d,hd⟩:∃ d:Int,d=((m % 128+128:Nat):Int):=⟨_,rfl⟩
   rw [←hd]
   refine push_n (w0:=w) elem_byte ho g (cs:=[.int .u8 d]) (x:=d) (by kernel_rfl) rfl rfl (fun _ _ _=>RByte.one) (fun _ _ _ _ _ _ h=>h) (by omega) (by simp only [maxLen];omega) fun v' w' o' g'=>?_
   refine ⟨⟨f,m / 128,pre++[d],v',rfl,?_,?_,by omega,by simp;omega,o',g'⟩,?_⟩
   ·rw [hu,uvB_great (by omega),hd];simp
   ·rw [Nat.pow_succ] at hm
    exact Nat.div_lt_of_lt_mul (by omega)
   ·rw [iOf0,iOf0];omega
theorem whole_ok {n:Int} {w:World} (h0:-9223372036854775808≤n) (h1:n≤9223372036854775807):callK Tryz.prog 113 [.int .i64 n] (fun v' w'=>v'=.int .u64 (zigN n:Nat)∧w'=w) w:=by
 apply S113_ok
 unfold S113
 have eneg:∀ x:Int,(Op.unary .neg (.int .i64 x)).run Tryz.prog w=.ok (.int .i64 (IntKind.i64.wrap (-x))) w:=fun x=>by simp [Op.unary,Op.intArith]
 rw [geK_i]
 refine condK_p (fun hge=>?_) fun hlt=>?_
 ·refine runK_i (run_conv (k:=.u64) w (by kernel_rfl) (by kernel_rfl)) ?_
  rw [wrapu64 ⟨by omega,by omega⟩,mulK_i,wrapu64 ⟨by omega,by omega⟩]
  refine ⟨?_,rfl⟩
  unfold zigN
  rw [if_pos (by omega)]
  congr 1
  omega
 ·rw [addK_i,wrap64 (by omega) (by omega)]
  refine runK_i (eneg _) ?_
  rw [wrap64 (by omega) (by omega)]
  refine runK_i (run_conv (k:=.u64) w (by kernel_rfl) (by kernel_rfl)) ?_
  rw [wrapu64 ⟨by omega,by omega⟩,mulK_i,wrapu64 ⟨by omega,by omega⟩,addK_i,wrapu64 ⟨by omega,by omega⟩]
  refine ⟨?_,rfl⟩
  unfold zigN
  rw [if_neg (by omega)]
  congr 1
  omega
theorem back_ok {n:Nat} {w:World} (hn:n < 18446744073709551616):callK Tryz.prog 74 [.int .u64 n] (fun v' w'=>v'=.int .i64 (unzig n)∧w'=w) w:=by
 apply S74_ok
 unfold S74
 have eneg:∀ x:Int,(Op.unary .neg (.int .i64 x)).run Tryz.prog w=.ok (.int .i64 (IntKind.i64.wrap (-x))) w:=fun x=>by simp [Op.unary,Op.intArith]
 have eq2:∀ {K:Cont} {t:TypeId} {xo yo:Operand},K (.int .u64 ((n / 2:Nat):Int)) w→runK Tryz.prog (binS .quo t xo yo (.int .u64 n) (.int .u64 2)) K w:=fun {K t xo yo} h=>by
  refine quo_i (by decide) ?_
  rw [Int.tdiv_eq_ediv_of_nonneg (by omega),wrapu64 ⟨by omega,by omega⟩]
  exact_mod_cast h
 refine rem_i (by decide) ?_
 rw [Int.tmod_eq_emod_of_nonneg (by omega),eqK_i]
 unfold unzig
 refine condK_p (fun h0=>?_) fun h0=>?_
 ·refine eq2 ?_
  refine runK_i (run_conv (k:=.i64) w (by kernel_rfl) (by kernel_rfl)) ?_
  rw [wrap64 (by omega) (by omega),if_pos (by omega)]
  exact ⟨rfl,rfl⟩
 ·refine eq2 ?_
  refine runK_i (run_conv (k:=.i64) w (by kernel_rfl) (by kernel_rfl)) ?_
  rw [wrap64 (by omega) (by omega)]
  refine runK_i (eneg _) ?_
  rw [wrap64 (by omega) (by omega),subK_i,wrap64 (by omega) (by omega),if_neg (by omega)]
  exact ⟨rfl,rfl⟩
theorem wrapi32 {x:Int} (h0:-2147483648≤x) (h1:x≤2147483647):IntKind.i32.wrap x=x:=by
 have e1:(2:Int) ^ IntKind.i32.bits=4294967296:=by decide
 have e2:(2:Int) ^ (IntKind.i32.bits - 1)=2147483648:=by decide
 simp only [IntKind.wrap,e1,e2,IntKind.signed,Bool.true_and,decide_eq_true_eq]
 split <;> omega
theorem six_b {r:Int} {w:World} (h0:0≤r):callK Tryz.prog 143 [.int .i32 r] (fun v w'=>v=.int .u8 (128+r % 64)∧w'=w) w:=by
 apply S143_ok
 unfold S143
 refine rem_i (by decide) ?_
 rw [Int.tmod_eq_emod_of_nonneg h0,addK_i,wrapi32 (by omega) (by omega)]
 refine conv_u8 ?_
 rw [wrapu8 (by omega) (by omega)]
 exact ⟨rfl,rfl⟩
theorem quo_r {r d:Int} {t:TypeId} {xo yo:Operand} {K:Cont} {w:World} (h0:0≤r) (h1:r≤2147483647) (hd:1≤d) (h:K (.int .i32 (r / d)) w):runK Tryz.prog (binS .quo t xo yo (.int .i32 r) (.int .i32 d)) K w:=by
 refine quo_i (by omega) ?_
 have h2:0≤r / d:=Int.ediv_nonneg h0 (by omega)
 have h3:r / d≤r:=Int.ediv_le_self _ h0
 rw [Int.tdiv_eq_ediv_of_nonneg h0,wrapi32 (by omega) (by omega)];exact h
theorem one_b {r:Int} {w:World} (h:MayR r):callK Tryz.prog 114 [.int .i32 r] (fun v w'=>RBytes (fun z=>z=w.heap.size) w' v (oneB r)∧Grow w w') w:=by
 apply S114_ok
 unfold S114
 have hr:0≤r∧r≤1114111:=by unfold MayR at h;omega
 clear h
 have done:∀ {xs:List Int} {n:Nat} {parts:List (Nat × Value)},xs=oneB r→xs.length=n→n≤4→Instr.fill (fun i=>some (i * 1,1)) ((Array.range (n * 1)).map ([Value.int .u8 0].toArray[· % [Value.int .u8 0].toArray.size]!)) parts=some (xs.map (Value.int .u8)).toArray→
   rowK 5 1 n [.int .u8 0] parts (fun v w'=>RBytes (fun z=>z=w.heap.size) w' v (oneB r)∧Grow w w') w:=fun {xs n parts} e hn h4 hf=>by
  subst e
  subst hn
  exact rowK_i hf ⟨row_bytes rfl h4,Mod.alloc _ _ _⟩
 rw [ltK_i]
 refine condK_p (fun h1=>?_) fun h1=>?_
 ·refine conv_u8 ?_
  rw [wrapu8 (by omega) (by omega)]
  exact done (xs:=[r]) (by unfold oneB;rw [if_pos h1]) rfl (by decide) (by kernel_rfl)
 rw [ltK_i]
 refine condK_p (fun h2=>?_) fun h2=>?_
 ·refine quo_r hr.1 (by omega) (by decide) ?_
  rw [addK_i,wrapi32 (by omega) (by omega)]
  refine conv_u8 ?_
  rw [wrapu8 (by omega) (by omega)]
  refine callK_mono (six_b hr.1) ?_
  rintro _ _ ⟨rfl,rfl⟩
  exact done (xs:=[192+r / 64,128+r % 64]) (by unfold oneB;rw [if_neg h1,if_pos h2]) rfl (by decide) (by kernel_rfl)
 rw [ltK_i]
 refine condK_bb (fun h3=>?_) fun h3=>?_
 ·have h3:=of_decide_eq_true h3
  refine quo_r hr.1 (by omega) (by decide) ?_
  rw [addK_i,wrapi32 (by omega) (by omega)]
  refine conv_u8 ?_
  rw [wrapu8 (by omega) (by omega)]
  refine quo_r hr.1 (by omega) (by decide) ?_
  refine callK_mono (six_b (by omega)) ?_
  rintro _ _ ⟨rfl,rfl⟩
  refine callK_mono (six_b hr.1) ?_
  rintro _ _ ⟨rfl,rfl⟩
  exact done (xs:=[224+r / 4096,128+r / 64 % 64,128+r % 64]) (by unfold oneB;rw [if_neg h1,if_neg h2,if_pos h3]) rfl (by decide) (by kernel_rfl)
 ·have h3:=of_decide_eq_false h3
  refine quo_r hr.1 (by omega) (by decide) ?_
  rw [addK_i,wrapi32 (by omega) (by omega)]
  refine conv_u8 ?_
  rw [wrapu8 (by omega) (by omega)]
  refine quo_r hr.1 (by omega) (by decide) ?_
  refine callK_mono (six_b (by omega)) ?_
  rintro _ _ ⟨rfl,rfl⟩
  refine quo_r hr.1 (by omega) (by decide) ?_
  refine callK_mono (six_b (by omega)) ?_
  rintro _ _ ⟨rfl,rfl⟩
  refine callK_mono (six_b hr.1) ?_
  rintro _ _ ⟨rfl,rfl⟩
  exact done (xs:=[240+r / 262144,128+r / 4096 % 64,128+r / 64 % 64,128+r % 64]) (by unfold oneB;rw [if_neg h1,if_neg h2,if_neg h3]) rfl (by decide) (by kernel_rfl)
theorem rtext_ok {S:Nat→Prop} {v:Value} {l:List Int} {w:World} (h:RRun S w v l) (hr:∀ r ∈ l,MayR r) (hl:l.length * 4≤1099511620000) :
  callK Tryz.prog 62 [v] (fun v' w'=>Grow w w'∧∃ bv,v'=.tuple #[bv,.int .i64 0]∧OBytes w.heap.size w' bv (textR l)) w:=by
 apply S62_ok
 unfold S62
 obtain ⟨a,c,rfl,hm⟩:=h.shape
 refine LoopK_i (fun vs W=>∃ (i:Nat) (bv:Value),i≤l.length∧vs=[bv,.int .i64 i]∧OBytes w.heap.size W bv (textR (l.take i))∧Grow w W) (fun vs _=>l.length - iOf vs 1) ⟨0,_,Nat.zero_le _,rfl,OwnR.nil,Mod.refl _ _⟩ ?_
 rintro vs W ⟨i,bv,hi,rfl,ho,g⟩ _
 simp only [nth_s,nth_z,List.headD_cons,List.tail_cons]
 rw [lenK_i,ltK_i]
 refine condK_p (fun hlt=>?_) fun hge=>?_
 ·have hlt':i < l.length:=by omega
  have hmay:=hr _ (List.getElem_mem hlt')
  obtain ⟨p,r,rfl,_,_,hc,rfl⟩:=(h.grow g (by decide) fun _ _ h=>h).get hlt'
  refine ixK_n hlt' ?_
  refine ld1K_i (by have:=hc 0 _ rfl;exact this) ?_
  refine callK_mono (mayr_ok (r:=l[i])) ?_
  rintro _ _ ⟨rfl,rfl⟩
  rename World=>W
  rw [decide_eq_true hmay,notK_i]
  refine condK_f ?_
  refine ixK_n hlt' ?_
  refine ld1K_i (by have:=hc 0 _ rfl;exact this) ?_
  refine callK_mono (one_b hmay) ?_
  rintro xv w2 ⟨hx,g2⟩
  have hbl:(textR (l.take i)).length≤l.length * 4:=by
   have:=textR_len (l.take i)
   have:(l.take i).length≤l.length:=by simp;omega
   omega
  have hol:=(oneB_len l[i]).2
  refine app_b (OwnR.mod ho g2 (fun _ _ h=>h) fun _ _ _ h=>h) (g.trans g2) hx (by omega) fun v' w4 o4 g4 _ _=>?_
  rw [addK_i,loop_step (by omega)]
  refine ⟨⟨i+1,v',hlt',rfl,?_,g4⟩,by rw [iOf1,iOf1];omega⟩
  have e:textR (l.take (i+1))=textR (l.take i)++oneB l[i]:=by
   unfold textR
   rw [List.take_add_one,List.getElem?_eq_getElem hlt',List.flatMap_append]
   simp
  rw [e];exact o4
 ·have:i=l.length:=by omega
  subst this
  rw [List.take_length] at ho
  exact ⟨g,bv,rfl,ho⟩
theorem val17_ok {v:AVal} {w:World} (hv:RepV v) (hl:v.s.size+100≤1099511620) :
  callK Tryz.prog 61 [.agg v.cells.toArray] (fun v' w'=>OBytes w.heap.size w' v' (encV v)∧Grow w w') w:=by
 apply S61_ok
 unfold S61
 have hk:=hv.kind
 refine boxn_i fun b w1 hb hz g1 hc _=>?_
 obtain ⟨k,hkk⟩:∃ k:Nat,v.kind=k:=⟨v.kind.toNat,by omega⟩
 have c0:=hc 0 _ rfl
 have c1:=hc 1 _ rfl
 have c2:=hc 2 _ rfl
 have c3:=hc 3 _ rfl
 have eV:encV v=uv k++encW v:=by rw [encV_eq,hkk];rfl
 rw [faK_i]
 refine ld1K_i c0 ?_
 rw [hkk]
 refine conv8_64 (by omega) ?_
 refine callK_mono (form_bytes (by omega)) ?_
 rintro ov w2 ⟨o2,g2⟩
 have hul:∀ n,(uv n).length≤10:=fun n=>(uvB_len 9 n).2
 have g02:=g1.trans g2
 have s1:=g1.size
 have o2h:=o2
 have o2:=OBytes.low o2 s1
 have fin:∀ {n:Nat} {W:World} {K:Cont},Grow w2 W→n < 18446744073709551616→(∀ v' w',OBytes w.heap.size w' v' (uv k++uv n)→Grow w w'→K v' w')→callK Tryz.prog 60 [.int .u64 n] (fun t17 w9=>runK Tryz.prog (Builtin.append_ #[31,31] 31 [ov,t17].toArray) K w9) W:=fun {n W K} gW hn hK=>by
  refine callK_mono (form_bytes hn) ?_
  rintro xv W2 ⟨ox,gx⟩
  have h1:=hul k
  have h2:=hul n
  exact app_b (OwnR.mod o2 (gW.trans gx) (fun _ _ h=>h) fun _ _ _ h=>h) (g02.trans (gW.trans gx)) (OwnR.sl ox) (by omega) fun v' w' o g _ _=>hK v' w' o g
 rw [faK_i]
 refine ld1K_i (g2.cell c0 fun h=>h) ?_
 rw [hkk]
 refine JoinK_i (fun vs W=>W=w2∧∃ B:Bool,vs=[.bool B]∧(B=true↔(v.kind=1∨v.kind=2))) ?_ ?_
 ·rintro _ _ ⟨rfl,B,rfl,hB⟩ _
  rename World=>w2
  simp only [nth_z,List.headD_cons]
  refine condK_bb (fun e=>?_) fun e=>?_
  ·have h12:=hB.1 e
   have hn:-9223372036854775808≤v.n∧v.n≤9223372036854775807:=by
    rcases hv with ⟨_,h,_⟩ | ⟨h,_⟩ | ⟨h,_⟩
    ·exact h
    ·omega
    ·omega
   rw [faK_i]
   refine ld1K_i (g2.cell c1 fun h=>h) ?_
   refine callK_mono (whole_ok hn.1 hn.2) ?_
   rintro _ _ ⟨rfl,rfl⟩
   refine fin (Mod.refl _ _) (zigN_lt hn.1 hn.2) fun v' w' o g=>⟨?_,g⟩
   rw [eV];unfold encW;rw [if_pos h12];exact o
  ·have h12:¬ (v.kind=1∨v.kind=2):=fun h=>by rw [hB.2 h] at e;cases e
   rw [eqK_i]
   refine condK_p (fun e3=>?_) fun e3=>?_
   ·have hf:0≤v.f∧v.f < 18446744073709551616:=by
     rcases hv with ⟨h,_⟩ | ⟨_,_,h,_⟩ | ⟨h,_⟩
     ·omega
     ·exact h
     ·omega
    have ef:v.f=((v.f.toNat:Nat):Int):=by omega
    rw [faK_i]
    refine ld1K_i (g2.cell c2 fun h=>h) ?_
    rw [ef]
    refine fin (Mod.refl _ _) (by omega) fun v' w' o g=>⟨?_,g⟩
    rw [eV];unfold encW;rw [if_neg h12,if_pos (by omega)];exact o
   ·rw [faK_i]
    refine ld1K_i (g2.cell c3 fun h=>h) ?_
    rw [slenK_i]
    refine conv_64 (by omega) ?_
    refine callK_mono (form_bytes (by omega)) ?_
    rintro xv w3 ⟨ox,gx⟩
    have h1:=hul k
    have h2:=hul v.s.size
    refine app_b (OwnR.mod o2 gx (fun _ _ h=>h) fun _ _ _ h=>h) (g02.trans gx) (OwnR.sl ox) (by omega) fun v4 w4 o4 g4 m4 n4=>?_
    have c34:w4.cell? ((⟨b,0,none⟩:Addr).add 3)=some (.string v.s):=m4.cell ((g2.trans gx).cell c3 fun h=>h) (by
     rw [addr0]
     intro e
     have:=(OwnR.ownB o2h b e).1
     omega)
    rw [faK_i]
    refine ld1K_i c34 ?_
    refine strbytes' (by omega) fun v5 w5 g5 hb5=>?_
    refine app_b (OwnR.mod o4 g5 (fun _ _ h=>h) fun _ _ _ h=>h) (g4.trans g5) hb5 (by rw [List.length_append,bytesL_len];omega) fun v6 w6 o6 g6 _ _=>⟨?_,g6⟩
    rw [eV];unfold encW;rw [if_neg h12,if_neg (by omega),if_pos (by omega),←List.append_assoc];exact o6
 ·rw [eqK_i]
  refine condK_p (fun e=>⟨rfl,_,rfl,by rw [decide_eq_true_eq];omega⟩) fun n1=>?_
  rw [eqK_i]
  exact ⟨rfl,_,rfl,by rw [decide_eq_true_eq];omega⟩
end Go.Proofs.YtgmpbihbdbmhoaaGreatDoor

namespace Go.Proofs.YtgmpbihbdbmhoaaGreatDoor
open Go Go.K

structure OutI (w0:World) (b:Nat) (r:List Value) (W:World) (ov:Value) (l:List Int):Prop where
 own:OBytes w0.heap.size W ov l
 g:Grow w0 W
 box:BoxN W b r
 ne:∀ z,ov.ownBlock=some z→z≠b
section
variable {w0 W W':World} {b:Nat} {r:List Value} {ov:Value} {l:List Int}
theorem BoxN.lt {vs:List Value} {u:Value} (h:BoxN W b vs) (h0:vs[0]?=some u):b < W.heap.size:=World.block_lt_of_cell? W _ (h.cells 0 u h0)
theorem OutI.grow (h:OutI w0 b r W ov l) (g:Grow W W'):OutI w0 b r W' ov l:=⟨OwnR.mod h.own g (fun _ _ h=>h) fun _ _ _ h=>h,h.g.trans g,h.box.mod g fun h=>h,h.ne⟩
theorem OutI.app' {S:Nat→Prop} {x u:Value} {m:List Int} {K:Cont} (h:OutI w0 b r W ov l) (h0:r[0]?=some u) (hx:RBytes S W x m) (hl:l.length+m.length≤1099511627776) (hK:∀ v' W',OutI w0 b r W' v' (l++m)→Mod (fun z=>ov.ownBlock=some z) W W'→K v' W') :
  runK Tryz.prog (Builtin.append_ #[31,31] 31 [ov,x].toArray) K W:=by
 have hb:=h.box.lt h0
 refine app_b h.own h.g hx hl fun v' w' o g m n=>hK v' w' ⟨o,g,h.box.mod m fun e=>h.ne b e rfl,fun z hz=>?_⟩ m
 rcases n z hz with e | e
 ·exact h.ne z e
 ·omega
theorem OutI.app {S:Nat→Prop} {x u:Value} {m:List Int} {K:Cont} (h:OutI w0 b r W ov l) (h0:r[0]?=some u) (hx:RBytes S W x m) (hl:l.length+m.length≤1099511627776) (hK:∀ v' W',OutI w0 b r W' v' (l++m)→K v' W') :
  runK Tryz.prog (Builtin.append_ #[31,31] 31 [ov,x].toArray) K W:=h.app' h0 hx hl fun v' W' o _=>hK v' W' o
theorem OutI.form {n:Nat} {u:Value} {K:Cont} (h:OutI w0 b r W ov l) (h0:r[0]?=some u) (hn:n < 18446744073709551616) (hl:l.length+20≤1099511627776) (hK:∀ v' W',OutI w0 b r W' v' (l++uv n)→K v' W') :
  callK Tryz.prog 60 [.int .u64 n] (fun t w=>runK Tryz.prog (Builtin.append_ #[31,31] 31 [ov,t].toArray) K w) W:=by
 refine callK_mono (form_bytes hn) ?_
 rintro xv w1 ⟨o1,g1⟩
 have:(uv n).length≤10:=(uvB_len 9 n).2
 exact (h.grow g1).app h0 (OwnR.sl o1) (by omega) hK
theorem OutI.ld {j:Nat} {u:Value} {K:Cont} (h:OutI w0 b r W ov l) (hj:r[j]?=some u) (hK:K u W):faK j (.pointer (some ⟨b,0,none⟩)) fun q=>ld1K q K W:=by
 rw [faK_i,addr0]
 exact ld1K_i (h.box.cells j u hj) hK
theorem OutI.byte {u:Value} {z x:Int} {K:Cont} (h:OutI w0 b r W ov l) (h0:r[0]?=some u) (hl:l.length+1≤1099511627776) (hK:∀ v' W',OutI w0 b r W' v' (l++[x])→K v' W') :
  rowK 5 1 1 [(.int .u8 z)] [(0,.int .u8 x)] (fun s w1=>runK Tryz.prog (Builtin.append_ #[31,31] 31 [ov,s].toArray) K w1) W:=by
 refine row1_i fun w1 g1 hz hc=>?_
 have hs:RBytes (fun _=>True) w1 (.slice (some ⟨W.heap.size,0,none⟩) 1 1) [x]:=⟨_,1,rfl,by simp,by simp [maxLen],fun i y hy=>by
  have:i=0:=by have:=(List.getElem?_eq_some_iff.1 hy).1;simp at this;exact this
  subst this
  simp at hy;subst hy
  exact ⟨_,[.int .u8 x],rfl,trivial,rfl,fun j u hu=>by rw [Nat.zero_mul,Nat.zero_add];exact hc j u hu,rfl⟩⟩
 exact (h.grow g1).app h0 hs (by simpa using hl) hK
end
theorem bytes17_ok {S D:Nat→Prop} {xv:Value} {x:List Dop} {w:World} (h:RDops S D w xv x) (hr:RepM RepO x) (hb:mDops x≤8388608) :
  callK Tryz.prog 24 [xv] (fun v' w'=>OBytes w.heap.size w' v' (encL x)∧Grow w w') w:=by
 apply S24_ok
 unfold S24
 obtain ⟨a,c,rfl,hm⟩:=h.shape
 have hlx:=mDops_len x
 rw [lenK_i]
 refine conv_64 (by omega) ?_
 refine callK_mono (form_bytes (by omega)) ?_
 rintro ov0 w1 ⟨o0,g0⟩
 have hul:∀ n,(uv n).length≤10:=fun n=>(uvB_len 9 n).2
 have hfl:∀ i,((x.take i).flatMap encOp).length≤503316480:=fun i=>by
  have e:x.flatMap encOp=(x.take i).flatMap encOp++(x.drop i).flatMap encOp:=by rw [←List.flatMap_append,List.take_append_drop]
  have h1:=flat_sum encOp_len x
  have e1:(x.map mDop).sum=mDops x:=rfl
  rw [e,List.length_append] at h1
  omega
 refine LoopK_i (fun vs W=>∃ (i:Nat) (ov:Value),i≤x.length∧vs=[ov,.int .i64 i]∧OBytes w.heap.size W ov (uv x.length++(x.take i).flatMap encOp)∧Grow w W) (fun vs _=>x.length - iOf vs 1) ⟨0,ov0,Nat.zero_le _,rfl,by simpa using o0,g0⟩ ?_
 rintro vs W ⟨i,ov,hi,rfl,ho,g⟩ _
 simp only [nth_s,nth_z,List.headD_cons,List.tail_cons]
 rw [lenK_i,ltK_i]
 refine condK_p (fun hlt=>?_) fun hge=>?_
 rotate_left
 ·have:i=x.length:=by omega
  subst this
  rw [List.take_length] at ho
  exact ⟨ho,g⟩
 have hlt':i < x.length:=by omega
 have hp:=hfl i
 have hpl:=hul x.length
 have hel:(uv x.length++(x.take (i+1)).flatMap encOp)=(uv x.length++(x.take i).flatMap encOp)++encOp x[i]:=by
  rw [List.take_add_one,List.getElem?_eq_getElem hlt',List.flatMap_append];simp
 have hpre:(uv x.length++(x.take i).flatMap encOp).length≤503316490:=by rw [List.length_append];omega
 generalize uv x.length++(x.take i).flatMap encOp=pre at ho hel hpre
 have hro:=hr.2 _ (List.getElem_mem hlt')
 have hmo:=mDops_mem (List.getElem_mem hlt')
 have hge':=h.get hlt'
 generalize x[i]=o at hel hro hmo hge'
 refine JoinK_i (fun vs W'=>∃ ov',vs=[ov']∧OBytes w.heap.size W' ov' (pre++encOp o)∧Grow w W') ?_ ?_
 ·rintro _ W' ⟨ov',rfl,o',g'⟩ _
  simp only [nth_z,List.headD_cons]
  rw [addK_i,loop_step (by omega)]
  exact ⟨⟨i+1,ov',hlt',rfl,by rw [hel];exact o',g'⟩,by rw [iOf1,iOf1];omega⟩
 obtain ⟨p,r,e0,_,hrl,hc0,hop⟩:=hge'
 cases e0
 have hc:∀ j u,r[j]?=some u→W.cell? (p.add (i * 5+j))=some u:=fun j u hu=>g.cell (hc0 j u hu) fun h=>h
 refine ixK_n hlt' (ldnK_i hrl (fun j u hu=>by rw [Addr.add_add];exact hc j u hu) ?_)
 refine newst_n hrl rfl (RDop.one hop) fun b W1 hbb hz g1 hcc hll=>?_
 have hI:OutI w b r W1 ov pre:=⟨OwnR.mod ho g1 (fun _ _ h=>h) fun _ _ _ h=>h,g.trans g1,⟨fun j u hu=>by have:=hcc j u hu;rwa [addr0] at this,fun j hj=>by have:=hll j (by omega);rwa [addr0] at this⟩,fun z hz=>by have:=(OwnR.ownB ho z hz).2;omega⟩
 obtain ⟨rv,sv,pv,rfl,r1,r2,r3⟩:=hop
 have hk:=RepO.kind hro
 obtain ⟨k,hkk⟩:∃ k:Nat,o.kind=k:=⟨o.kind.toNat,by omega⟩
 have eV:encOp o=uv k++encU o:=by rw [encOp_eq,hkk];rfl
 simp only [mDop] at hmo
 refine hI.ld (j:=0) rfl ?_
 rw [hkk]
 refine conv8_64 (by omega) ?_
 refine hI.form (u:=.int .u8 k) (by rw [hkk];rfl) (by omega) (by omega) fun ov1 W2 h2=>?_
 have r0:[Value.int .u8 o.kind,.int .i64 o.n,rv,sv,pv][0]?=some (.int .u8 k):=by rw [hkk];rfl
 have hku:=hul k
 have l1:(pre++uv k).length=pre.length+(uv k).length:=List.length_append
 refine h2.ld (j:=0) rfl ?_
 rw [eqK_i]
 refine condK_p (fun e=>?_) fun n1=>?_
 ·rcases hro with ⟨_,hn,_,_,hpp⟩ | ⟨e',_⟩ | ⟨e',_⟩
  rotate_left
  ·omega
  ·omega
  have en:o.n=((o.n.toNat:Nat):Int):=by omega
  refine h2.ld (j:=1) rfl ?_
  rw [en]
  refine conv_64 (by omega) ?_
  have hu2:=hul o.n.toNat
  refine h2.form r0 (by omega) (by omega) fun ov3 W3 h3=>?_
  refine h3.ld (j:=4) rfl ?_
  obtain ⟨pa,pc,rfl,hpm⟩:=r3.shape
  simp only [maxLen] at hpm
  rw [lenK_i]
  refine conv_64 (by omega) ?_
  have hu3:=hul o.patch.length
  refine h3.form r0 (by omega) (by rw [List.length_append];omega) fun ov4 W4 h4=>?_
  have hpf:∀ q,((o.patch.take q).flatMap encCh).length≤503316480:=fun q=>by
   have e:o.patch.flatMap encCh=(o.patch.take q).flatMap encCh++(o.patch.drop q).flatMap encCh:=by rw [←List.flatMap_append,List.take_append_drop]
   have h1:=flat_sum encCh_len o.patch
   have e1:(o.patch.map mChg).sum=mPat o.patch:=rfl
   rw [e,List.length_append] at h1
   omega
  have hb4:(pre++uv k++uv o.n.toNat++uv o.patch.length).length≤503316520:=by simp only [List.length_append];omega
  have hfin:pre++encOp o=pre++uv k++uv o.n.toNat++uv o.patch.length++o.patch.flatMap encCh:=by
   rw [eV];unfold encU encM;rw [if_pos (by omega)];simp only [List.append_assoc]
  generalize pre++uv k++uv o.n.toNat++uv o.patch.length=q4 at h4 hb4 hfin
  refine LoopK_i (fun vs W5=>∃ (q:Nat) (ov5:Value),q≤o.patch.length∧vs=[ov5,.int .i64 q]∧OutI w b [Value.int .u8 o.kind,.int .i64 o.n,rv,sv,.slice pa o.patch.length pc] W5 ov5 (q4++(o.patch.take q).flatMap encCh)) (fun vs _=>o.patch.length - iOf vs 1) ⟨0,ov4,Nat.zero_le _,rfl,by simpa using h4⟩ ?_
  rintro vs W5 ⟨q,ov5,hq,rfl,h5⟩ _
  simp only [nth_s,nth_z,List.headD_cons,List.tail_cons]
  have hq':=hpf q
  have l5:(q4++(o.patch.take q).flatMap encCh).length=q4.length+((o.patch.take q).flatMap encCh).length:=List.length_append
  refine h5.ld (j:=4) rfl ?_
  rw [lenK_i,ltK_i]
  refine condK_p (fun hlq=>?_) fun hgq=>?_
  rotate_left
  ·have:q=o.patch.length:=by omega
   subst this
   rw [List.take_length] at h5
   exact ⟨ov5,rfl,by rw [hfin];exact h5.own,h5.g⟩
  have hlq':q < o.patch.length:=by omega
  have hcr:=hpp.2 _ (List.getElem_mem hlq')
  have hcm:=mPat_mem (List.getElem_mem hlq')
  have hce:q4++(o.patch.take (q+1)).flatMap encCh=q4++(o.patch.take q).flatMap encCh++encCh o.patch[q]:=by
   rw [List.take_add_one,List.getElem?_eq_getElem hlq',List.flatMap_append];simp
  obtain ⟨pp,pr,pe,_,prl,pcc,rfl⟩:=r3.get hlq'
  cases pe
  generalize o.patch[q]=y at hcr hcm hce pcc
  have pcell:∀ {W':World},Grow w W'→∀ j u,y.cells[j]?=some u→W'.cell? (pp.add (q * 6+j))=some u:=fun gg j u hu=>gg.cell (pcc j u hu) fun h=>h
  have hk63:=hcr.1
  unfold Key63 at hk63
  have eky:y.key=((y.key.toNat:Nat):Int):=by omega
  have hu5:=hul y.key.toNat
  refine h5.ld (j:=4) rfl ?_
  refine ixK_n hlq' ?_
  rw [faK_i,Addr.add_add]
  refine ld1K_i (pcell h5.g 0 _ rfl) ?_
  rw [eky]
  refine conv_64 (by omega) ?_
  refine h5.form r0 (by omega) (by omega) fun ov6 W6 h6=>?_
  have l6:(q4++(o.patch.take q).flatMap encCh++uv y.key.toNat).length=(q4++(o.patch.take q).flatMap encCh).length+(uv y.key.toNat).length:=List.length_append
  refine h6.ld (j:=4) rfl ?_
  refine ixK_n hlq' ?_
  rw [faK_i,Addr.add_add]
  refine ld1K_i (pcell h6.g 1 _ rfl) ?_
  refine condK_bb (fun hg=>?_) fun hg=>?_
  ·refine h6.byte r0 (by omega) fun ov7 W7 h7=>?_
   rw [addK_i,loop_step (by omega)]
   refine ⟨⟨q+1,ov7,hlq',rfl,?_⟩,by rw [iOf1,iOf1];omega⟩
   rw [hce];unfold encCh
   rw [hg,if_pos rfl,←List.append_assoc];exact h7
  ·have hvv:RepV y.val:=by
    rcases hcr.2 with ⟨h,_⟩ | ⟨_,h⟩
    ·rw [h] at hg;cases hg
    ·exact h
   refine h6.ld (j:=4) rfl ?_
   refine ixK_n hlq' ?_
   rw [faK_i,Addr.add_add]
   refine ldnK_i (vs:=y.val.cells) rfl (fun j u hu=>by rw [Addr.add_add,Nat.add_assoc];exact pcell h6.g (2+j) u (by rw [Nat.add_comm];exact hu)) ?_
   refine callK_mono (val17_ok hvv (by omega)) ?_
   rintro yv W7 ⟨o7,g7⟩
   have hvl:=encV_len y.val
   refine (h6.grow g7).app r0 (OwnR.sl o7) (by omega) fun ov8 W8 h8=>?_
   rw [addK_i,loop_step (by omega)]
   refine ⟨⟨q+1,ov8,hlq',rfl,?_⟩,by rw [iOf1,iOf1];omega⟩
   rw [hce];unfold encCh
   rw [hg,←List.append_assoc];exact h8
 rw [eqK_i]
 refine condK_p (fun e=>?_) fun n2=>?_
 ·rcases hro with ⟨e',_⟩ | ⟨_,_,hM,ht,hss,_⟩ | ⟨e',_⟩
  ·omega
  rotate_left
  ·omega
  refine h2.ld (j:=2) rfl ?_
  refine callK_mono (rtext_ok (r1.grow h2.g (by decide) fun _ _ h=>h) hM (by omega)) ?_
  rintro _ W3 ⟨g3,bv,rfl,ob⟩
  refine extK_i (vs:=[_,_]) rfl (extK_i (vs:=[_,_]) rfl ?_)
  have htl:=textR_len o.runes
  have hsl:=OwnR.sl ob
  obtain ⟨ba,bc,rfl,_⟩:=hsl.shape
  rw [lenK_i]
  refine conv_64 (by omega) ?_
  have hu3:=hul (textR o.runes).length
  have h3:=h2.grow g3
  refine callK_mono (form_bytes (by omega)) ?_
  rintro xv W4 ⟨o4,g4⟩
  have own1:∀ z,ov1.ownBlock=some z→z < W2.heap.size:=fun z hz=>(OwnR.ownB h2.own z hz).2
  refine (h3.grow g4).app' r0 (OwnR.sl o4) (by omega) fun ov5 W5 h5 m5=>?_
  have hbt:RBytes _ W5 (.slice ba (textR o.runes).length bc) (textR o.runes):=(hsl.grow g4 (by decide) fun _ _ h=>h).mod m5 (fun z _ hz e=>by have:=own1 z e;have:=hz.1;omega) (by decide) fun _ _ h=>h
  refine h5.app r0 hbt (by simp only [List.length_append];omega) fun ov6 W6 h6=>?_
  refine h6.ld (j:=3) rfl ?_
  obtain ⟨pa,pc,rfl,hpm⟩:=r2.shape
  simp only [maxLen] at hpm
  rw [lenK_i]
  refine conv_64 (by omega) ?_
  have hu6:=hul o.set.length
  refine h6.form r0 (by omega) (by simp only [List.length_append];omega) fun ov4 W4 h4=>?_
  have hpf:∀ q,((o.set.take q).flatMap encAt).length≤503316480:=fun q=>by
   have e:o.set.flatMap encAt=(o.set.take q).flatMap encAt++(o.set.drop q).flatMap encAt:=by rw [←List.flatMap_append,List.take_append_drop]
   have h1:=flat_sum encAt_len o.set
   have e1:(o.set.map mAttr).sum=mSet o.set:=rfl
   rw [e,List.length_append] at h1
   omega
  have hb4:(pre++uv k++uv (textR o.runes).length++textR o.runes++uv o.set.length).length≤570425400:=by simp only [List.length_append];omega
  have hfin:pre++encOp o=pre++uv k++uv (textR o.runes).length++textR o.runes++uv o.set.length++o.set.flatMap encAt:=by
   rw [eV];unfold encU encM encX;rw [if_neg (by omega),if_pos (by omega)];simp only [List.append_assoc]
  generalize pre++uv k++uv (textR o.runes).length++textR o.runes++uv o.set.length=q4 at h4 hb4 hfin
  refine LoopK_i (fun vs W5=>∃ (q:Nat) (ov5:Value),q≤o.set.length∧vs=[ov5,.int .i64 q]∧OutI w b [Value.int .u8 o.kind,.int .i64 o.n,rv,.slice pa o.set.length pc,pv] W5 ov5 (q4++(o.set.take q).flatMap encAt)) (fun vs _=>o.set.length - iOf vs 1) ⟨0,ov4,Nat.zero_le _,rfl,by simpa using h4⟩ ?_
  rintro vs W5 ⟨q,ov5,hq,rfl,h5⟩ _
  simp only [nth_s,nth_z,List.headD_cons,List.tail_cons]
  have hq':=hpf q
  have l5:(q4++(o.set.take q).flatMap encAt).length=q4.length+((o.set.take q).flatMap encAt).length:=List.length_append
  refine h5.ld (j:=3) rfl ?_
  rw [lenK_i,ltK_i]
  refine condK_p (fun hlq=>?_) fun hgq=>?_
  rotate_left
  ·have:q=o.set.length:=by omega
   subst this
   rw [List.take_length] at h5
   exact ⟨ov5,rfl,by rw [hfin];exact h5.own,h5.g⟩
  have hlq':q < o.set.length:=by omega
  have hcr:=hss.2 _ (List.getElem_mem hlq')
  have hcm:=mSet_mem (List.getElem_mem hlq')
  have hce:q4++(o.set.take (q+1)).flatMap encAt=q4++(o.set.take q).flatMap encAt++encAt o.set[q]:=by
   rw [List.take_add_one,List.getElem?_eq_getElem hlq',List.flatMap_append];simp
  obtain ⟨pp,pr,pe,_,prl,pcc,rfl⟩:=r2.get hlq'
  cases pe
  generalize o.set[q]=y at hcr hcm hce pcc
  have pcell:∀ {W':World},Grow w W'→∀ j u,y.cells[j]?=some u→W'.cell? (pp.add (q * 5+j))=some u:=fun gg j u hu=>gg.cell (pcc j u hu) fun h=>h
  have hk63:=hcr.1
  unfold Key63 at hk63
  have eky:y.key=((y.key.toNat:Nat):Int):=by omega
  have hu5:=hul y.key.toNat
  refine h5.ld (j:=3) rfl ?_
  refine ixK_n hlq' ?_
  rw [faK_i,Addr.add_add]
  refine ld1K_i (pcell h5.g 0 _ rfl) ?_
  rw [eky]
  refine conv_64 (by omega) ?_
  refine h5.form r0 (by omega) (by omega) fun ov6 W6 h6=>?_
  have l6:(q4++(o.set.take q).flatMap encAt++uv y.key.toNat).length=(q4++(o.set.take q).flatMap encAt).length+(uv y.key.toNat).length:=List.length_append
  refine h6.ld (j:=3) rfl ?_
  refine ixK_n hlq' ?_
  rw [faK_i,Addr.add_add]
  refine ldnK_i (vs:=y.val.cells) rfl (fun j u hu=>by rw [Addr.add_add,Nat.add_assoc];exact pcell h6.g (1+j) u (by rw [Nat.add_comm];exact hu)) ?_
  refine callK_mono (val17_ok hcr.2 (by omega)) ?_
  rintro yv W7 ⟨o7,g7⟩
  have hvl:=encV_len y.val
  refine (h6.grow g7).app r0 (OwnR.sl o7) (by omega) fun ov8 W8 h8=>?_
  rw [addK_i,loop_step (by omega)]
  refine ⟨⟨q+1,ov8,hlq',rfl,?_⟩,by rw [iOf1,iOf1];omega⟩
  rw [hce];unfold encAt
  rw [←List.append_assoc];exact h8
 rw [eqK_i]
 refine condK_p (fun e=>?_) fun n3=>by omega
 rcases hro with ⟨e',_⟩ | ⟨e',_⟩ | ⟨_,hn,_⟩
 ·omega
 ·omega
 have en:o.n=((o.n.toNat:Nat):Int):=by omega
 refine h2.ld (j:=1) rfl ?_
 rw [en]
 refine conv_64 (by omega) ?_
 refine h2.form r0 (by omega) (by omega) fun ov3 W3 h3=>?_
 refine ⟨ov3,rfl,?_,h3.g⟩
 rw [eV];unfold encU;rw [if_neg (by omega),if_neg (by omega),if_pos (by omega),←List.append_assoc]
 exact h3.own
theorem rencode_ok {S Sk D:Nat→Prop} {kv xv:Value} {keys:List DKey} {x:List Dop} {w:World} (hk:RKeys Sk w kv keys) (h:RDops S D w xv x) (hB:∀ o ∈ x,InB o) (hpos:∀ k ∈ keys,0≤k.id) (hb:mDops x≤1048576) :
  callK Tryz.prog 10 [kv,xv] (fun v' w'=>Grow w w'∧∃ bv,v'=.tuple #[bv,.int .i64 (mayOps keys x)]∧(mayOps keys x=0→OBytes w.heap.size w' bv (encL (normB x)))∧(mayOps keys x≠0→bv=.slice none 0 0)) w:=by
 apply S10_ok
 unfold S10
 refine callK_mono (mayops_ok hk h (by omega)) ?_
 rintro _ w1 ⟨rfl,g1⟩
 rw [neK_i]
 refine condK_neg (fun e=>?_) fun e=>⟨g1,_,rfl,fun e'=>(e e').elim,fun _=>rfl⟩
 refine callK_mono (rof_ok (h.grow g1) (by omega)) ?_
 rintro xv2 w2 ⟨o2,g2⟩
 have hlx:=mDops_len x
 obtain ⟨_,_,n3,_,_⟩:=norm_may hpos e hB (by omega)
 rw [←may_rof (by rw [e];decide) (by omega)] at o2
 have hmm:=normB_mm x
 refine callK_mono (bytes17_ok (ODops.reads o2) n3 (by omega)) ?_
 rintro bv w3 ⟨o3,g3⟩
 exact ⟨(g1.trans g2).trans g3,bv,by rw [e],fun _=>OBytes.low o3 (g1.trans g2).size,fun hn=>(hn e).elim⟩
end Go.Proofs.YtgmpbihbdbmhoaaGreatDoor

namespace Go.Proofs.YtgmpbihbdbmhoaaGreatDoor
open Go Go.K

def key17:List DKey:=[⟨5,false,2,false,false,0⟩]
def del17:List Dop:=[⟨1,2,[],[],[]⟩,⟨2,0,[97],[],[]⟩,⟨2,0,[98],[],[]⟩]
def pat17:List Dop:=[⟨1,1,[],[],[⟨5,false,⟨2,3,0,noS⟩⟩]⟩]
theorem decB_norm {ks:List DKey} {x:List Dop} (hk:∀ k ∈ ks,0≤k.id) (h:mayOps ks x=0) (hb:∀ o ∈ x,InB o) (hl:x.length≤1048576):decB ks (encL (normB x))=(normB x,0):=by
 obtain ⟨h1,_,h3,h4,h5⟩:=norm_may hk h hb hl
 have hr:=may_rof (x:=normB x) (by rw [h1];decide) (by omega)
 rw [h4] at hr
 rw [decB_enc h3 (by rw [h1];decide) hr.symm,if_pos h1]
theorem may17:mayOps key17 []=0∧mayOps key17 del17=0∧mayOps key17 pat17=0:=by
 refine ⟨good_may (by simp) (by decide),good_may (fun o ho=>?_) (by decide),good_may (fun o ho=>?_) (by decide)⟩
 ·simp only [del17,List.mem_cons,List.not_mem_nil,or_false] at ho
  rcases ho with rfl | rfl | rfl
  ·exact .inl ⟨rfl,rfl,rfl,by decide,patK_nil⟩
  ·exact .inr (.inr ⟨rfl,fun r hr=>by simp at hr;subst hr;unfold MayR;decide,rfl,rfl,by simp,setK_nil⟩)
  ·exact .inr (.inr ⟨rfl,fun r hr=>by simp at hr;subst hr;unfold MayR;decide,rfl,rfl,by simp,setK_nil⟩)
 ·simp only [pat17,List.mem_cons,List.not_mem_nil,or_false] at ho
  subst ho
  refine .inl ⟨rfl,rfl,rfl,by decide,⟨List.pairwise_singleton _ _,by simp,fun c hc=>?_⟩⟩
  simp at hc;subst hc
  refine ⟨fun h=>(by cases h),fun _=>⟨.inr (.inl ⟨rfl,rfl⟩),⟨_,rfl,.inr (.inl ⟨rfl,rfl⟩),rfl⟩⟩,by decide⟩
theorem inb17:(∀ o ∈ del17,InB o)∧∀ o ∈ pat17,InB o:=by
 refine ⟨fun o ho=>?_,fun o ho=>?_⟩
 ·simp only [del17,List.mem_cons,List.not_mem_nil,or_false] at ho
  rcases ho with rfl | rfl | rfl <;> exact ⟨by simp,by simp⟩
 ·simp only [pat17,List.mem_cons,List.not_mem_nil,or_false] at ho
  subst ho
  refine ⟨by simp,fun c hc=>?_⟩
  simp at hc;subst hc
  exact ⟨by decide,⟨by decide,by decide⟩,by decide,by decide⟩
theorem bytes17:encL (normB [])=[0]∧encL (normB del17)=[2,1,2,0,2,2,97,98,0]∧encL (normB pat17)=[1,1,1,1,5,2,6]∧normB pat17=pat17:=by
 refine ⟨by decide +kernel,by decide +kernel,by decide +kernel,by decide +kernel⟩
theorem str17:strOf [0]=ByteArray.mk #[0]∧strOf [2,1,2,0,2,2,97,98,0]=ByteArray.mk #[2,1,2,0,2,2,97,98,0]∧strOf [1,1,1,1,5,2,6]=ByteArray.mk #[1,1,1,1,5,2,6]:=by
 refine ⟨by kernel_rfl,by kernel_rfl,by kernel_rfl⟩
theorem known17_ok {w:World} (hT:Tabs w):callK Tryz.prog 7 [] (fun v w'=>v=.bool true∧Grow w w') w:=by
 apply S7_ok
 unfold S7
 refine ⟨(⟨5,false,2,false,false,0⟩:DKey).cells.toArray,by kernel_rfl,?_⟩
 refine rowK_i (cs:=(key17.map DKey.cells).flatten) (by kernel_rfl) ?_
 have hK:=sl_keys (w:=w) key17 (by decide)
 have g1:Grow w (w.alloc (.cells (key17.map DKey.cells).flatten.toArray 43)):=Mod.alloc _ _ _
 show callK Tryz.prog 5 [.slice (some ⟨w.heap.size,0,none⟩) 1 1] _ _
 generalize w.alloc (.cells (key17.map DKey.cells).flatten.toArray 43)=w1 at hK g1 ⊢
 refine callK_mono (new_key_ok hK) ?_
 rintro _ w2 ⟨g2,hr⟩
 have hM:MayKeys key17:=mayk_iff.2 ⟨by decide,fun k hk=>by
  simp only [key17,List.mem_cons,List.not_mem_nil,or_false] at hk
  subst hk;unfold KeyOK;decide,by unfold Dist;decide⟩
 rcases hr with ⟨_,sv,ks,rfl,hp,hs,hS⟩ | ⟨hn,_⟩
 rotate_left
 ·exact (hn hM).elim
 have hks:ks=key17:=List.perm_singleton.1 hp
 subst hks
 have hkp:∀ k ∈ key17,0≤k.id:=fun k hk=>by
  simp only [key17,List.mem_cons,List.not_mem_nil,or_false] at hk
  subst hk;decide
 refine extK_i (vs:=[_,_]) (by rfl) (extK_i (vs:=[_,_]) (by rfl) ?_)
 obtain ⟨m1,m2,m3⟩:=may17
 obtain ⟨i2,i3⟩:=inb17
 obtain ⟨b1,b2,b3,b4⟩:=bytes17
 obtain ⟨t1,t2,t3⟩:=str17
 have g02:=g1.trans g2
 refine callK_mono (encode_ok hS (SlR.nil:RDops (fun _=>True) (fun _=>True) w2 (.slice none 0 0) []) (hT.grow g02) (by simp) hkp (by decide)) ?_
 rintro _ w3 ⟨g3,bv1,rfl,ob1,_⟩
 have ob1:=ob1 m1
 rw [m1]
 refine extK_i (vs:=[_,_]) (by rfl) (extK_i (vs:=[_,_]) (by rfl) ?_)
 refine ⟨#[.int .u8 1,.int .i64 2,.slice none 0 0,.slice none 0 0,.slice none 0 0],by kernel_rfl,?_⟩
 refine row1_i fun w4 g4 z4 c4=>?_
 have r4:=run1 (w:=w) c4
 generalize Value.slice (some ⟨w3.heap.size,0,none⟩) 1 1=v4 at r4 ⊢
 obtain ⟨p4,q4,rfl,_⟩:=r4.shape
 refine ⟨#[.int .u8 2,.int .i64 0,.slice p4 1 q4,.slice none 0 0,.slice none 0 0],by kernel_rfl,?_⟩
 refine row1_i fun w5 g5 z5 c5=>?_
 have r5:=run1 (w:=w) c5
 generalize Value.slice (some ⟨w4.heap.size,0,none⟩) 1 1=v5 at r5 ⊢
 obtain ⟨p5,q5,rfl,_⟩:=r5.shape
 refine ⟨#[.int .u8 2,.int .i64 0,.slice p5 1 q5,.slice none 0 0,.slice none 0 0],by kernel_rfl,?_⟩
 let rows:List (List Value):=[row5 ⟨1,2,[],[],[]⟩ (.slice none 0 0) (.slice none 0 0) (.slice none 0 0),row5 ⟨2,0,[97],[],[]⟩ (.slice p4 1 q4) (.slice none 0 0) (.slice none 0 0),row5 ⟨2,0,[98],[],[]⟩ (.slice p5 1 q5) (.slice none 0 0) (.slice none 0 0)]
 refine rowK_i (cs:=rows.flatten) (by kernel_rfl) ?_
 have g6:Grow w5 (w5.alloc (.cells rows.flatten.toArray 56)):=Mod.alloc _ _ _
 have hL:RDops (fun b=>b=w5.heap.size) (fun _=>True) (w5.alloc (.cells rows.flatten.toArray 56)) (.slice (some ⟨w5.heap.size,0,none⟩) 3 3) del17:=by
  refine SlR.made (l:=del17) (t:=56) rows (by simp [rows]) rfl (by simp [maxLen,del17]) fun i r x hr hx=>?_
  match i with
  | 0=>cases hr;cases hx;exact ⟨_,_,_,rfl,SlR.nil,SlR.nil,SlR.nil⟩
  | 1=>cases hr;cases hx;exact ⟨_,_,_,rfl,(r4.grow g5 (by decide) fun _ _ h=>h).grow g6 (by decide) fun _ _ h=>h,SlR.nil,SlR.nil⟩
  | 2=>cases hr;cases hx;exact ⟨_,_,_,rfl,r5.grow g6 (by decide) fun _ _ h=>h,SlR.nil,SlR.nil⟩
  | i+3=>simp [rows] at hr
 generalize w5.alloc (.cells rows.flatten.toArray 56)=w6 at hL g6 ⊢
 have g26:=((g3.trans g4).trans g5).trans g6
 have g06:=g02.trans g26
 refine callK_mono (encode_ok (hS.grow g26) hL (hT.grow g06) i2 hkp (by decide +kernel)) ?_
 rintro _ w7 ⟨g7,bv2,rfl,ob2,_⟩
 have ob2:=ob2 m2
 rw [m2]
 refine extK_i (vs:=[_,_]) (by rfl) (extK_i (vs:=[_,_]) (by rfl) ?_)
 refine ⟨(⟨2,3,0,noS⟩:AVal).cells.toArray,by kernel_rfl,⟨(⟨5,false,⟨2,3,0,noS⟩⟩:Chg).cells.toArray,by kernel_rfl,?_⟩⟩
 refine rowK_i (cs:=(⟨5,false,⟨2,3,0,noS⟩⟩:Chg).cells) (by kernel_rfl) ?_
 have g8:Grow w7 (w7.alloc (.cells (⟨5,false,⟨2,3,0,noS⟩⟩:Chg).cells.toArray 63)):=Mod.alloc _ _ _
 have hP:RPat (fun _=>True) (w7.alloc (.cells (⟨5,false,⟨2,3,0,noS⟩⟩:Chg).cells.toArray 63)) (.slice (some ⟨w7.heap.size,0,none⟩) 1 1) [⟨5,false,⟨2,3,0,noS⟩⟩]:=
  (SlR.made (R:=RChg) (l:=[(⟨5,false,⟨2,3,0,noS⟩⟩:Chg)]) (t:=63) (w:=w7) [(⟨5,false,⟨2,3,0,noS⟩⟩:Chg).cells] (fun r hr=>by rw [List.mem_singleton.1 hr];rfl) rfl (by simp [maxLen]) fun i r x hr hx=>by
   match i with
   | 0=>cases hr;cases hx;rfl
   | i+1=>simp at hr).sub (fun _ _ _=>trivial) (by decide) fun _ _ h=>h
 generalize w7.alloc (.cells (⟨5,false,⟨2,3,0,noS⟩⟩:Chg).cells.toArray 63)=w8 at hP g8 ⊢
 generalize Value.slice (some ⟨w7.heap.size,0,none⟩) 1 1=v8 at hP ⊢
 obtain ⟨p8,q8,rfl,_⟩:=hP.shape
 refine ⟨#[.int .u8 1,.int .i64 1,.slice none 0 0,.slice none 0 0,.slice p8 1 q8],by kernel_rfl,?_⟩
 let rows2:List (List Value):=[row5 ⟨1,1,[],[],[]⟩ (.slice none 0 0) (.slice none 0 0) (.slice p8 1 q8)]
 refine rowK_i (cs:=rows2.flatten) (by kernel_rfl) ?_
 have g9:Grow w8 (w8.alloc (.cells rows2.flatten.toArray 56)):=Mod.alloc _ _ _
 have hM:RDops (fun b=>b=w8.heap.size) (fun _=>True) (w8.alloc (.cells rows2.flatten.toArray 56)) (.slice (some ⟨w8.heap.size,0,none⟩) 1 1) pat17:=by
  refine SlR.made (l:=pat17) (t:=56) rows2 (by simp [rows2]) rfl (by simp [maxLen,pat17]) fun i r x hr hx=>?_
  match i with
  | 0=>cases hr;cases hx;exact ⟨_,_,_,rfl,SlR.nil,SlR.nil,hP.grow g9 (by decide) fun _ _ h=>h⟩
  | i+1=>simp [rows2] at hr
 generalize w8.alloc (.cells rows2.flatten.toArray 56)=w9 at hM g9 ⊢
 have g69:=(g7.trans g8).trans g9
 have g29:=g26.trans g69
 have g09:=g02.trans g29
 refine callK_mono (encode_ok (hS.grow g29) hM (hT.grow g09) i3 hkp (by decide +kernel)) ?_
 rintro _ w10 ⟨g10,bv3,rfl,ob3,_⟩
 have ob3:=ob3 m3
 rw [m3]
 refine extK_i (vs:=[_,_]) (by rfl) (extK_i (vs:=[_,_]) (by rfl) ?_)
 have hd3:=decB_norm hkp m3 i3 (by decide +kernel)
 rw [b3,b4] at hd3
 rw [b3] at ob3
 rw [b2] at ob2
 rw [b1] at ob1
 refine callK_mono (decode_ok (hS.grow (g29.trans g10)) (OwnR.sl ob3) (by decide) (hT.grow (g09.trans g10)) (by decide)) ?_
 rintro _ w11 ⟨g11,xv,rfl,hx⟩
 rw [hd3] at hx ⊢
 refine extK_i (vs:=[_,_]) (by rfl) (extK_i (vs:=[_,_]) (by rfl) ?_)
 simp only [eqK_i,decide_true]
 refine condK_t (condK_t (condK_t (condK_t (condK_t ?_))))
 have g911:=g10.trans g11
 refine runK_i (run_str ((OwnR.sl ob1).grow (((g4.trans g5).trans g6).trans (g69.trans g911)) (by decide) fun _ _ h=>h) (by unfold ByteL;decide)) ?_
 rw [t1,seqK_i,decide_eq_true rfl]
 refine condK_t ?_
 refine runK_i (run_str ((OwnR.sl ob2).grow ((g8.trans g9).trans g911) (by decide) fun _ _ h=>h) (by unfold ByteL;decide)) ?_
 rw [t2,seqK_i,decide_eq_true rfl]
 refine condK_t ?_
 refine runK_i (run_str ((OwnR.sl ob3).grow g11 (by decide) fun _ _ h=>h) (by unfold ByteL;decide)) ?_
 rw [t3,seqK_i,decide_eq_true rfl]
 refine condK_t ?_
 refine callK_mono (rsame_dops hx (hM.grow g911)) ?_
 rintro _ w12 ⟨rfl,g12⟩
 exact ⟨by rw [decide_eq_true rfl],(g09.trans g911).trans g12⟩
end Go.Proofs.YtgmpbihbdbmhoaaGreatDoor

namespace Go.Proofs.YtgmpbihbdbmhoaaGreatDoor
open Go Go.K

theorem keys_pos {keys ks:List DKey} (hM:MayKeys keys) (hp:ks.Perm keys):∀ k ∈ ks,0≤k.id:=fun k hk=>by
 have:=(mayk_iff.1 hM).2.1 k (hp.mem_iff.1 hk)
 unfold KeyOK at this;omega
end Go.Proofs.YtgmpbihbdbmhoaaGreatDoor

namespace Go.Proofs.YtgmpbihbdbmhoaaGreatDoor
open Go Go.K

theorem encV_byte {v:AVal} (h:RepV v):ByteL (encV v):=by
 have hk:=h.kind
 intro z hz
 unfold encV at hz
 rcases List.mem_append.1 hz with hz | hz
 ·exact uv_byte (by omega) z hz
 ·rcases h with ⟨h1,h2,_⟩ | ⟨h1,_,h2,_⟩ | ⟨h1,_,_,h2⟩
  ·rw [if_pos h1] at hz
   exact uv_byte (zigN_lt h2.1 h2.2) z hz
  ·rw [if_neg (by omega),if_pos h1] at hz
   exact uv_byte (by omega) z hz
  ·rw [if_neg (by omega),if_neg (by omega),if_pos h1] at hz
   rcases List.mem_append.1 hz with hz | hz
   ·exact uv_byte (by omega) z hz
   ·exact bytesL_byte _ z hz
theorem flat_byte {α:Type} {f:α→List Int} {R:α→Prop} (h:∀ a,R a→ByteL (f a)) {l:List α} (hl:RepM R l):ByteL (encM f l):=by
 intro z hz
 unfold encM at hz
 rcases List.mem_append.1 hz with hz | hz
 ·exact uv_byte (by have:=hl.1;omega) z hz
 ·obtain ⟨a,ha,hz⟩:=List.mem_flatMap.1 hz
  exact h a (hl.2 a ha) z hz
theorem key_byte {k:Int} (h:Key63 k):ByteL (uv k.toNat):=fun z hz=>uv_byte (by unfold Key63 at h;omega) z hz
theorem encAt_byte {a:Attr} (h:RepA a):ByteL (encAt a):=fun z hz=>by
 rcases List.mem_append.1 hz with hz | hz
 ·exact key_byte h.1 z hz
 ·exact encV_byte h.2 z hz
theorem encCh_byte {a:Chg} (h:RepC a):ByteL (encCh a):=fun z hz=>by
 rcases List.mem_append.1 hz with hz | hz
 ·exact key_byte h.1 z hz
 ·rcases h.2 with ⟨hg,_⟩ | ⟨hg,hv⟩
  ·rw [hg] at hz;exact uv_byte (n:=0) (by omega) z hz
  ·rw [hg] at hz;exact encV_byte hv z hz
theorem textR_byte {l:List Int} (h:∀ r ∈ l,MayR r):ByteL (textR l):=fun z hz=>by
 obtain ⟨a,ha,hz⟩:=List.mem_flatMap.1 hz
 exact oneB_byte (h a ha) z hz
theorem encOp_byte {o:Dop} (h:RepO o):ByteL (encOp o):=fun z hz=>by
 have hk:=RepO.kind h
 unfold encOp at hz
 rcases List.mem_append.1 hz with hz | hz
 ·exact uv_byte (by omega) z hz
 ·rcases h with ⟨h1,h2,h3,h4,h5⟩ | ⟨h1,h2,h3,h4,h5,h6⟩ | ⟨h1,h2,h3,h4,h5⟩
  ·rw [if_pos h1] at hz
   rcases List.mem_append.1 hz with hz | hz
   ·exact uv_byte (by omega) z hz
   ·exact flat_byte (fun a (h:RepC a)=>encCh_byte h) h5 z hz
  ·rw [if_neg (by omega),if_pos h1] at hz
   rcases List.mem_append.1 hz with hz | hz
   ·unfold encX at hz
    rcases List.mem_append.1 hz with hz | hz
    ·exact uv_byte (by omega) z hz
    ·exact textR_byte h3 z hz
   ·exact flat_byte (fun a (h:RepA a)=>encAt_byte h) h5 z hz
  ·rw [if_neg (by omega),if_neg (by omega),if_pos h1] at hz
   exact uv_byte (by omega) z hz
theorem encL_byte {x:List Dop} (h:RepM RepO x):ByteL (encL x):=flat_byte (fun a (h:RepO a)=>encOp_byte h) h
theorem strOf_inj {a b:List Int} (ha:ByteL a) (hb:ByteL b):strOf a=strOf b↔a=b:=
 ⟨fun h=>by rw [←bytesL_strOf ha,h,bytesL_strOf hb],fun h=>by rw [h]⟩
end Go.Proofs.YtgmpbihbdbmhoaaGreatDoor

namespace Go.Proofs.YtgmpbihbdbmhoaaGreatDoor
open Go Go.K

def digs:List Int→Nat
 | []=>0
 | x :: t=>(x % 128).toNat+128 * digs t
theorem digs_snoc (l:List Int) (x:Int):digs (l++[x])=digs l+128 ^ l.length * (x % 128).toNat:=by
 induction l with
 | nil=>simp [digs]
 | cons y l ih=>simp only [List.cons_append,digs,ih,List.length_cons,Nat.pow_succ,Nat.mul_add,Nat.mul_assoc,Nat.mul_left_comm];omega
theorem uvB_shape:∀ (f n:Nat),n < 128 ^ (f+1)→∃ (pre:List Int) (z:Int),uvB f n=pre++[z]∧(∀ x ∈ pre,128≤x)∧z < 128∧pre.length≤f∧digs (uvB f n)=n:=by
 intro f
 induction f with
 | zero=>intro n hn;exact ⟨[],n,rfl,by simp,by omega,Nat.le_refl _,by simp [uvB,digs];omega⟩
 | succ f ih=>
  intro n hn
  by_cases h:n≤127
  ·rw [uvB_small h]
   exact ⟨[],n,rfl,by simp,by omega,by simp,by simp [digs];omega⟩
  ·rw [uvB_great (by omega)]
   obtain ⟨pre,z,e1,e2,e3,e4,e5⟩:=ih (n / 128) (Nat.div_lt_of_lt_mul (by rw [Nat.pow_succ] at hn;omega))
   refine ⟨((n % 128+128:Nat):Int) :: pre,z,by rw [e1];rfl,fun x hx=>?_,e3,by simp;omega,?_⟩
   ·rcases List.mem_cons.1 hx with rfl | hx
    ·omega
    ·exact e2 x hx
   ·simp only [digs,e5]
    omega
theorem uv_shape {n:Nat} (hn:n < 18446744073709551616):∃ (pre:List Int) (z:Int),uv n=pre++[z]∧(∀ x ∈ pre,128≤x)∧z < 128∧pre.length≤9∧digs (uv n)=n:=by
 have e128:(128:Nat) ^ (9+1)=1180591620717411303424:=by decide
 exact uvB_shape 9 n (by omega)
theorem uv_end {n i:Nat} {l t:List Int} (hn:n < 18446744073709551616) (e:l=uv n++t) (hi:i < l.length) (hg:∀ x ∈ l.take i,128≤x) (hx:l[i] < 128):uv n=l.take (i+1):=by
 obtain ⟨pre,z,e1,e2,e3,_,_⟩:=uv_shape hn
 have hpl:pre.length=i:=by
  have hz:l[pre.length]?=some z:=by rw [e,e1];simp
  rcases Nat.lt_trichotomy pre.length i with h | h | h
  ·have hm:z ∈ l.take i:=List.mem_iff_getElem?.2 ⟨pre.length,by rw [List.getElem?_take_of_lt h];exact hz⟩
   have:=hg z hm;omega
  ·exact h
  ·have:l[i]?=pre[i]?:=by rw [e,e1,List.append_assoc,List.getElem?_append_left h]
   rw [List.getElem?_eq_getElem hi,List.getElem?_eq_getElem h] at this
   have h1:=e2 _ (List.getElem_mem h)
   have h2:=Option.some.inj this
   omega
 rw [e,e1,←hpl]
 exact (List.take_left' (by simp)).symm
theorem uv_long {n i:Nat} {l t:List Int} (hn:n < 18446744073709551616) (e:l=uv n++t) (hi:i=l.length∨10≤i) (hg:∀ x ∈ l.take i,128≤x):False:=by
 obtain ⟨pre,z,e1,e2,e3,e4,_⟩:=uv_shape hn
 have hz:l[pre.length]?=some z:=by rw [e,e1];simp
 have hlt:pre.length < l.length:=(List.getElem?_eq_some_iff.1 hz).1
 have h:pre.length < i:=by omega
 have hm:z ∈ l.take i:=List.mem_iff_getElem?.2 ⟨pre.length,by rw [List.getElem?_take_of_lt h];exact hz⟩
 have:=hg z hm;omega
theorem wrapN (a:Nat):IntKind.u64.wrap (a:Int)=((a % 18446744073709551616:Nat):Int):=by
 rw [wrapu64_mod];omega
set_option maxRecDepth 4000 in
theorem duint_ok {S:Nat→Prop} {v:Value} {b:List Int} {p:Nat} {w:World} (h:RBytes S w v b) (hb:∀ x ∈ b,0≤x∧x < 256) (hp:p≤b.length) (hl:b.length≤1099511627776) :
  callK Tryz.prog 73 [v,.int .i64 p] (fun v' w'=>Grow w w'∧((∃ (n:Nat) (t:List Int),v'=.tuple #[.int .u64 n,.int .i64 ((b.length - t.length:Nat):Int),.int .i64 0]∧uvR 9 true (b.drop p)=some (n,t))∨(v'=.tuple #[.int .u64 0,.int .i64 0,.int .i64 3]∧uvR 9 true (b.drop p)=none))) w:=by
 apply S73_ok
 unfold S73
 obtain ⟨a,c,rfl,hm⟩:=h.shape
 refine JoinK_i (fun _ W=>W=w) ?_ ?_
 rotate_left
 ·rw [ltK_i]
  refine condK_p (fun e=>by omega) fun _=>?_
  rw [lenK_i,gtK_i]
  exact condK_p (fun e=>by omega) fun _=>rfl
 rintro _ _ rfl _
 rename World=>w
 have hbd:∀ x ∈ b.drop p,0≤x∧x < 256:=fun x hx=>hb x (List.mem_of_mem_drop hx)
 have hdl:(b.drop p).length=b.length - p:=List.length_drop
 have none':∀ i,(i=(b.drop p).length∨10≤i)→(∀ x ∈ (b.drop p).take i,128≤x)→uvR 9 true (b.drop p)=none:=fun i hi hg=>by
  cases hr:uvR 9 true (b.drop p) with
  | none=>rfl
  | some r=>
   obtain ⟨n,t⟩:=r
   obtain ⟨e,hn⟩:=read_uv hbd hr
   exact (uv_long hn e hi hg).elim
 refine LoopK_i (fun vs W=>∃ i:Nat,i≤10∧i≤b.length - p∧vs=[.int .u64 ((digs ((b.drop p).take i) % 18446744073709551616:Nat):Int),.int .u64 ((128 ^ i % 18446744073709551616:Nat):Int),.int .i64 i]∧W=w∧∀ x ∈ (b.drop p).take i,128≤x) (fun vs _=>10 - iOf vs 2) ⟨0,by omega,by omega,rfl,rfl,by simp⟩ ?_
 rintro vs W ⟨i,h10,hi,rfl,rfl,hg⟩ _
 rename World=>w
 simp only [nth_s,nth_z,List.headD_cons,List.tail_cons]
 refine JoinK_i (fun _ W=>W=w∧i < 10∧i < b.length - p) ?_ ?_
 rotate_left
 ·rw [ltK_i]
  refine condK_p (fun e1=>?_) fun e1=>⟨Mod.refl _ _,.inr ⟨by trivial,none' i (.inr (by omega)) hg⟩⟩
  rw [addK_i,wrap64 (by omega) (by omega),lenK_i,ltK_i]
  exact condK_p (fun e2=>⟨rfl,by omega,by omega⟩) fun e2=>⟨Mod.refl _ _,.inr ⟨by trivial,none' i (.inl (by omega)) hg⟩⟩
 rintro _ _ ⟨rfl,hi10,hip⟩ _
 rename World=>w
 rw [addK_i,wrap64 (by omega) (by omega),show ((p:Int)+(i:Int))=((p+i:Nat):Int) by omega]
 have hpi:p+i < b.length:=by omega
 obtain ⟨q,r,e,_,_,hc,rfl⟩:=h.get hpi
 subst e
 refine ixK_n hpi ?_
 refine ld1K_i (by have:=hc 0 _ rfl;exact this) ?_
 have hid:i < (b.drop p).length:=by omega
 have hxe:(b.drop p)[i]=b[p+i]:=by rw [List.getElem_drop]
 have hx:=hb _ (List.getElem_mem hpi)
 have htk:(b.drop p).take (i+1)=(b.drop p).take i++[b[p+i]]:=by
  rw [List.take_add_one,List.getElem?_eq_getElem hid,hxe];rfl
 have hds:digs ((b.drop p).take (i+1))=digs ((b.drop p).take i)+128 ^ i * (b[p+i] % 128).toNat:=by
  rw [htk,digs_snoc,List.length_take]
  congr 3
  omega
 have hlt1:uv 0=[0]:=by rfl
 generalize hx0:b[p+i]=x at hx htk hds hxe
 refine rem_i (by decide) ?_
 rw [Int.tmod_eq_emod_of_nonneg hx.1]
 refine conv8_u64 (by omega) (by omega) ?_
 obtain ⟨d,hd⟩:∃ d:Nat,x % 128=d:=⟨(x % 128).toNat,by omega⟩
 have hd2:(x % 128).toNat=d:=by omega
 rw [hd2] at hds
 rw [hd,mulK_i,addK_i,mulK_i]
 have e1:IntKind.u64.wrap (((digs ((b.drop p).take i) % 18446744073709551616:Nat):Int)+IntKind.u64.wrap ((d:Int) * ((128 ^ i % 18446744073709551616:Nat):Int)))=((digs ((b.drop p).take (i+1)) % 18446744073709551616:Nat):Int):=by
  have a1:(d:Int) * ((128 ^ i % 18446744073709551616:Nat):Int)=((d * (128 ^ i % 18446744073709551616):Nat):Int):=(Int.natCast_mul _ _).symm
  rw [a1,wrapN]
  have a2:((digs ((b.drop p).take i) % 18446744073709551616:Nat):Int)+((d * (128 ^ i % 18446744073709551616) % 18446744073709551616:Nat):Int)=((digs ((b.drop p).take i) % 18446744073709551616+d * (128 ^ i % 18446744073709551616) % 18446744073709551616:Nat):Int):=by omega
  rw [a2,wrapN,hds]
  congr 1
  rw [←Nat.add_mod,Nat.add_mod,Nat.mul_mod_mod,←Nat.add_mod,Nat.mul_comm d]
 have e2:IntKind.u64.wrap (((128 ^ i % 18446744073709551616:Nat):Int) * 128)=((128 ^ (i+1) % 18446744073709551616:Nat):Int):=by
  have a1:((128 ^ i % 18446744073709551616:Nat):Int) * 128=(((128 ^ i % 18446744073709551616) * 128:Nat):Int):=by generalize 128 ^ i % 18446744073709551616=s;omega
  rw [a1,wrapN,Nat.mod_mul_mod,Nat.pow_succ]
 rw [e1,e2,ltK_i]
 refine condK_p (fun hs=>?_) fun hs=>?_
 rotate_left
 ·rw [addK_i,loop_step (by omega)]
  refine ⟨⟨i+1,by omega,by omega,rfl,rfl,fun y hy=>?_⟩,by rw [iOf2,iOf2];omega⟩
  rw [htk] at hy
  rcases List.mem_append.1 hy with hy | hy
  ·exact hg y hy
  ·rw [List.mem_singleton.1 hy];omega
 have hN:digs ((b.drop p).take (i+1)) % 18446744073709551616 < 18446744073709551616:=Nat.mod_lt _ (by decide)
 obtain ⟨N,hNe⟩:∃ N,N=digs ((b.drop p).take (i+1)) % 18446744073709551616:=⟨_,rfl⟩
 rw [←hNe] at hN ⊢
 refine callK_mono (form_bytes hN) ?_
 rintro fv w7 ⟨of,gf⟩
 have gd:Grow w7 w7.drew:=Mod.drew _ _
 have gall:∀ {l:List Nat} {k:Nat} {W:World},Mod (ButM l (fun _ _=>False) k) w7.drew W→Grow w7 W:=fun m=>gd.trans (m.mono fun _ _ ⟨_,_,_,e⟩=>e)
 have gall':∀ {l:List Nat} {W:World},Mod (AllM l (fun _ _=>False)) w7.drew W→Grow w7 W:=fun m=>gd.trans (m.mono fun _ _ ⟨_,_,e⟩=>e)
 have hT:ByteL ((b.drop p).take (i+1)):=fun y hy=>hbd y (List.mem_of_mem_take hy)
 have hU:ByteL (uv N):=uv_byte hN
 have add1:∀ {k:Value→Prop},k (.int .i64 ((p+i+1:Nat):Int))→addK .i64 (.int .i64 (p:Int)) (.int .i64 (i:Int)) fun t57=>addK .i64 t57 (.int .i64 1) k:=fun {k} hk=>by
  rw [addK_i,addK_i,wrap64 (x:=(p:Int)+i) (by omega) (by omega),wrap64 (by omega) (by omega)]
  rw [show ((p:Int)+i+1)=((p+i+1:Nat):Int) by omega]
  exact hk
 have hcut:(b.take (p+i+1)).drop p=(b.drop p).take (i+1):=by rw [List.drop_take];congr 1;omega
 refine ⟨fun j t W=>(j=1→t=.string (strOf (uv N)))∧(j=8→RBytes S W t ((b.drop p).take (i+1)))∧(j=9→t=.string (strOf ((b.drop p).take (i+1)))),fun _ _=>False,fun _ _ _ _ _ _ _ _ _ h m=>⟨h.1,fun e=>(h.2.1 e).grow m (by decide) fun _ _ h=>h,h.2.2⟩,?_⟩
 refine ⟨fun W m=>add1 ?_,fun W m=>add1 ?_,fun W m=>add1 ?_,fun W m=>?_⟩
 ·exact runK_i (run_str ((OwnR.sl of).grow (gall m) (by decide) fun _ _ h=>h) hU) ⟨Mod.refl _ _,by simp⟩
 ·refine slice_lh (e:=5) (k:=1) (i:=Tryz.t5) (by kernel_rfl) (by kernel_rfl) rfl (h.grow (gf.trans (gall m)) (by decide) fun _ _ h=>h) (by omega) (by omega) fun v2 h2=>⟨Mod.refl _ _,by simp,fun _=>?_,by simp⟩
  rw [hcut] at h2;exact h2
 ·rintro _ h8
  exact runK_i (run_str (h8.2.1 rfl) hT) ⟨Mod.refl _ _,by simp⟩
 ·rintro _ h1
  obtain rfl:=h1.1 rfl
  refine add1 ?_
  rintro _ h8 _ h9
  obtain rfl:=h9.2.2 rfl
  have gW:=gf.trans (gall' m)
  rw [sneK_i]
  refine condK_neg (fun e=>?_) fun e=>?_
  ·have e':=(strOf_inj hU hT).1 e
   refine add1 ?_
   have hsplit:b.drop p=uv N++(b.drop p).drop (i+1):=by rw [e',List.take_append_drop]
   refine ⟨gW,.inl ⟨N,(b.drop p).drop (i+1),?_,?_⟩⟩
   ·rw [List.length_drop,hdl,show b.length - (b.length - p - (i+1))=p+i+1 by omega]
   ·have hr:=uv_read ((b.drop p).drop (i+1)) hN
    rw [←hsplit] at hr;exact hr
  ·refine ⟨gW,.inr ⟨by trivial,?_⟩⟩
   cases hr:uvR 9 true (b.drop p) with
   | none=>rfl
   | some r=>
    obtain ⟨n,t⟩:=r
    obtain ⟨e3,hn⟩:=read_uv hbd hr
    have e4:=uv_end hn e3 hid hg (by rw [hxe];exact hs)
    obtain ⟨_,_,_,_,_,_,e5⟩:=uv_shape hn
    rw [e4] at e5
    have e6:N=n:=by rw [hNe,e5];exact Nat.mod_eq_of_lt hn
    exact (e ((strOf_inj hU hT).2 (by rw [e6,e4]))).elim
end Go.Proofs.YtgmpbihbdbmhoaaGreatDoor

namespace Go.Proofs.YtgmpbihbdbmhoaaGreatDoor
open Go Go.K

theorem dbat_ok {S:Nat→Prop} {v:Value} {b:List Int} {p:Nat} {w:World} (h:RBytes S w v b) (hb:∀ x ∈ b,0≤x∧x < 256) (hp:p≤b.length) (hl:b.length≤1099511627776) :
  callK Tryz.prog 76 [v,.int .i64 p,.int .i64 b.length] (fun v' w'=>Grow w w'∧((∃ (x:List Int) (q:Nat) (xv:Value),v'=.tuple #[xv,.int .i64 q,.int .i64 0]∧OBytes w.heap.size w' xv x∧p≤q∧q≤b.length∧b.drop p=encX x++b.drop q)∨
   ((∃ x y,v'=.tuple #[x,y,.int .i64 3])∧∀ x t,x.length < 9223372036854775808→b.drop p≠encX x++t))) w:=by
 apply S76_ok
 unfold S76
 obtain ⟨a,c,rfl,hm⟩:=h.shape
 refine callK_mono (duint_ok h hb hp hl) ?_
 have hbd:∀ x ∈ b.drop p,0≤x∧x < 256:=fun x hx=>hb x (List.mem_of_mem_drop hx)
 rintro _ w1 ⟨g1,⟨n,t,rfl,he⟩ | ⟨rfl,he⟩⟩
 rotate_left
 ·refine extK_i (vs:=[_,_,_]) rfl (extK_i (vs:=[_,_,_]) rfl (extK_i (vs:=[_,_,_]) rfl ?_))
  have bad:∀ x t,x.length < 9223372036854775808→b.drop p≠encX x++t:=fun x t hx e=>by
   unfold encX at e
   rw [List.append_assoc] at e
   rw [e,uv_read _ (by omega)] at he
   cases he
  rw [neK_i]
  exact condK_neg (fun e=>by cases e) fun _=>⟨g1,.inr ⟨⟨_,_,rfl⟩,bad⟩⟩
 refine extK_i (vs:=[_,_,_]) rfl (extK_i (vs:=[_,_,_]) rfl (extK_i (vs:=[_,_,_]) rfl ?_))
 obtain ⟨hd,hn⟩:=read_uv hbd he
 obtain ⟨s1,s2,s3⟩:=drop_suf hp hd
 rw [s1]
 generalize hq:p+(uv n).length=q0 at *
 have ht:t.length=b.length - q0:=by rw [←s3,List.length_drop]
 have bad:b.length - q0 < n→∀ x t,x.length < 9223372036854775808→b.drop p≠encX x++t:=fun hlt x t' hx e=>by
  unfold encX at e
  rw [List.append_assoc,hd] at e
  obtain ⟨e1,e2⟩:=uv_pre hn (by omega) e
  have:=congrArg List.length e2
  rw [List.length_append] at this
  omega
 rw [neK_i]
 refine condK_neg (fun _=>?_) fun e=>(e rfl).elim
 refine JoinK_i (fun _ W=>W=w1∧n≤b.length - q0) ?_ ?_
 ·rintro _ _ ⟨rfl,hle⟩ _
  rename World=>w1
  refine ⟨#[],by kernel_rfl,?_⟩
  have ga:Grow w1 (w1.alloc (.cells #[] 5)):=Mod.alloc _ _ _
  have cv:∀ {K:Cont} {W:World},K (.int .i64 (n:Nat)) W→runK Tryz.prog (convert 57 3 (.int .u64 n)) K W:=fun {K W} hK=>conv_i64 (by omega) hK
  have e:(q0:Int)+(n:Int)=((q0+n:Nat):Int):=by push_cast;rfl
  refine cv ?_
  rw [addK_i,wrap64 (by omega) (by omega),e]
  have h2:=h.grow (g1.trans ga) (by decide) fun _ _ h=>h
  refine slice_lh (e:=5) (k:=1) (i:=Tryz.t5) (by kernel_rfl) (by kernel_rfl) rfl h2 (by omega) (by omega) fun v2 h2=>?_
  have hl2:((b.take (q0+n)).drop q0).length=n:=by rw [List.length_drop,List.length_take];omega
  obtain ⟨xv,w5,hrun,ho5,g5,hn5⟩:=append_new (ty:=31) (b:=w1.heap.size) elem_byte (by show (Array.push _ _)[_]?=_;exact Array.getElem?_push_size) h2 (fun _ _ _=>RByte.one) (by omega) (fun _ _ _ _ h=>h)
  refine runK_i hrun (cv ?_)
  rw [addK_i,wrap64 (by omega) (by omega),e]
  refine ⟨(g1.trans ga).trans g5,.inl ⟨_,q0+n,xv,rfl,OBytes.low ho5 g1.size,by omega,by omega,?_⟩⟩
  unfold encX
  rw [hl2,hd,List.append_assoc,←s3,List.drop_take]
  refine congrArg (fun z=>uv n++z) ?_
  have e3:b.drop (q0+n)=(b.drop q0).drop n:=by rw [List.drop_drop]
  rw [e3,show q0+n - q0=n by omega,List.take_append_drop]
 ·rw [ltK_i]
  refine condK_p (fun e=>by omega) fun _=>?_
  refine conv_64 (by omega) ?_
  rw [gtK_i]
  refine condK_p (fun e=>⟨g1,.inr ⟨⟨_,_,rfl⟩,bad (by omega)⟩⟩) fun e=>?_
  rw [lenK_i,subK_i,wrap64 (by omega) (by omega),show ((b.length:Int) - (q0:Nat))=((b.length - q0:Nat):Int) by omega]
  refine conv_64 (by omega) ?_
  rw [gtK_i]
  exact condK_p (fun e=>⟨g1,.inr ⟨⟨_,_,rfl⟩,bad (by omega)⟩⟩) fun e=>⟨rfl,by omega⟩
section
variable {b:List Int} {p q r:Nat} {bad bad1 bad2:Bool}
theorem RdP.cut {n n' most small:Nat} (hs:small≤most) (hM:most < 18446744073709551616) (x:RdP uv (fun n=>n≤most) b p bad n q bad1):(n≤small→RdP uv (fun n=>n≤small) b p bad n q bad1)∧(¬ n≤small→RdP uv (fun n=>n≤small) b p bad n' q true):=by
 constructor
 ·intro h
  exact ⟨x.le,x.len,x.stays,fun e=>⟨h,(x.sound e).2⟩,fun e c t hc ht=>x.full e c t (Nat.le_trans hc hs) ht⟩
 ·intro h
  refine ⟨x.le,x.len,fun _=>rfl,fun e=>(by cases e),fun e c t hc ht=>?_⟩
  obtain ⟨_,x2⟩:=x.sound (x.full e c t (Nat.le_trans hc hs) ht)
  obtain ⟨hn,_⟩:=x.sound (x.full e c t (Nat.le_trans hc hs) ht)
  rw [ht] at x2
  have:=(uv_pre (by omega) (by omega) x2).1
  omega
theorem RdP.lt {n:Nat} (x:RdP uv (fun n=>n≤18446744073709551615) b p bad n q bad1):RdP uv (fun n=>n < 18446744073709551616) b p bad n q bad1:=
 x.map (fun h=>⟨by omega,rfl⟩) fun z hz=>⟨z,by omega,rfl⟩
end
section
variable {S:Nat→Prop} {W W':World} {c:Nat} {bv:Value} {b:List Int} {p q:Nat} {bad:Bool}
variable (hb:∀ x ∈ b,0≤x∧x < 256) (hl:b.length≤1099511627776)
include hb hl
theorem mnum_ok (h:RdS S W c bv b p bad) :
  callK Tryz.prog 32 [.pointer (some ⟨c,0,none⟩)] (fun v w'=>∃ (n q:Nat) (bad1:Bool),v=.int .u64 n∧n≤18446744073709551615∧RdS S w' c bv b q bad1∧Mod (fun z=>z=c) W w'∧RdP uv (fun n=>n≤18446744073709551615) b p bad n q bad1) W:=by
 apply S32_ok
 unfold S32
 have gd:Grow W W.drew:=Mod.drew _ _
 have hd:=h.grow gd
 refine drawC_i (fun _ _=>False) ?_
 refine nilckK_s ?_
 rw [faK_i,addr0]
 refine sld1_i ⟨hd.c0,fun _ _ h=>h⟩ ?_
 refine nilckK_s ?_
 rw [faK_i,addr0]
 refine sld1_i ⟨hd.c1,fun _ _ h=>h⟩ ?_
 refine callK_mono (duint_ok hd.row hb h.len hl) ?_
 have hbd:∀ x ∈ b.drop p,0≤x∧x < 256:=fun x hx=>hb x (List.mem_of_mem_drop hx)
 rintro _ w1 ⟨g1,⟨n,t,rfl,he⟩ | ⟨rfl,he⟩⟩
 ·refine ⟨g1.mono fun _ _ e=>e.elim,?_⟩
  refine extK_i (vs:=[_,_,_]) rfl (extK_i (vs:=[_,_,_]) rfl (extK_i (vs:=[_,_,_]) rfl ?_))
  obtain ⟨hdr,hn⟩:=read_uv hbd he
  obtain ⟨s1,s2,s3⟩:=drop_suf h.len hdr
  rw [s1,neK_i]
  refine condK_neg (fun _=>?_) fun e=>(e rfl).elim
  exact (hd.grow g1).move s2 fun W' h' m'=>⟨n,_,bad,rfl,by omega,h',((gd.trans g1).mono fun _ _ e=>e.elim).trans m',RdP.ok (by omega) s2 (by omega) (by rw [s3];exact hdr)⟩
 ·refine ⟨g1.mono fun _ _ e=>e.elim,?_⟩
  refine extK_i (vs:=[_,_,_]) rfl (extK_i (vs:=[_,_,_]) rfl (extK_i (vs:=[_,_,_]) rfl ?_))
  rw [neK_i]
  refine condK_neg (fun e=>by cases e) fun _=>(hd.grow g1).bads fun W' h' m'=>⟨0,p,true,rfl,Nat.zero_le _,h',((gd.trans g1).mono fun _ _ e=>e.elim).trans m',RdP.no h.len fun n' t' hn' e'=>?_⟩
  rw [e',uv_read _ (by omega)] at he
  cases he
theorem mtext_ok (h:RdS S W c bv b p bad) :
  callK Tryz.prog 37 [.pointer (some ⟨c,0,none⟩)] (fun v w'=>∃ (x:List Int) (q:Nat) (bad1:Bool),RBytes (fun z=>W.heap.size≤z) w' v x∧(∀ z ∈ x,0≤z∧z < 256)∧x.length≤b.length∧RdS S w' c bv b q bad1∧Mod (fun z=>z=c) W w'∧RdP encX (fun x=>x.length < 9223372036854775808) b p bad x q bad1) W:=by
 apply S37_ok
 unfold S37
 have gd:Grow W W.drew:=Mod.drew _ _
 have hd:=h.grow gd
 obtain ⟨a,n,ebv,_⟩:=h.row.shape
 refine drawC_i (fun _ _=>False) ?_
 refine nilckK_s ?_
 rw [faK_i,addr0]
 refine sld1_i ⟨hd.c0,fun _ _ h=>h⟩ ?_
 refine nilckK_s ?_
 rw [faK_i,addr0]
 refine sld1_i ⟨hd.c1,fun _ _ h=>h⟩ ?_
 refine nilckK_s ?_
 rw [faK_i,addr0]
 refine sld1_i ⟨hd.c0,fun _ _ h=>h⟩ ?_
 have hlen:∀ {k:Value→Prop},k (.int .i64 b.length)→lenK bv k:=fun {k} hk=>by subst ebv;rw [lenK_i];exact hk
 refine hlen ?_
 refine callK_mono (dbat_ok hd.row hb h.len hl) ?_
 have hbd:∀ x ∈ b.drop p,0≤x∧x < 256:=fun x hx=>hb x (List.mem_of_mem_drop hx)
 rintro _ w1 ⟨g1,⟨x,q,xv,rfl,o1,hpq,hq,he⟩ | ⟨⟨x,y,rfl⟩,he⟩⟩
 ·refine ⟨g1.mono fun _ _ e=>e.elim,?_⟩
  refine extK_i (vs:=[_,_,_]) rfl (extK_i (vs:=[_,_,_]) rfl (extK_i (vs:=[_,_,_]) rfl ?_))
  rw [neK_i]
  refine condK_neg (fun _=>?_) fun e=>(e rfl).elim
  have hxl:=congrArg List.length he
  unfold encX at hxl
  rw [List.length_append,List.length_append,List.length_drop,List.length_drop] at hxl
  have hlt:=h.lt
  refine (hd.grow g1).move hq fun W' h' m'=>⟨x,q,bad,?_,fun z hz=>hbd z ?_,by omega,h',((gd.trans g1).mono fun _ _ e=>e.elim).trans m',RdP.ok hpq hq (show x.length < _ by omega) he⟩
  ·refine (SlR.sub (OwnR.sl o1) (fun z _ hz=>hz.1) (by decide) fun _ _ h=>h).mod m' (fun z _ hz e=>?_) (by decide) fun _ _ h=>h
   subst e
   have:W.drew.heap.size=W.heap.size:=rfl
   omega
  ·rw [he];unfold encX
   exact List.mem_append_left _ (List.mem_append_right _ hz)
 ·refine ⟨g1.mono fun _ _ e=>e.elim,?_⟩
  refine extK_i (vs:=[_,_,_]) rfl (extK_i (vs:=[_,_,_]) rfl (extK_i (vs:=[_,_,_]) rfl ?_))
  rw [neK_i]
  refine condK_neg (fun e=>by cases e) fun _=>(hd.grow g1).bads fun W' h' m'=>⟨[],p,true,SlR.nil,by simp,by simp,h',((gd.trans g1).mono fun _ _ e=>e.elim).trans m',RdP.no h.len fun x t hx e=>he x t hx e⟩
theorem msmall_ok (h:RdS S W c bv b p bad) :
  callK Tryz.prog 33 [.pointer (some ⟨c,0,none⟩)] (fun v w'=>∃ (n q:Nat) (bad1:Bool),v=.int .i64 n∧RdS S w' c bv b q bad1∧Mod (fun z=>z=c) W w'∧RdP uv (fun n=>n≤1073741824) b p bad n q bad1) W:=by
 apply S33_ok
 unfold S33
 refine callK_mono (mnum_ok hb hl h) ?_
 rintro _ w1 ⟨n,q,bad1,rfl,hn,h1,m1,r1⟩
 obtain ⟨c1,c2⟩:=r1.cut (n':=0) (small:=1073741824) (by decide) (by decide)
 rw [gtK_i]
 refine condK_p (fun e=>h1.bads fun w2 h2 m2=>⟨0,q,true,rfl,h2,m1.trans m2,c2 (by omega)⟩) fun e=>?_
 exact conv_i64 (by omega) ⟨n,q,bad1,rfl,h1,m1,c1 (by omega)⟩
theorem mkey_ok (h:RdS S W c bv b p bad) :
  callK Tryz.prog 34 [.pointer (some ⟨c,0,none⟩)] (fun v w'=>∃ (n q:Nat) (bad1:Bool),v=.int .i64 n∧RdS S w' c bv b q bad1∧Mod (fun z=>z=c) W w'∧RdP uv (fun n=>n≤9223372036854775807) b p bad n q bad1) W:=by
 apply S34_ok
 unfold S34
 refine callK_mono (mnum_ok hb hl h) ?_
 rintro _ w1 ⟨n,q,bad1,rfl,hn,h1,m1,r1⟩
 obtain ⟨c1,c2⟩:=r1.cut (n':=0) (small:=9223372036854775807) (by decide) (by decide)
 rw [geK_i]
 refine condK_p (fun e=>h1.bads fun w2 h2 m2=>⟨0,q,true,rfl,h2,m1.trans m2,c2 (by omega)⟩) fun e=>?_
 exact conv_i64 (by omega) ⟨n,q,bad1,rfl,h1,m1,c1 (by omega)⟩
theorem mval_ok {k:Nat} (h:RdS S W c bv b p bad) (hk:k≤18446744073709551615) :
  callK Tryz.prog 35 [.pointer (some ⟨c,0,none⟩),.int .u64 k] (fun v w'=>∃ (x:AVal) (q:Nat) (bad1:Bool),v=.agg x.cells.toArray∧RdS S w' c bv b q bad1∧Mod (fun z=>z=c) W w'∧RdV k b p bad x q bad1) W:=by
 apply S35_ok
 unfold S35
 have hlt:=h.lt
 refine BoxN.new fun g w1 hg hz g1 b1=>?_
 have h1:=h.grow g1
 have m01:Mod (fun z=>z=c) W w1:=g1.mono fun _ _ e=>e.elim
 have out:∀ {x:AVal} {w2:World} {q:Nat} {bad1:Bool},RdS S w2 c bv b q bad1→Mod (fun z=>z=c) w1 w2→RdV k b p bad x q bad1→stnK 4 (.pointer (some ⟨g,0,none⟩)) (.agg x.cells.toArray) (fun w6=>ldnK 4 (.pointer (some ⟨g,0,none⟩)) (fun v w'=>∃ (x:AVal) (q:Nat) (bad1:Bool),v=.agg x.cells.toArray∧RdS S w' c bv b q bad1∧Mod (fun z=>z=c) W w'∧RdV k b p bad x q bad1) w6) w2:=fun {x w2 q bad1} h2 m2 r2=>
  (b1.mod m2 (by omega)).stn (n:=4) (us:=x.cells) rfl rfl (AVal.one x) fun w3 b3 m3=>b3.ld (n:=4) rfl ⟨x,q,bad1,rfl,h2.mod m3 fun z hz e=>by omega,(m01.trans m2).next m3 fun z hz e=>by omega,r2⟩
 refine JoinK_i (fun vs W2=>W2=w1∧∃ B:Bool,vs=[.bool B]∧(B=true↔(k=1∨k=2))) ?_ ?_
 rotate_left
 ·rw [eqK_i]
  refine condK_p (fun e=>⟨rfl,_,rfl,by rw [decide_eq_true_eq];omega⟩) fun n1=>?_
  rw [eqK_i]
  exact ⟨rfl,_,rfl,by rw [decide_eq_true_eq];omega⟩
 rintro _ _ ⟨rfl,B,rfl,hB⟩ _
 rename World=>w1
 simp only [nth_z,List.headD_cons]
 refine condK_bb (fun e=>?_) fun e=>?_
 ·have h12:=hB.1 e
  refine conv_u8n (by omega) ?_
  refine callK_mono (mnum_ok hb hl h1) ?_
  rintro _ w2 ⟨n,q,bad1,rfl,hn,h2,m2,r2⟩
  refine callK_mono (back_ok (by omega)) ?_
  rintro _ _ ⟨rfl,rfl⟩
  refine ⟨(⟨k,unzig n,0,⟨#[]⟩⟩:AVal).cells.toArray,by kernel_rfl,?_⟩
  exact out h2 m2 (RdV.int h12 (by omega) r2.lt)
 ·have h12:¬ (k=1∨k=2):=fun h=>by rw [hB.2 h] at e;cases e
  rw [eqK_i]
  refine condK_p (fun e3=>?_) fun e3=>?_
  ·have ek:k=3:=by omega
   subst ek
   refine callK_mono (mnum_ok hb hl h1) ?_
   rintro _ w2 ⟨n,q,bad1,rfl,hn,h2,m2,r2⟩
   refine ⟨(⟨3,0,n,⟨#[]⟩⟩:AVal).cells.toArray,by kernel_rfl,?_⟩
   exact out h2 m2 (RdV.float r2)
  ·rw [eqK_i]
   refine condK_p (fun e4=>?_) fun e4=>?_
   ·have ek:k=4:=by omega
    subst ek
    refine callK_mono (mtext_ok hb hl h1) ?_
    rintro v w2 ⟨x,q,bad1,rx,hx,hxl,h2,m2,r2⟩
    refine runK_i (run_str rx hx) ?_
    refine ⟨(⟨4,0,0,strOf x⟩:AVal).cells.toArray,by kernel_rfl,?_⟩
    exact out h2 m2 (RdV.text (bytesL_strOf hx) r2)
   ·refine h1.bads fun w2 h2 m2=>?_
    refine ⟨(⟨0,0,0,⟨#[]⟩⟩:AVal).cells.toArray,by kernel_rfl,?_⟩
    exact out h2 m2 (RdV.bads h.len (by omega))
end
end Go.Proofs.YtgmpbihbdbmhoaaGreatDoor

namespace Go.Proofs.YtgmpbihbdbmhoaaGreatDoor
open Go Go.K

theorem BoxN.stn_at {W:World} {g n o:Nat} {pre old us:List Value} {K:World→Prop} (h:BoxN W g (pre++old)) (hp:pre.length=o) (ho:old.length=n) (hu:us.length=n) (h1:∀ v ∈ us,v.oneCell'=true)
  (hK:∀ W',BoxN W' g (pre++us)→Mod (fun z=>z=g) W W'→K W'):faK o (.pointer (some ⟨g,0,none⟩)) fun q=>stnK n q (.agg us.toArray) K W:=by
 rw [faK_i,addr0]
 have hlen:(pre++old).length=o+n:=by rw [List.length_append,hp,ho]
 have hl:∀ j,0≤j→j < 0+us.length→Live W ⟨g,o+j,none⟩:=fun j _ hj=>h.live (o+j) (by omega)
 obtain ⟨s1,s2,s3,s4⟩:=setL_at us 0 W hl
 refine ⟨_,us,rfl,rfl,hu,h1,fun j hj=>?_,hK _ ⟨fun j u hj=>?_,fun j hj=>s4 _ (h.live j (by rw [List.length_append] at hj ⊢;omega))⟩ s1⟩
 ·rw [addr_at]
  exact hl j (Nat.zero_le _) (by omega)
 ·by_cases hjo:j < o
  ·rw [s3 j (.inl (by omega))]
   rw [List.getElem?_append_left (by omega)] at hj
   exact h.cells j u (by rw [List.getElem?_append_left (by omega)];exact hj)
  ·rw [List.getElem?_append_right (by omega)] at hj
   have:=s2 (j - pre.length) u hj
   rw [show o+0+(j - pre.length)=j by omega] at this
   exact this
section
variable {S:Nat→Prop} {W W':World} {c:Nat} {bv:Value} {b:List Int} {p q:Nat} {bad:Bool}
variable (hb:∀ x ∈ b,0≤x∧x < 256) (hl:b.length≤1048576)
include hb hl
set_option maxRecDepth 4000 in
theorem chgs_ok {k0 n0 rv sv:Value} {n g9 p0:Nat} {bad0:Bool} {J:List Value→World→Prop} (h:RdS S W c bv b p bad) (hx:BoxN W g9 [k0,n0,rv,sv,.slice none 0 0]) (hcg:c < g9) (hgW:g9 < W.heap.size) (hn:n≤18446744073709551615) (rn:RdP uv (fun n=>n≤18446744073709551615) b p0 bad0 n p bad)
  (hJ:∀ W' pv l q bad1,BoxN W' g9 [k0,n0,rv,sv,pv]→OwnR W.heap.size 63 6 RChg W' pv l→RdS S W' c bv b q bad1→Mod (fun z=>z=c∨z=g9) W W'→RdP (encM encCh) (RepM RepC) b p0 bad0 l q bad1→J [] W') :
 LoopK [.int .u64 n] (fun vs_6 again_1 w23=>∀ _h_6:Env,
 JoinK (fun _vs_7 w24=>∀ _h_7:Env,
 callK Tryz.prog 34 [(.pointer (some ⟨c,0,none⟩))] (fun t62 w25=>
 buildK [(0,1),(1,1),(2,4)] [(.int .i64 0),(.bool false),(.int .u8 0),(.int .i64 0),(.int .u64 0),(.string (ByteArray.mk #[]))] [(0,t62)] fun t63=>
 newK 63 [(.int .i64 0),(.bool false),(.int .u8 0),(.int .i64 0),(.int .u64 0),(.string (ByteArray.mk #[]))] (fun t12 w26=>
 stnK 6 t12 t63 (fun w27=>
 callK Tryz.prog 32 [(.pointer (some ⟨c,0,none⟩))] (fun t65 w28=>
 JoinK (fun _vs_8 w29=>∀ _h_8:Env,
 faK 4 (.pointer (some ⟨g9,0,none⟩)) fun t73=>
 ld1K t73 (fun t74 w30=>
 ldnK 6 t12 (fun t75 w31=>
 rowK 63 6 1 [(.int .i64 0),(.bool false),(.int .u8 0),(.int .i64 0),(.int .u64 0),(.string (ByteArray.mk #[]))] [(0,t75)] (fun t76 w32=>
 runK Tryz.prog (Builtin.append_ #[54,54] 54 [t74,t76].toArray) (fun t77 w33=>
 faK 4 (.pointer (some ⟨g9,0,none⟩)) fun t78=>
 st1K t78 t77 (fun w34=>
 subK .u64 (nth vs_6 0) (.int .u64 1) fun t60=>
 again_1 [t60] w34) w33) w32) w31) w30) w29) (fun J_6=>
 eqK .u64 t65 (.int .u64 0) fun t67=>
 condK t67
 (faK 1 t12 fun t68=>
 st1K t68 (.bool true) (fun w35=>
 J_6 [] w35) w28)
 (callK Tryz.prog 35 [(.pointer (some ⟨c,0,none⟩)),t65] (fun t71 w36=>
 faK 2 t12 fun t72=>
 stnK 4 t72 t71 (fun w37=>
 J_6 [] w37) w36) w28))) w27) w26) w25) w24) (fun J_5=>
 gtK .u64 (nth vs_6 0) (.int .u64 0) fun t51=>
 condK t51
 (nilckK (.pointer (some ⟨c,0,none⟩)) fun t54=>
 faK 2 t54 fun t55=>
 ld1K t55 (fun t56 w38=>
 notK t56 fun t57=>
 condK t57
 (J_5 [] w38)
 (J [] w38)) w23)
 (J [] w23))) W:=by
 refine LoopK_i (fun vs W1=>∃ (l:List Chg) (q:Nat) (bad1:Bool) (m:Nat) (pv:Value),vs=[.int .u64 m]∧RdL encCh RepC b p bad n l q bad1∧l.length+m=n∧RdS S W1 c bv b q bad1∧BoxN W1 g9 [k0,n0,rv,sv,pv]∧OwnR W.heap.size 63 6 RChg W1 pv l∧Mod (fun z=>z=c∨z=g9) W W1) (fun vs _=>iOf vs 0)
  ⟨[],p,bad,n,.slice none 0 0,rfl,RdL.nil h.len,by simp,h,hx,OwnR.nil,Mod.refl _ _⟩ ?_
 rintro vs W1 ⟨l,q,bad1,m,pv,rfl,hL,hlm,hR,hx1,ho,hM⟩ _
 simp only [nth_z,List.headD_cons]
 have s1:=hM.size
 refine JoinK_i (fun _ W'=>W'=W1∧0 < m∧bad1=false) ?_ ?_
 rotate_left
 ·have out:(bad1=false→l.length=n)→J [] W1:=fun e=>hJ W1 pv l q bad1 hx1 ho hR hM (RdL.done encCh_pos (by omega) rn hL e (by omega) (by decide))
  rw [gtK_i]
  refine condK_p (fun hm=>?_) fun hm=>out fun _=>by omega
  refine nilckK_s ?_
  rw [faK_i,addr0]
  refine ld1K_i hR.c2 ?_
  rw [notK_i]
  refine condK_bb (fun e=>⟨rfl,by omega,by simpa using e⟩) fun e=>out fun e'=>?_
  rw [e'] at e
  cases e
 rintro _ _ ⟨rfl,hm,rfl⟩ _
 rename World=>W1
 have hll:l.length≤b.length:=by
  have h1:=congrArg List.length (hL.sound rfl).2
  have h2:=flat_len_le encCh_pos l
  rw [List.length_append,List.length_drop] at h1
  omega
 refine callK_mono (mkey_ok hb (by omega) hR) ?_
 rintro _ w2 ⟨key,q2,bad2,rfl,h2,m2,r1⟩
 refine ⟨(⟨key,false,AVal.zero⟩:Chg).cells.toArray,by kernel_rfl,?_⟩
 have s2:=m2.size
 refine newst_n (n:=6) (vs:=(⟨key,false,AVal.zero⟩:Chg).cells) rfl rfl (RChg.one (w:=w2) rfl) fun g12 w3 hg12 hz3 gr3 hcc3 hl3=>?_
 have b12:BoxN w3 g12 (⟨key,false,AVal.zero⟩:Chg).cells:=⟨fun j u hu=>by have:=hcc3 j u hu;rwa [addr0] at this,fun j hj=>by have:=hl3 j hj;rwa [addr0] at this⟩
 refine callK_mono (mnum_ok hb (by omega) (h2.grow gr3)) ?_
 rintro _ w4 ⟨k,q4,bad4,rfl,hk,h4,m4,r4⟩
 have m13:Mod (fun z=>z=c) W1 w3:=m2.trans (gr3.mono fun _ _ e=>e.elim)
 have s3:=gr3.size
 have fin:∀ (a:Chg) {W5:World} {q3:Nat} {bad3:Bool},BoxN W5 g12 a.cells→RdS S W5 c bv b q3 bad3→Mod (fun z=>z=c∨z=g12) w3 W5→RdP encCh RepC b q false a q3 bad3→
   faK 4 (.pointer (some ⟨g9,0,none⟩)) fun t73=>ld1K t73 (fun t74 w30=>ldnK 6 (.pointer (some ⟨g12,0,none⟩)) (fun t75 w31=>rowK 63 6 1 [(.int .i64 0),(.bool false),(.int .u8 0),(.int .i64 0),(.int .u64 0),(.string (ByteArray.mk #[]))] [(0,t75)] (fun t76 w32=>runK Tryz.prog (Builtin.append_ #[54,54] 54 [t74,t76].toArray) (fun t77 w33=>
    faK 4 (.pointer (some ⟨g9,0,none⟩)) fun t78=>st1K t78 t77 (fun w34=>subK .u64 (.int .u64 m) (.int .u64 1) fun t60=>(∃ (l:List Chg) (q:Nat) (bad1:Bool) (m:Nat) (pv:Value),[t60]=[.int .u64 m]∧RdL encCh RepC b p bad n l q bad1∧l.length+m=n∧RdS S w34 c bv b q bad1∧BoxN w34 g9 [k0,n0,rv,sv,pv]∧OwnR W.heap.size 63 6 RChg w34 pv l∧Mod (fun z=>z=c∨z=g9) W w34)∧iOf [t60] 0 < iOf [.int .u64 (m:Int)] 0) w33) w32) w31) w30) W5:=by
  intro a W5 q3 bad3 b5 h5 m5 r5
  have s5:=m5.size
  have m15:Mod (fun z=>z=c) W1 W5:=m13.next m5 fun z hz e=>by omega
  have x5:=hx1.mod m15 (by omega)
  rw [faK_i,addr0]
  refine ld1K_i (x5.cells 4 _ rfl) ?_
  refine b5.ld (n:=6) rfl ?_
  have nc:∀ g,pv.ownBlock=some g→W.heap.size≤g∧g < W1.heap.size:=fun g hg=>OwnR.ownB ho g hg
  have ho5:OwnR W.heap.size 63 6 RChg W5 pv l:=OwnR.mod ho m15 (fun g hg e=>by have:=(nc g hg).1;omega) fun _ _ _ h=>h
  have s15:=m15.size
  refine push_g (cs:=a.cells) (x:=a) elem_chg ho5 (by omega) (by kernel_rfl) rfl rfl (fun _ _ _=>RChg.one) (fun _ _ _ _ _ _ h=>h) (by omega) (by simp only [maxLen];omega) fun v6 W6 o6 m6 own6=>?_
  have x6:=x5.mod m6 fun e=>by have:=(nc g9 e).1;omega
  have h6:=h5.mod m6 fun z hz e=>by have:=(nc z e).1;omega
  have one:=OwnR.one o6
  refine x6.st (by simp) one.1 one.2 fun W7 x7 m7=>?_
  have h7:=h6.mod m7 fun z hz e=>by omega
  have n6:∀ g,v6.ownBlock=some g→W.heap.size≤g:=fun g hg=>(OwnR.ownB o6 g hg).1
  have hM7:Mod (fun z=>z=c∨z=g9) W W7:=((hM.trans (m15.mono fun z _ e=>.inl e)).next m6 fun z hz e=>by have:=(nc z e).1;omega).next m7 fun z hz e=>.inr e
  rw [subK_i,wrapu64 ⟨by omega,by omega⟩,show ((m:Int) - 1)=((m - 1:Nat):Int) by omega]
  exact ⟨⟨l++[a],q3,bad3,m - 1,v6,rfl,hL.snoc pf_chg (by omega) r5,by rw [List.length_append,List.length_singleton];omega,h7,x7,OwnR.mod o6 m7 (fun g hg e=>by have:=n6 g hg;omega) fun _ _ _ h=>h,hM7⟩,by rw [iOf0,iOf0];omega⟩
 refine JoinK_i (fun _ W'=>∃ (a:Chg) (q3:Nat) (bad3:Bool),BoxN W' g12 a.cells∧RdS S W' c bv b q3 bad3∧Mod (fun z=>z=c∨z=g12) w3 W'∧RdP encCh RepC b q false a q3 bad3) ?_ ?_
 ·rintro _ W5 ⟨a,q3,bad3,b5,h5,m5,r5⟩ _
  exact fin a b5 h5 m5 r5
 ·rw [eqK_i]
  refine condK_p (fun e=>?_) fun e=>?_
  ·have ek:k=0:=by omega
   subst ek
   refine (b12.mod m4 (by omega)).st (by simp [Chg.cells,AVal.cells]) rfl rfl fun W5 b5 m5=>?_
   exact ⟨⟨key,true,AVal.zero⟩,q4,bad4,b5,h4.mod m5 fun z hz e=>by omega,(m4.mono fun z _ e=>.inl e).trans (m5.mono fun z _ e=>.inr e),RdP.change r1 (RdP.tail (c:=(true,AVal.zero)) r4 (RdP.gone h4.len))⟩
  ·refine callK_mono (mval_ok hb (by omega) h4 hk) ?_
   rintro _ W5 ⟨v,q5,bad5,rfl,h5,m5,r5⟩
   have b5:=b12.mod (m4.trans m5) (by omega)
   refine BoxN.stn_at (pre:=[.int .i64 key,.bool false]) (old:=AVal.zero.cells) (us:=v.cells) b5 rfl rfl rfl (AVal.one v) fun W6 b6 m6=>?_
   exact ⟨⟨key,false,v⟩,q5,bad5,b6,h5.mod m6 fun z hz e=>by omega,((m4.trans m5).mono fun z _ e=>.inl e).trans (m6.mono fun z _ e=>.inr e),RdP.change r1 (RdP.tail (c:=(false,v)) r4 (RdV.kept (by omega) r5))⟩
set_option maxRecDepth 4000 in
theorem attrs_ok {k0 n0 rv sv:Value} {n g9 p0:Nat} {bad0:Bool} {J:List Value→World→Prop} (h:RdS S W c bv b p bad) (hx:BoxN W g9 [k0,n0,rv,.slice none 0 0,sv]) (hcg:c < g9) (hgW:g9 < W.heap.size) (hn:n≤18446744073709551615) (rn:RdP uv (fun n=>n≤18446744073709551615) b p0 bad0 n p bad)
  (hJ:∀ W' pv l q bad1,BoxN W' g9 [k0,n0,rv,pv,sv]→OwnR W.heap.size 61 5 RAttr W' pv l→RdS S W' c bv b q bad1→Mod (fun z=>z=c∨z=g9) W W'→RdP (encM encAt) (RepM RepA) b p0 bad0 l q bad1→J [] W') :
 LoopK [.int .u64 n] (fun vs_6 again_1 w23=>∀ _h_6:Env,
 JoinK (fun _vs_7 w24=>∀ _h_7:Env,
 callK Tryz.prog 34 [(.pointer (some ⟨c,0,none⟩))] (fun t62 w25=>
 buildK [(0,1),(1,4)] [(.int .i64 0),(.int .u8 0),(.int .i64 0),(.int .u64 0),(.string (ByteArray.mk #[]))] [(0,t62)] fun t63=>
 newK 61 [(.int .i64 0),(.int .u8 0),(.int .i64 0),(.int .u64 0),(.string (ByteArray.mk #[]))] (fun t12 w26=>
 stnK 5 t12 t63 (fun w27=>
 callK Tryz.prog 32 [(.pointer (some ⟨c,0,none⟩))] (fun t65 w28=>
 callK Tryz.prog 35 [(.pointer (some ⟨c,0,none⟩)),t65] (fun t114 w51=>
 faK 1 t12 fun t115=>
 stnK 4 t115 t114 (fun w52=>
 faK 3 (.pointer (some ⟨g9,0,none⟩)) fun t116=>
 ld1K t116 (fun t117 w53=>
 ldnK 5 t12 (fun t118 w54=>
 rowK 61 5 1 [(.int .i64 0),(.int .u8 0),(.int .i64 0),(.int .u64 0),(.string (ByteArray.mk #[]))] [(0,t118)] (fun t119 w55=>
 runK Tryz.prog (Builtin.append_ #[53,53] 53 [t117,t119].toArray) (fun t120 w56=>
 faK 3 (.pointer (some ⟨g9,0,none⟩)) fun t121=>
 st1K t121 t120 (fun w57=>
 subK .u64 (nth vs_6 0) (.int .u64 1) fun t107=>
 again_1 [t107] w57) w56) w55) w54) w53) w52) w51) w28) w27) w26) w25) w24) (fun J_5=>
 gtK .u64 (nth vs_6 0) (.int .u64 0) fun t51=>
 condK t51
 (nilckK (.pointer (some ⟨c,0,none⟩)) fun t54=>
 faK 2 t54 fun t55=>
 ld1K t55 (fun t56 w38=>
 notK t56 fun t57=>
 condK t57
 (J_5 [] w38)
 (J [] w38)) w23)
 (J [] w23))) W:=by
 refine LoopK_i (fun vs W1=>∃ (l:List Attr) (q:Nat) (bad1:Bool) (m:Nat) (pv:Value),vs=[.int .u64 m]∧RdL encAt RepA b p bad n l q bad1∧l.length+m=n∧RdS S W1 c bv b q bad1∧BoxN W1 g9 [k0,n0,rv,pv,sv]∧OwnR W.heap.size 61 5 RAttr W1 pv l∧Mod (fun z=>z=c∨z=g9) W W1) (fun vs _=>iOf vs 0)
  ⟨[],p,bad,n,.slice none 0 0,rfl,RdL.nil h.len,by simp,h,hx,OwnR.nil,Mod.refl _ _⟩ ?_
 rintro vs W1 ⟨l,q,bad1,m,pv,rfl,hL,hlm,hR,hx1,ho,hM⟩ _
 simp only [nth_z,List.headD_cons]
 have s1:=hM.size
 refine JoinK_i (fun _ W'=>W'=W1∧0 < m∧bad1=false) ?_ ?_
 rotate_left
 ·have out:(bad1=false→l.length=n)→J [] W1:=fun e=>hJ W1 pv l q bad1 hx1 ho hR hM (RdL.done encAt_pos (by omega) rn hL e (by omega) (by decide))
  rw [gtK_i]
  refine condK_p (fun hm=>?_) fun hm=>out fun _=>by omega
  refine nilckK_s ?_
  rw [faK_i,addr0]
  refine ld1K_i hR.c2 ?_
  rw [notK_i]
  refine condK_bb (fun e=>⟨rfl,by omega,by simpa using e⟩) fun e=>out fun e'=>?_
  rw [e'] at e
  cases e
 rintro _ _ ⟨rfl,hm,rfl⟩ _
 rename World=>W1
 have hll:l.length≤b.length:=by
  have h1:=congrArg List.length (hL.sound rfl).2
  have h2:=flat_len_le encAt_pos l
  rw [List.length_append,List.length_drop] at h1
  omega
 refine callK_mono (mkey_ok hb (by omega) hR) ?_
 rintro _ w2 ⟨key,q2,bad2,rfl,h2,m2,r1⟩
 refine ⟨(⟨key,AVal.zero⟩:Attr).cells.toArray,by kernel_rfl,?_⟩
 have s2:=m2.size
 refine newst_n (n:=5) (vs:=(⟨key,AVal.zero⟩:Attr).cells) rfl rfl (RAttr.one (w:=w2) rfl) fun g12 w3 hg12 hz3 gr3 hcc3 hl3=>?_
 have b12:BoxN w3 g12 (⟨key,AVal.zero⟩:Attr).cells:=⟨fun j u hu=>by have:=hcc3 j u hu;rwa [addr0] at this,fun j hj=>by have:=hl3 j hj;rwa [addr0] at this⟩
 refine callK_mono (mnum_ok hb (by omega) (h2.grow gr3)) ?_
 rintro _ w4 ⟨k,q4,bad4,rfl,hk,h4,m4,r4⟩
 have m13:Mod (fun z=>z=c) W1 w3:=m2.trans (gr3.mono fun _ _ e=>e.elim)
 have s3:=gr3.size
 have fin:∀ (a:Attr) {W5:World} {q3:Nat} {bad3:Bool},BoxN W5 g12 a.cells→RdS S W5 c bv b q3 bad3→Mod (fun z=>z=c∨z=g12) w3 W5→RdP encAt RepA b q false a q3 bad3→
   faK 3 (.pointer (some ⟨g9,0,none⟩)) fun t73=>ld1K t73 (fun t74 w30=>ldnK 5 (.pointer (some ⟨g12,0,none⟩)) (fun t75 w31=>rowK 61 5 1 [(.int .i64 0),(.int .u8 0),(.int .i64 0),(.int .u64 0),(.string (ByteArray.mk #[]))] [(0,t75)] (fun t76 w32=>runK Tryz.prog (Builtin.append_ #[53,53] 53 [t74,t76].toArray) (fun t77 w33=>
    faK 3 (.pointer (some ⟨g9,0,none⟩)) fun t78=>st1K t78 t77 (fun w34=>subK .u64 (.int .u64 m) (.int .u64 1) fun t60=>(∃ (l:List Attr) (q:Nat) (bad1:Bool) (m:Nat) (pv:Value),[t60]=[.int .u64 m]∧RdL encAt RepA b p bad n l q bad1∧l.length+m=n∧RdS S w34 c bv b q bad1∧BoxN w34 g9 [k0,n0,rv,pv,sv]∧OwnR W.heap.size 61 5 RAttr w34 pv l∧Mod (fun z=>z=c∨z=g9) W w34)∧iOf [t60] 0 < iOf [.int .u64 (m:Int)] 0) w33) w32) w31) w30) W5:=by
  intro a W5 q3 bad3 b5 h5 m5 r5
  have s5:=m5.size
  have m15:Mod (fun z=>z=c) W1 W5:=m13.next m5 fun z hz e=>by omega
  have x5:=hx1.mod m15 (by omega)
  rw [faK_i,addr0]
  refine ld1K_i (x5.cells 3 _ rfl) ?_
  refine b5.ld (n:=5) rfl ?_
  have nc:∀ g,pv.ownBlock=some g→W.heap.size≤g∧g < W1.heap.size:=fun g hg=>OwnR.ownB ho g hg
  have ho5:OwnR W.heap.size 61 5 RAttr W5 pv l:=OwnR.mod ho m15 (fun g hg e=>by have:=(nc g hg).1;omega) fun _ _ _ h=>h
  have s15:=m15.size
  refine push_g (cs:=a.cells) (x:=a) elem_attr ho5 (by omega) (by kernel_rfl) rfl rfl (fun _ _ _=>RAttr.one) (fun _ _ _ _ _ _ h=>h) (by omega) (by simp only [maxLen];omega) fun v6 W6 o6 m6 own6=>?_
  have x6:=x5.mod m6 fun e=>by have:=(nc g9 e).1;omega
  have h6:=h5.mod m6 fun z hz e=>by have:=(nc z e).1;omega
  have one:=OwnR.one o6
  refine x6.st (by simp) one.1 one.2 fun W7 x7 m7=>?_
  have h7:=h6.mod m7 fun z hz e=>by omega
  have n6:∀ g,v6.ownBlock=some g→W.heap.size≤g:=fun g hg=>(OwnR.ownB o6 g hg).1
  have hM7:Mod (fun z=>z=c∨z=g9) W W7:=((hM.trans (m15.mono fun z _ e=>.inl e)).next m6 fun z hz e=>by have:=(nc z e).1;omega).next m7 fun z hz e=>.inr e
  rw [subK_i,wrapu64 ⟨by omega,by omega⟩,show ((m:Int) - 1)=((m - 1:Nat):Int) by omega]
  exact ⟨⟨l++[a],q3,bad3,m - 1,v6,rfl,hL.snoc pf_attr (by omega) r5,by rw [List.length_append,List.length_singleton];omega,h7,x7,OwnR.mod o6 m7 (fun g hg e=>by have:=n6 g hg;omega) fun _ _ _ h=>h,hM7⟩,by rw [iOf0,iOf0];omega⟩
 refine callK_mono (mval_ok hb (by omega) h4 hk) ?_
 rintro _ W5 ⟨v,q5,bad5,rfl,h5,m5,r5⟩
 have b5:=b12.mod (m4.trans m5) (by omega)
 refine BoxN.stn_at (pre:=[.int .i64 key]) (old:=AVal.zero.cells) (us:=v.cells) b5 rfl rfl rfl (AVal.one v) fun W6 b6 m6=>?_
 exact fin ⟨key,v⟩ b6 (h5.mod m6 fun z hz e=>by omega) (((m4.trans m5).mono fun z _ e=>.inl e).trans (m6.mono fun z _ e=>.inr e)) (RdP.attr r1 (RdP.value r4 r5))
end
end Go.Proofs.YtgmpbihbdbmhoaaGreatDoor

namespace Go.Proofs.YtgmpbihbdbmhoaaGreatDoor
open Go Go.K

theorem FormO.len {o:Dop} (h:FormO o) (hr:RepOm 1073741824 o):RepO o:=by
 rcases hr with ⟨h1,h2,h3⟩ | h | ⟨h1,h2,h3⟩
 ·rcases h with ⟨_,_,_,_,g⟩ | ⟨g,_⟩ | ⟨g,_⟩
  ·exact .inl ⟨h1,⟨h2.1,g⟩,h3⟩
  ·omega
  ·omega
 ·exact .inr (.inl h)
 ·rcases h with ⟨g,_⟩ | ⟨_,_,_,_,_,g⟩ | ⟨g,_⟩
  ·omega
  ·exact .inr (.inr ⟨h1,⟨h2.1,g⟩,h3⟩)
  ·omega
theorem RepO.more {o:Dop} (h:RepO o):RepOm 1073741824 o:=by
 rcases h with ⟨h1,h2,h3⟩ | h | ⟨h1,h2,h3⟩
 ·exact .inl ⟨h1,⟨h2.1,by omega⟩,h3⟩
 ·exact .inr (.inl h)
 ·exact .inr (.inr ⟨h1,⟨h2.1,by omega⟩,h3⟩)
set_option maxRecDepth 4000 in
theorem rdecode_ok {S Sk:Nat→Prop} {kv bv:Value} {keys:List DKey} {b:List Int} {w:World} (hk:RKeys Sk w kv keys) (h:RBytes S w bv b) (hb:∀ x ∈ b,0≤x∧x < 256) (hl:b.length≤1048576) :
  callK Tryz.prog 13 [kv,bv] (fun v' w'=>Grow w w'∧∃ xv,v'=.tuple #[xv,.int .i64 (decB keys b).2]∧RDops (fun z=>w.heap.size≤z) (fun z=>w.heap.size≤z) w' xv (decB keys b).1) w:=by
 apply S13_ok
 unfold S13
 have hl':b.length≤1099511627776:=by omega
 have hsh:=h.shape
 obtain ⟨a,n,ebv,_⟩:=hsh
 refine ⟨#[bv,.int .i64 0,.bool false],by subst ebv;kernel_rfl,?_⟩
 refine boxn_i (vs:=[bv,.int .i64 0,.bool false]) fun c w1 hc hz g1 hcell hlive=>?_
 have k1:∀ j u,[bv,.int .i64 0,.bool false][j]?=some u→w1.cell? ⟨c,j,none⟩=some u:=fun j u hu=>by have:=hcell j u hu;rwa [addr0] at this
 have k2:∀ j,j < 3→Live w1 ⟨c,j,none⟩:=fun j hj=>by have:=hlive j (by simpa using hj);rwa [addr0] at this
 have hr:RdS (fun z=>z < w.heap.size) w1 c bv b 0 false:=
  ⟨k1 0 _ rfl,k1 1 _ rfl,k1 2 _ rfl,k2 1 (by decide),k2 2 (by decide),h.mono (fun z hz _=>hz) (fun z hz _=>g1.same z hz fun h=>h) (by decide) fun _ _ h=>h,fun z hz=>by omega,Nat.zero_le _⟩
 have s1:=g1.size
 refine JoinK_i (fun vs W=>∃ (xv:Value) (x:List Dop) (q:Nat) (bad:Bool),vs=[xv]∧OwnR w1.heap.size 56 5 (RApart (fun z=>w1.heap.size≤z) xv) W xv x∧RdS (fun z=>z < w.heap.size) W c bv b q bad∧Mod (fun z=>z=c) w1 W∧RdP (encM encOp) (RepM (RepOm 1073741824)) b 0 false x q bad) ?_ ?_
 ·rintro _ w2 ⟨xv,x,q,bad,rfl,o2,h2,m2,r2⟩ _
  simp only [nth_z,List.headD_cons]
  have s2:=m2.size
  have g02:Grow w w2:=g1.next m2 fun z hz e=>by omega
  have hx2:RDops (fun z=>w.heap.size≤z) (fun z=>w.heap.size≤z) w2 xv x:=SlR.sub (OwnR.sl o2) (fun z _ hz=>by have:=hz.1;omega) (by decide) fun r y hy=>RDop.mod hy (Mod.refl (fun _=>False) _) (fun _ _ _ h=>h) fun z _ hz=>by have:=hz.2;omega
  have nil3:∀ {w3:World},Grow w w3→decB keys b=([],3)→Grow w w3∧∃ yv,(.tuple #[.slice none 0 0,.int .i64 3]:Value)=.tuple #[yv,.int .i64 (decB keys b).2]∧RDops (fun z=>w.heap.size≤z) (fun z=>w.heap.size≤z) w3 yv (decB keys b).1:=fun g e=>⟨g,_,by rw [e],by rw [e];exact SlR.nil⟩
  have pfm:PF (encM encOp) (RepM (RepOm 1073741824)):=(pf_op (by decide)).many
  refine JoinK_i (fun _ W=>W=w2∧bad=false∧q=b.length) ?_ ?_
  ·rintro _ _ ⟨rfl,rfl,rfl⟩ _
   rename World=>w2
   obtain ⟨hrep,hd⟩:=r2.sound rfl
   rw [List.drop_zero,List.drop_length,List.append_nil] at hd
   have he:encL x=b:=hd.symm
   have hm:mDops x≤(encL x).length:=encL_size hrep
   rw [he] at hm
   have same:∀ y,RepM RepO y→encL y=b→y=x:=fun y hy hey=>(pfm y x [] [] ⟨hy.1,fun o ho=>(hy.2 o ho).more⟩ hrep (by rw [List.append_nil,List.append_nil];exact hey.trans he.symm)).1
   refine callK_mono (mayops_ok (hk.grow g02 (by decide) fun _ _ h=>h) hx2 (by omega)) ?_
   rintro _ w3 ⟨rfl,g3⟩
   have fin:∀ {w4:World},Grow w3 w4→mayOps keys x≠3→rof x=x→neK .i64 (.int .i64 (mayOps keys x)) (.int .i64 0) fun t156=>condK t156
     (Grow w w4∧∃ yv,(.tuple #[.slice none 0 0,.int .i64 (mayOps keys x)]:Value)=.tuple #[yv,.int .i64 (decB keys b).2]∧RDops (fun z=>w.heap.size≤z) (fun z=>w.heap.size≤z) w4 yv (decB keys b).1)
     (Grow w w4∧∃ yv,(.tuple #[xv,.int .i64 0]:Value)=.tuple #[yv,.int .i64 (decB keys b).2]∧RDops (fun z=>w.heap.size≤z) (fun z=>w.heap.size≤z) w4 yv (decB keys b).1):=by
    intro w4 g4 n3 hfix
    have hform:RepM RepO x:=⟨hrep.1,fun o ho=>FormO.len (Classical.byContradiction fun hn=>n3 (by unfold mayOps;rw [if_pos (.inl ⟨o,ho,.inl hn⟩)])) (hrep.2 o ho)⟩
    have hdec:=decB_enc hform n3 hfix
    rw [he] at hdec
    rw [neK_i]
    refine condK_neg (fun e0=>?_) fun e0=>?_
    ·rw [if_pos e0] at hdec
     rw [hdec]
     exact ⟨(g02.trans g3).trans g4,xv,rfl,(hx2.grow g3).grow g4⟩
    ·rw [if_neg e0] at hdec
     rw [hdec]
     exact ⟨(g02.trans g3).trans g4,_,rfl,SlR.nil⟩
   refine JoinK_i (fun _ W=>Grow w3 W∧mayOps keys x≠3∧rof x=x) (fun _ W ⟨g,h3,hf⟩ _=>fin g h3 hf) ?_
   rw [eqK_i]
   refine condK_p (fun e=>nil3 (g02.trans g3) (decB_none fun y hy hey=>.inl (by rw [same y hy hey];exact e))) fun n3=>?_
   refine callK_mono (ris_ok (hx2.grow g3) (by omega)) ?_
   rintro _ w4 ⟨rfl,g4⟩
   rw [notK_i]
   refine condK_bb (fun e=>nil3 ((g02.trans g3).trans g4) (decB_none fun y hy hey=>.inr (by rw [same y hy hey];simpa using e))) fun e=>⟨g4,n3,by simpa using e⟩
  ·have no:¬ (bad=false∧q=b.length)→decB keys b=([],3):=fun hn=>decB_none fun y hy hey=>by
    have hy':RepM (RepOm 1073741824) y:=⟨hy.1,fun o ho=>(hy.2 o ho).more⟩
    have e0:b.drop 0=encM encOp y++[]:=by rw [List.drop_zero,List.append_nil];exact hey.symm
    have hb0:=r2.full rfl y [] hy' e0
    obtain ⟨hrep,hd⟩:=r2.sound hb0
    rw [e0] at hd
    have:=(pfm y x [] _ hy' hrep hd).2
    have hq:=congrArg List.length this
    rw [List.length_drop,List.length_nil] at hq
    have:=h2.len
    exact (hn ⟨hb0,by omega⟩).elim
   refine nilckK_s ?_
   rw [faK_i,addr0]
   refine ld1K_i h2.c2 ?_
   refine condK_bb (fun e=>nil3 g02 (no fun h=>by rw [h.1] at e;cases e)) fun e=>?_
   refine nilckK_s ?_
   rw [faK_i,addr0]
   refine ld1K_i h2.c1 ?_
   have hlen:∀ {k:Value→Prop},k (.int .i64 b.length)→lenK bv k:=fun {k} hk=>by subst ebv;rw [lenK_i];exact hk
   refine hlen ?_
   rw [neK_i]
   exact condK_neg (fun e'=>⟨rfl,e,by omega⟩) fun e'=>nil3 g02 (no fun h=>e' (by rw [h.2]))
 refine callK_mono (mnum_ok hb hl' hr) ?_
 rintro _ w2 ⟨n0,p1,badn,rfl,hn0,h2,m2,rn⟩
 refine LoopK_i (fun vs W1=>∃ (l:List Dop) (q:Nat) (bad1:Bool) (m:Nat) (ov:Value),vs=[ov,.int .u64 m]∧RdL encOp (RepOm 1073741824) b p1 badn n0 l q bad1∧l.length+m=n0∧RdS (fun z=>z < w.heap.size) W1 c bv b q bad1∧OwnR w1.heap.size 56 5 (RApart (fun z=>w1.heap.size≤z) ov) W1 ov l∧Mod (fun z=>z=c) w1 W1) (fun vs _=>iOf vs 1)
  ⟨[],p1,badn,n0,.slice none 0 0,rfl,RdL.nil h2.len,by simp,h2,OwnR.nil,m2⟩ ?_
 rintro vs W1 ⟨l,q,bad1,m,ov,rfl,hL,hlm,hR,ho,hM⟩ _
 simp only [nth_s,nth_z,List.headD_cons,List.tail_cons]
 have sM:=hM.size
 refine JoinK_i (fun _ W'=>W'=W1∧0 < m∧bad1=false) ?_ ?_
 rotate_left
 ·have out:(bad1=false→l.length=n0)→∃ (xv:Value) (x:List Dop) (q:Nat) (bad:Bool),[ov]=[xv]∧OwnR w1.heap.size 56 5 (RApart (fun z=>w1.heap.size≤z) xv) W1 xv x∧RdS (fun z=>z < w.heap.size) W1 c bv b q bad∧Mod (fun z=>z=c) w1 W1∧RdP (encM encOp) (RepM (RepOm 1073741824)) b 0 false x q bad:=fun e=>
   ⟨ov,l,q,bad1,rfl,ho,hR,hM,RdL.done encOp_pos (by omega) rn hL e (by omega) (by decide)⟩
  rw [gtK_i]
  refine condK_p (fun hm=>?_) fun hm=>out fun _=>by omega
  refine nilckK_s ?_
  rw [faK_i,addr0]
  refine ld1K_i hR.c2 ?_
  rw [notK_i]
  refine condK_bb (fun e=>⟨rfl,by omega,by simpa using e⟩) fun e=>out fun e'=>?_
  rw [e'] at e
  cases e
 rintro _ _ ⟨rfl,hm,rfl⟩ _
 rename World=>W1
 have hll:l.length≤b.length:=by
  have h1:=congrArg List.length (hL.sound rfl).2
  have h2:=flat_len_le encOp_pos l
  rw [List.length_append,List.length_drop] at h1
  omega
 refine ⟨(row5 ⟨0,0,[],[],[]⟩ (.slice none 0 0) (.slice none 0 0) (.slice none 0 0)).toArray,by kernel_rfl,?_⟩
 refine newst_n (n:=5) (vs:=row5 ⟨0,0,[],[],[]⟩ (.slice none 0 0) (.slice none 0 0) (.slice none 0 0)) rfl rfl (by simp [row5,Value.oneCell']) fun g9 w3 hg9 hz3 gr3 hcc3 hl3=>?_
 have b3:BoxN w3 g9 [.int .u8 0,.int .i64 0,.slice none 0 0,.slice none 0 0,.slice none 0 0]:=⟨fun j u hu=>by have:=hcc3 j u hu;rwa [addr0] at this,fun j hj=>by have:=hl3 j hj;rwa [addr0] at this⟩
 have s3:=gr3.size
 have hcg:c < g9:=by have:=hR.lt;omega
 refine callK_mono (mnum_ok hb hl' (hR.grow gr3)) ?_
 rintro _ w4 ⟨k,q4,bad4,rfl,hkk,h4,m4,r4⟩
 have s4:=m4.size
 have m14:Mod (fun z=>z=c) W1 w4:=(gr3.mono fun _ _ e=>e.elim).trans m4
 have b4:=b3.mod m4 (by omega)
 obtain ⟨I4,hI4⟩:∃ I4:List Value→World→Prop,I4=(fun _ W'=>∃ (r:List Value) (o:Dop) (q5:Nat) (bad5:Bool),BoxN W' g9 r∧RDop (fun z=>W1.heap.size≤z) W' r o∧RdS (fun z=>z < w.heap.size) W' c bv b q5 bad5∧Mod (fun z=>z=c) W1 W'∧RdP encOp (RepOm 1073741824) b q false o q5 bad5):=⟨_,rfl⟩
 refine JoinK_i I4 ?_ ?_
 ·intro vs5 w5 hi5 _
  rw [hI4] at hi5
  obtain ⟨r,o,q5,bad5,b5,hv,h5,m5,r5⟩:=hi5
  have s5:=m5.size
  have sh:=hv
  obtain ⟨rv,sv,pv,rfl,r1,r2,r3⟩:=sh
  obtain ⟨a1,c1,rfl,_⟩:=r1.shape
  obtain ⟨a2,c2,rfl,_⟩:=r2.shape
  obtain ⟨a3,c3,rfl,_⟩:=r3.shape
  refine b5.ld (n:=5) rfl ?_
  have nc:∀ g,ov.ownBlock=some g→w1.heap.size≤g∧g < W1.heap.size:=fun g hg=>OwnR.ownB ho g hg
  have ho2:OwnR w1.heap.size 56 5 (RDop fun z=>z < w5.heap.size∧ov.ownBlock≠some z∧w1.heap.size≤z) w5 ov l:=OwnR.mod ho m5 (fun g hg e=>by have:=(nc g hg).1;omega) fun r y _ hy=>RDop.mod hy m5 (fun z _ hd e=>by have:=hd.2;omega) fun z hz hd=>⟨by omega,hd⟩
  have hv2:=RDop.mod hv (Mod.refl (fun _=>False) _) (D':=fun z=>z < w5.heap.size∧ov.ownBlock≠some z∧w1.heap.size≤z) (fun _ _ _ h=>h) fun z hz hd=>⟨hz,fun e=>by have:=(nc z e).2;omega,by omega⟩
  refine push_g (cs:=[.int .u8 o.kind,.int .i64 o.n,_,_,_]) (x:=o) elem_dop ho2 (by omega) (by kernel_rfl) rfl hv2 (fun _ _ _=>RDop.one) (fun w1 w2 r y hz m hy=>RDop.mod hy m (fun z _ hd e=>by
    rcases e with e | e
    ·exact hd.2.1 e
    ·have:=hd.1;omega) fun _ _ h=>h) (by omega) (by simp only [maxLen];omega) fun v6 w6 o6 m6 own6=>?_
  have h6:=h5.mod m6 fun z hz e=>by have:=(nc z e).1;omega
  have hM6:Mod (fun z=>z=c) w1 w6:=(hM.trans m5).next m6 fun z hz e=>by have:=(nc z e).1;omega
  rw [subK_i,wrapu64 ⟨by omega,by omega⟩,show ((m:Int) - 1)=((m - 1:Nat):Int) by omega]
  exact ⟨⟨l++[o],q5,bad5,m - 1,v6,rfl,hL.snoc (pf_op (by decide)) (by omega) r5,by rw [List.length_append,List.length_singleton];omega,h6,apart_push o6 own6,hM6⟩,by rw [iOf1,iOf1];omega⟩
 ·rw [eqK_i]
  refine condK_p (fun e=>?_) fun n1=>?_
  ·have ek:k=1:=by omega
   subst ek
   refine b4.st (by simp) rfl rfl fun w5 b5 m5=>?_
   refine callK_mono (msmall_ok hb hl' (h4.mod m5 fun z hz e=>by omega)) ?_
   rintro _ w6 ⟨nn,q6,bad6,rfl,h6,m6,r6⟩
   refine (b5.mod m6 (by omega)).st (by simp) rfl rfl fun w7 b7 m7=>?_
   refine callK_mono (mnum_ok hb hl' (h6.mod m7 fun z hz e=>by omega)) ?_
   rintro _ w8 ⟨cnt,q8,bad8,rfl,hcnt,h8,m8,r8⟩
   have s5:=m5.size
   have s6:=m6.size
   have s7:=m7.size
   have s8:=m8.size
   have m18:Mod (fun z=>z=c) W1 w8:=((((m14.next m5 fun z hz e=>by omega).trans m6).next m7 fun z hz e=>by omega)).trans m8
   refine chgs_ok (J:=I4) hb hl h8 (b7.mod m8 (by omega)) hcg (by omega) hcnt r8 fun W' pv l' q9 bad9 x' o' h' m' r'=>?_
   rw [hI4]
   exact ⟨_,⟨1,nn,[],[],l'⟩,q9,bad9,x',⟨_,_,_,rfl,SlR.nil,SlR.nil,SlR.sub (OwnR.sl o') (fun z _ hz=>by have:=hz.1;omega) (by decide) fun _ _ h=>h⟩,h',m18.next m' fun z hz e=>by omega,RdP.op r4 (RdO.retain (m:=1073741824) (by decide) r6 r')⟩
  rw [eqK_i]
  refine condK_p (fun e=>?_) fun n2=>?_
  ·have ek:k=2:=by omega
   subst ek
   refine b4.st (by simp) rfl rfl fun w5 b5 m5=>?_
   refine callK_mono (mtext_ok hb hl' (h4.mod m5 fun z hz e=>by omega)) ?_
   rintro tv w6 ⟨x,q6,bad6,rx,hxb,hxl,h6,m6,r6⟩
   refine callK_mono (read_ok rx (by omega)) ?_
   rintro v7 w7 ⟨g7,hm7⟩
   have s5:=m5.size
   have s6:=m6.size
   have s7:=g7.size
   have hread:∃ (sl:Value) (rl:List Int) (e:Int),v7=.tuple #[sl,.int .i64 e]∧OwnR w6.heap.size 21 1 RRune w7 sl rl∧((e=0∧RdP encT RepT b q4 bad4 rl q6 bad6)∨(e≠0∧RdP encT RepT b q4 bad4 rl q6 true)):=by
    cases hr7:readB x with
    | some rl=>
     rw [hr7] at hm7
     obtain ⟨sl,e1,osl⟩:=hm7
     exact ⟨sl,rl,0,e1,osl,.inl ⟨rfl,RdP.text hxb r6 hr7⟩⟩
    | none=>
     rw [hr7] at hm7
     exact ⟨_,[],3,hm7,OwnR.nil,.inr ⟨by decide,RdP.text_bad r6 hr7⟩⟩
   obtain ⟨sl,rl,e7,rfl,osl,hcase⟩:=hread
   refine extK_i (vs:=[_,_]) rfl (extK_i (vs:=[_,_]) rfl ?_)
   have h7:=h6.grow g7
   refine JoinK_i (fun _ W'=>∃ badx:Bool,RdS (fun z=>z < w.heap.size) W' c bv b q6 badx∧Mod (fun z=>z=c) w7 W'∧RdP encT RepT b q4 bad4 rl q6 badx) ?_ ?_
   rotate_left
   ·rw [neK_i]
    rcases hcase with ⟨rfl,r5⟩ | ⟨hne,r5⟩
    ·exact condK_neg (fun _=>⟨bad6,h7,Mod.refl _ _,r5⟩) fun e=>(e rfl).elim
    ·exact condK_neg (fun e=>(hne e).elim) fun _=>h7.bads fun w8 h8 m8=>⟨true,h8,m8,r5⟩
   rintro _ w8 ⟨badx,h8,m8,r8⟩ _
   have s8:=m8.size
   have one:=OwnR.one osl
   have osl8:OwnR w6.heap.size 21 1 RRune w8 sl rl:=OwnR.mod osl m8 (fun z hz e=>by have:=(OwnR.ownB osl z hz).1;omega) fun _ _ _ h=>h
   refine (((b5.mod m6 (by omega)).mod g7 fun h=>h).mod m8 (by omega)).st (by simp) one.1 one.2 fun w9 b9 m9=>?_
   have s9:=m9.size
   have osl9:OwnR w6.heap.size 21 1 RRune w9 sl rl:=OwnR.mod osl8 m9 (fun z hz e=>by have:=(OwnR.ownB osl z hz).1;omega) fun _ _ _ h=>h
   refine callK_mono (mnum_ok hb hl' (h8.mod m9 fun z hz e=>by omega)) ?_
   rintro _ w10 ⟨cnt,q10,bad10,rfl,hcnt,h10,m10,r10⟩
   have s10:=m10.size
   have m110:Mod (fun z=>z=c) W1 w10:=(((((m14.next m5 fun z hz e=>by omega).trans m6).trans (g7.mono fun _ _ e=>e.elim)).trans m8).next m9 fun z hz e=>by omega).trans m10
   have osl10:OwnR w6.heap.size 21 1 RRune w10 sl rl:=OwnR.mod osl9 m10 (fun z hz e=>by have:=(OwnR.ownB osl z hz).1;omega) fun _ _ _ h=>h
   refine attrs_ok (J:=I4) hb hl h10 (b9.mod m10 (by omega)) hcg (by omega) hcnt r10 fun W' pv l' q11 bad11 x' o' h' m' r'=>?_
   have osl11:OwnR w6.heap.size 21 1 RRune W' sl rl:=OwnR.mod osl10 m' (fun z hz e=>by have:=(OwnR.ownB osl z hz).1;omega) fun _ _ _ h=>h
   rw [hI4]
   exact ⟨_,⟨2,0,rl,l',[]⟩,q11,bad11,x',⟨_,_,_,rfl,SlR.sub (OwnR.sl osl11) (fun z _ hz=>by have:=hz.1;omega) (by decide) fun _ _ h=>h,SlR.sub (OwnR.sl o') (fun z _ hz=>by have:=hz.1;omega) (by decide) fun _ _ h=>h,SlR.nil⟩,h',m110.next m' fun z hz e=>by omega,RdP.op r4 (RdO.insert (m:=1073741824) r8 r')⟩
  rw [eqK_i]
  refine condK_p (fun e=>?_) fun n3=>?_
  ·have ek:k=3:=by omega
   subst ek
   refine b4.st (by simp) rfl rfl fun w5 b5 m5=>?_
   refine callK_mono (msmall_ok hb hl' (h4.mod m5 fun z hz e=>by omega)) ?_
   rintro _ w6 ⟨nn,q6,bad6,rfl,h6,m6,r6⟩
   refine (b5.mod m6 (by omega)).st (by simp) rfl rfl fun w7 b7 m7=>?_
   rw [hI4]
   exact ⟨_,⟨3,nn,[],[],[]⟩,q6,bad6,b7,⟨_,_,_,rfl,SlR.nil,SlR.nil,SlR.nil⟩,h6.mod m7 fun z hz e=>by omega,((m14.next m5 fun z hz e=>by omega).trans m6).next m7 fun z hz e=>by omega,RdP.op r4 (RdO.delete (m:=1073741824) r6)⟩
  ·refine h4.bads fun w5 h5 m5=>?_
   rw [hI4]
   exact ⟨_,⟨0,0,[],[],[]⟩,q4,true,b4.mod m5 (by omega),⟨_,_,_,rfl,SlR.nil,SlR.nil,SlR.nil⟩,h5,m14.trans m5,RdP.op r4 (RdO.bads (m:=1073741824) h4.len (by omega))⟩
end Go.Proofs.YtgmpbihbdbmhoaaGreatDoor

namespace Go.Proofs.YtgmpbihbdbmhoaaGreatDoor
open Go Go.K

theorem dist_of {ks:List DKey} (h:ks.Pairwise fun x y=>x.id < y.id):Dist ks:=by
 unfold Dist
 exact h.imp fun h=>by omega
end Go.Proofs.YtgmpbihbdbmhoaaGreatDoor

namespace Go.Proofs.YtgmpbihbdbmhoaaGreatDoor
open Go Go.K

theorem mayOps_congr {keys ks:List DKey} (h:∀ id,findK keys id=findK ks id) (x:List Dop):mayOps keys x=mayOps ks x:=by
 have hf:∀ id v,FitsK keys id v↔FitsK ks id v:=fun id v=>by unfold FitsK;rw [h]
 have hs:∀ l,maySet keys l=maySet ks l:=fun l=>by
  have hn:SetNoKey keys l↔SetNoKey ks l:=by
   unfold SetNoKey
   exact ⟨fun ⟨a,h1,h2⟩=>⟨a,h1,fun e=>h2 ((hf _ _).2 e)⟩,fun ⟨a,h1,h2⟩=>⟨a,h1,fun e=>h2 ((hf _ _).1 e)⟩⟩
  unfold maySet
  by_cases hb:SetBad l
  ·rw [if_pos hb,if_pos hb]
  ·rw [if_neg hb,if_neg hb]
   by_cases hk:SetNoKey keys l
   ·rw [if_pos hk,if_pos (hn.1 hk)]
   ·rw [if_neg hk,if_neg fun e=>hk (hn.2 e)]
 have hp:∀ l,mayPat keys l=mayPat ks l:=fun l=>by
  have hn:PatNoKey keys l↔PatNoKey ks l:=by
   unfold PatNoKey
   exact ⟨fun ⟨a,h1,h2⟩=>⟨a,h1,h2.imp (fun e=>by rw [←h];exact e) fun e=>⟨e.1,fun e'=>e.2 ((hf _ _).2 e')⟩⟩,fun ⟨a,h1,h2⟩=>⟨a,h1,h2.imp (fun e=>by rw [h];exact e) fun e=>⟨e.1,fun e'=>e.2 ((hf _ _).1 e')⟩⟩⟩
  unfold mayPat
  by_cases hb:PatBad l
  ·rw [if_pos hb,if_pos hb]
  ·rw [if_neg hb,if_neg hb]
   by_cases hk:PatNoKey keys l
   ·rw [if_pos hk,if_pos (hn.1 hk)]
   ·rw [if_neg hk,if_neg fun e=>hk (hn.2 e)]
 have hob:OpsBad keys x↔OpsBad ks x:=by unfold OpsBad;simp only [hs,hp]
 have hok:OpsNoKey keys x↔OpsNoKey ks x:=by unfold OpsNoKey;simp only [hs,hp]
 unfold mayOps
 by_cases hb:OpsBad keys x
 ·rw [if_pos hb,if_pos (hob.1 hb)]
 ·rw [if_neg hb,if_neg fun e=>hb (hob.2 e)]
  by_cases hk:OpsNoKey keys x
  ·rw [if_pos hk,if_pos (hok.1 hk)]
  ·rw [if_neg hk,if_neg fun e=>hk (hok.2 e)]
theorem decB_congr {keys ks:List DKey} (h:∀ id,findK keys id=findK ks id) (b:List Int):decB keys b=decB ks b:=by
 by_cases hx:∃ x,RepM RepO x∧encL x=b∧mayOps keys x≠3∧rof x=x
 ·obtain ⟨x,h1,h2,h3,h4⟩:=hx
  subst h2
  rw [decB_enc h1 h3 h4,decB_enc h1 (by rw [←mayOps_congr h];exact h3) h4,mayOps_congr h]
 ·rw [decB_none fun x h1 h2=>?_,decB_none fun x h1 h2=>?_]
  ·by_cases h3:mayOps ks x=3
   ·exact .inl h3
   ·exact .inr fun h4=>hx ⟨x,h1,h2,by rw [mayOps_congr h];exact h3,h4⟩
  ·by_cases h3:mayOps keys x=3
   ·exact .inl h3
   ·exact .inr fun h4=>hx ⟨x,h1,h2,h3,h4⟩
theorem CodecWrites_ok {S Sx Dx:Nat→Prop} {kv xv:Value} {keys:List DKey} {x:List Dop} {w:World} (hk:RKeys S w kv keys) (hx:RDops Sx Dx w xv x) (hT:Tabs w)
  (bx:∀ o ∈ x,InB o) (mx:mDops x≤1048576) :
  callK Tryz.prog 3 [kv,xv] (fun v w'=>v=.bool true∧Grow w w') w:=by
 apply S3_ok
 unfold S3
 have kn:∀ {w1},Grow w w1→callK Tryz.prog 7 [] (fun v w'=>v=.bool true∧Grow w w') w1:=fun hg=>callK_mono (known17_ok (hT.grow hg)) fun v w' ⟨e,h⟩=>⟨e,hg.trans h⟩
 refine callK_mono (new_key_ok hk) ?_
 rintro _ w1 ⟨g1,⟨hM,sv,ks,rfl,hp,hpw,hS⟩ | ⟨_,rfl⟩⟩
 rotate_left
 ·refine extK_i (vs:=[_,_]) (by rfl) (extK_i (vs:=[_,_]) (by rfl) ?_)
  refine JoinK_i (fun _ _=>False) (fun _ _ h=>h.elim) ?_
  rw [neK_i]
  exact condK_neg (fun e=>by cases e) fun _=>kn g1
 refine extK_i (vs:=[_,_]) (by rfl) (extK_i (vs:=[_,_]) (by rfl) ?_)
 have hkp:=keys_pos hM hp
 have hkp':=keys_pos hM (List.Perm.refl keys)
 have hfind:∀ id,findK keys id=findK ks id:=fun id=>(findK_perm hp (dist_of hpw) id).symm
 refine JoinK_i (fun _ W=>Grow w1 W∧mDops x≤200) ?_ ?_
 rotate_left
 ·rw [neK_i]
  refine condK_neg (fun _=>?_) fun e=>(e rfl).elim
  refine callK_mono (size_ok (hx.grow g1) (by omega)) ?_
  rintro _ w2 ⟨rfl,g2⟩
  rw [gtK_i]
  exact condK_p (fun _=>kn (g1.trans g2)) fun e=>⟨g2,by omega⟩
 rintro _ w2 ⟨g2,m200⟩ _
 have g02:=g1.trans g2
 refine callK_mono (rcopy_dops (hx.grow g02) (by omega)) ?_
 rintro iv w3 ⟨oi,g3⟩
 have g03:=g02.trans g3
 have hi:=ODops.reads oi
 refine callK_mono (encode_ok ((hS.grow g2).grow g3) hi (hT.grow g03) bx hkp (by omega)) ?_
 rintro _ w4 ⟨g4,av,rfl,oa,na⟩
 refine extK_i (vs:=[_,_]) (by rfl) (extK_i (vs:=[_,_]) (by rfl) ?_)
 have g04:=g03.trans g4
 refine callK_mono (rencode_ok (hk.grow g04 (by decide) fun _ _ h=>h) (hx.grow g04) bx hkp' (by omega)) ?_
 rintro _ w5 ⟨g5,cv,rfl,oc,nc⟩
 refine extK_i (vs:=[_,_]) (by rfl) (extK_i (vs:=[_,_]) (by rfl) ?_)
 have g05:=g04.trans g5
 rw [mayOps_congr hfind] at oc nc ⊢
 have lx:=mDops_len x
 have hmm:=normB_mm x
 -- both rows of bytes
 have hbytes:∃ (l:List Int),ByteL l∧RBytes (fun _=>True) w5 av l∧RBytes (fun _=>True) w5 cv l∧(mayOps ks x=0→l=encL (normB x))∧(mayOps ks x≠0→l=[]):=by
  by_cases e:mayOps ks x=0
  ·obtain ⟨_,_,n3,_,_⟩:=norm_may hkp e bx (by omega)
   exact ⟨_,encL_byte n3,SlR.sub ((OwnR.sl (oa e)).grow g5 (by decide) fun _ _ h=>h) (fun _ _ _=>trivial) (by decide) fun _ _ h=>h,SlR.sub (OwnR.sl (oc e)) (fun _ _ _=>trivial) (by decide) fun _ _ h=>h,fun _=>rfl,fun h=>(h e).elim⟩
  ·rw [na e,nc e]
   exact ⟨[],fun z hz=>by simp at hz,SlR.nil,SlR.nil,fun h=>(e h).elim,fun _=>rfl⟩
 obtain ⟨l,hlb,ra,rc,l0,l1⟩:=hbytes
 refine JoinK_i (fun _ W=>Grow w5 W) ?_ ?_
 ·rintro _ w6 g6 _
  have ra6:=ra.grow g6 (by decide) fun _ _ h=>h
  have rc6:=rc.grow g6 (by decide) fun _ _ h=>h
  have g06:=g05.trans g6
  rw [neK_i]
  refine condK_neg (fun e0=>?_) fun e0=>?_
  ·have el:=l0 e0
   subst el
   obtain ⟨n1,n2,n3,n4,n5⟩:=norm_may hkp e0 bx (by omega)
   have hel:=encL_len (normB x)
   have d1:=decB_norm hkp e0 bx (by omega)
   have d2:decB keys (encL (normB x))=(normB x,0):=(decB_congr hfind _).trans d1
   have g26:=((g3.trans g4).trans g5).trans g6
   refine callK_mono (decode_ok ((hS.grow g2).grow g26) ra6 hlb (hT.grow g06) (by omega)) ?_
   rintro _ w7 ⟨g7,yv,rfl,hy⟩
   rw [d1] at hy ⊢
   refine extK_i (vs:=[_,_]) (by rfl) (extK_i (vs:=[_,_]) (by rfl) ?_)
   have g07:=g06.trans g7
   refine callK_mono (rdecode_ok (hk.grow g07 (by decide) fun _ _ h=>h) (rc6.grow g7 (by decide) fun _ _ h=>h) hlb (by omega)) ?_
   rintro _ w8 ⟨g8,zv,rfl,hz⟩
   rw [d2] at hz ⊢
   refine extK_i (vs:=[_,_]) (by rfl) (extK_i (vs:=[_,_]) (by rfl) ?_)
   simp only [eqK_i,decide_true]
   refine condK_t (condK_t ?_)
   refine callK_mono (rsame_dops (hy.grow g8) hz) ?_
   rintro _ w9 ⟨rfl,g9⟩
   rw [decide_eq_true rfl]
   exact condK_t (kn ((g07.trans g8).trans g9))
  ·have el:=l1 e0
   subst el
   obtain ⟨aa,ac,rfl,_⟩:=ra6.shape
   rw [lenK_i,eqK_i]
   exact condK_p (fun _=>kn g06) fun e=>(e rfl).elim
 ·refine runK_i (run_str ra hlb) ?_
  refine runK_i (run_str rc hlb) ?_
  rw [sneK_i]
  refine condK_neg (fun _=>?_) fun e=>(e rfl).elim
  rw [neK_i]
  refine condK_neg (fun _=>?_) fun e=>(e rfl).elim
  refine callK_mono (rsame_dops (hi.grow (g4.trans g5)) (hx.grow g05)) ?_
  rintro _ w6 ⟨rfl,g6⟩
  rw [decide_eq_true rfl,notK_i]
  exact condK_f g6
end Go.Proofs.YtgmpbihbdbmhoaaGreatDoor

namespace Go.Proofs.YtgmpbihbdbmhoaaGreatDoor
open Go Go.K
open Go.ChangeShapes Go.Joins
variable {H:Type} {enc:TypeId × Value→H} {w:World} {base:Nat} {spare:Nat→Bool} {held:Bool}
theorem len5 {α:Type} {l:List α} (h:l.length=5):∃ a b c d e,l=[a,b,c,d,e]:=by
 match l,h with | [a,b,c,d,e],_=>exact ⟨a,b,c,d,e,rfl⟩
theorem len6 {α:Type} {l:List α} (h:l.length=6):∃ a b c d e f,l=[a,b,c,d,e,f]:=by
 match l,h with | [a,b,c,d,e,f],_=>exact ⟨a,b,c,d,e,f,rfl⟩
theorem bulk_app (l m:List (DataW H)):Rows.uptoBulkAll (l++m)=Rows.uptoBulkAll l+Rows.uptoBulkAll m:=by
 induction l with
 | nil=>simp [Rows.uptoBulkAll]
 | cons d l ih=>simp only [List.cons_append,Rows.uptoBulkAll,ih];omega
theorem SlR.of_trodU {α:Type} {t e k:Nat} {R:World→List Value→α→Prop} {μ:α→Nat} {fuel:Nat} {cs:List Value} {x:DataW H × List MemPlace} (ht:Tryz.prog.underlying t=some (.slice e)) (hk:Tryz.prog.cellsOf e=k)
  (hel:∀ n cs' y,DataW.trod enc Tryz.prog w base spare held n e cs'=some y→∃ x,R w cs' x∧μ x≤Rows.uptoBulk y.1) (h:DataW.trod enc Tryz.prog w base spare held fuel t cs=some x) :
  ∃ v l,cs=[v]∧SlR (fun _=>True) k R w v l∧(l.map μ).sum+1≤Rows.uptoBulk x.1:=by
 rcases Go.Deep.open_slice ht h with ⟨rfl,rfl⟩ | ⟨a,len,cap,m,n,D,Pl,rfl,hb,hl,hm,hmm,rfl,hall⟩
 ·exact ⟨_,[],rfl,SlR.nil,by simp [Rows.uptoBulk]⟩
 ·have hlm:len≤m:=by rw [hmm];split <;> omega
  have one:∀ i,i < len→∃ (cs':List Value) (x:α),cs'.length=k∧(∀ j u,cs'[j]?=some u→w.cell? (a.add (i * k+j))=some u)∧R w cs' x∧μ x≤Rows.uptoBulk (D i):=by
   intro i hi
   obtain ⟨cs',h1,h2⟩:=hall i (by omega)
   obtain ⟨x,hx,hmu⟩:=hel n cs' _ h2
   obtain ⟨_,hlen,hc⟩:=World.cells?_some h1
   rw [hk] at hlen hc
   refine ⟨cs',x,hlen,fun j u hu=>?_,hx,hmu⟩
   have hj:j < k:=by rw [←hlen];exact (List.getElem?_eq_some_iff.1 hu).1
   have:=hc j hj
   rw [Addr.add_add] at this
   rw [this];exact hu
  have build:∀ q,q≤len→∃ l:List α,l.length=q∧(l.map μ).sum≤Rows.uptoBulkAll ((List.range q).map D)∧∀ i x,l[i]?=some x→∃ cs':List Value,cs'.length=k∧(∀ j u,cs'[j]?=some u→w.cell? (a.add (i * k+j))=some u)∧R w cs' x:=by
   intro q
   induction q with
   | zero=>exact fun _=>⟨[],rfl,by simp [Rows.uptoBulkAll],fun i x h=>by simp at h⟩
   | succ q ih=>
    intro hq
    obtain ⟨l,h1,hs,h2⟩:=ih (by omega)
    obtain ⟨cs',x,h3,h4,h5,h6⟩:=one q (by omega)
    refine ⟨l++[x],by simp [h1],?_,fun i y hy=>?_⟩
    ·rw [List.range_succ,List.map_append (f:=D),bulk_app]
     simp only [List.map_append,List.sum_append,List.map_cons,List.map_nil,List.sum_cons,List.sum_nil,Rows.uptoBulkAll]
     omega
    by_cases hi:i < q
    ·rw [List.getElem?_append_left (by omega)] at hy;exact h2 i y hy
    ·have:i=q:=by have:=(List.getElem?_eq_some_iff.1 hy).1;simp [h1] at this;omega
     subst this
     rw [List.getElem?_append_right (by omega)] at hy
     simp [h1] at hy;subst hy
     exact ⟨cs',h3,h4,h5⟩
  obtain ⟨l,h1,hs,h2⟩:=build len (Nat.le_refl _)
  subst h1
  refine ⟨_,l,rfl,⟨a,cap,rfl,hl,hm,fun i x hx=>?_⟩,?_⟩
  ·obtain ⟨cs',h3,h4,h5⟩:=h2 i x hx
   exact ⟨a,cs',rfl,trivial,h3,h4,h5⟩
  ·simp only [Rows.uptoBulk];omega
theorem val_of_trodU {n:Nat} {cs:List Value} {y:DataW H × List MemPlace} (h:DataW.trod enc Tryz.prog w base spare held n 59 cs=some y):∃ x:AVal,cs=x.cells∧x.s.size+1≤Rows.uptoBulk y.1:=by
 have c2:Tryz.prog.cellsOf 59=4:=by kernel_rfl
 have c3:Tryz.prog.cellsOf 5=1:=by kernel_rfl
 have c4:Tryz.prog.cellsOf 2=1:=by kernel_rfl
 have c5:Tryz.prog.cellsOf 57=1:=by kernel_rfl
 have c6:Tryz.prog.cellsOf 9=1:=by kernel_rfl
 obtain ⟨z0,z1,z2,z3,m',rfl,hl,g0,g1,g2,g3⟩:=trod_struct4 Tryz.underlying59 h
 rw [c2] at hl
 simp only [c3,c4,c5,c6] at g0 g1 g2 g3
 match cs,hl with
 | [a0,a1,a2,a3],_=>
  simp only [List.drop_zero,List.take_succ_cons,List.take_zero,List.drop_succ_cons] at g0 g1 g2 g3
  obtain ⟨k0,f0,e0,_⟩:=DataW.trod_int Tryz.underlying5 g0
  obtain ⟨k1,f1,e1,_⟩:=DataW.trod_int Tryz.underlying2 g1
  obtain ⟨k2,f2,e2,_⟩:=DataW.trod_int Tryz.underlying57 g2
  obtain ⟨k3,f3,e3,_⟩:=DataW.trod_string Tryz.underlying9 g3
  cases f0;cases f1;cases f2;cases f3;subst e0;subst e1;subst e2;subst e3
  refine ⟨⟨k0,k1,k2,k3⟩,rfl,?_⟩
  simp only [Rows.uptoBulk,Rows.uptoBulkAll,Array.length_toList,ByteArray.size_data]
  omega
theorem attr_of_trodU {n:Nat} {cs:List Value} {y:DataW H × List MemPlace} (h:DataW.trod enc Tryz.prog w base spare held n 61 cs=some y):∃ x:Attr,RAttr w cs x∧mAttr x≤Rows.uptoBulk y.1:=by
 have c0:Tryz.prog.cellsOf 61=5:=by kernel_rfl
 have c1:Tryz.prog.cellsOf 3=1:=by kernel_rfl
 have c2:Tryz.prog.cellsOf 59=4:=by kernel_rfl
 obtain ⟨y0,y1,m,rfl,hl,h0,h1⟩:=trod_struct2 Tryz.underlying61 h
 rw [c0] at hl
 simp only [c1,c2] at h0 h1
 match cs,hl with
 | [a0,a1,a2,a3,a4],_=>
  simp only [List.drop_zero,List.take_succ_cons,List.take_zero,List.drop_succ_cons] at h0 h1
  obtain ⟨k,e0,_,_⟩:=DataW.trod_int Tryz.underlying3 h0
  obtain ⟨v,e1,hs⟩:=val_of_trodU h1
  cases e0;cases e1
  refine ⟨⟨k,v⟩,rfl,?_⟩
  simp only [mAttr,Rows.uptoBulk,Rows.uptoBulkAll]
  omega
theorem chg_of_trodU {n:Nat} {cs:List Value} {y:DataW H × List MemPlace} (h:DataW.trod enc Tryz.prog w base spare held n 63 cs=some y):∃ x:Chg,RChg w cs x∧mChg x≤Rows.uptoBulk y.1:=by
 have c0:Tryz.prog.cellsOf 63=6:=by kernel_rfl
 have c1:Tryz.prog.cellsOf 3=1:=by kernel_rfl
 have c2:Tryz.prog.cellsOf 59=4:=by kernel_rfl
 have c3:Tryz.prog.cellsOf 4=1:=by kernel_rfl
 obtain ⟨xs,m,_,rfl,hl,hlen,hf⟩:=DataW.trod_struct Tryz.underlying63 h
 match xs,hlen with
 | [y0,y1,y2],_=>
  have h0:DataW.trod enc Tryz.prog w base spare held m 3 ((cs.drop 0).take (Tryz.prog.cellsOf 3))=some y0:=hf 0 _ rfl
  have h1:DataW.trod enc Tryz.prog w base spare held m 4 ((cs.drop 1).take (Tryz.prog.cellsOf 4))=some y1:=hf 1 _ rfl
  have h2:DataW.trod enc Tryz.prog w base spare held m 59 ((cs.drop 2).take (Tryz.prog.cellsOf 59))=some y2:=hf 2 _ rfl
  rw [c0] at hl
  rw [c1] at h0
  rw [c3] at h1
  rw [c2] at h2
  obtain ⟨a0,a1,a2,a3,a4,a5,rfl⟩:=len6 hl
  ·clear hf
   simp only [List.drop_zero,List.take_succ_cons,List.take_zero,List.drop_succ_cons] at h0 h1 h2
   obtain ⟨k,e0,_,_⟩:=DataW.trod_int Tryz.underlying3 h0
   obtain ⟨b,e1,_⟩:=DataW.trod_bool Tryz.underlying4 h1
   obtain ⟨v,e2,hs⟩:=val_of_trodU h2
   cases e0;cases e1;cases e2
   refine ⟨⟨k,b,v⟩,rfl,?_⟩
   simp only [mChg,List.map_cons,List.map_nil,Rows.uptoBulk,Rows.uptoBulkAll]
   omega
theorem rune_of_trodU {n:Nat} {cs:List Value} {y:DataW H × List MemPlace} (h:DataW.trod enc Tryz.prog w base spare held n 21 cs=some y):∃ x:Int,RRune w cs x∧1≤Rows.uptoBulk y.1:=by
 obtain ⟨k,rfl,e,_⟩:=DataW.trod_int Tryz.underlying21 h
 subst e
 exact ⟨k,rfl,by simp [Rows.uptoBulk]⟩
theorem runes_of_trodU {n:Nat} {cs:List Value} {y:DataW H × List MemPlace} (h:DataW.trod enc Tryz.prog w base spare held n 52 cs=some y):∃ v l,cs=[v]∧RRun (fun _=>True) w v l∧l.length+1≤Rows.uptoBulk y.1:=by
 obtain ⟨v,l,e,h1,h2⟩:=SlR.of_trodU (μ:=fun _:Int=>1) Tryz.underlying52 (by kernel_rfl) (fun _ _ _ h=>rune_of_trodU h) h
 refine ⟨v,l,e,h1,?_⟩
 have:(l.map fun _=>1).sum=l.length:=by clear h1 h2;induction l with | nil=>rfl | cons a l ih=>simp only [List.map_cons,List.sum_cons,List.length_cons,ih];omega
 omega
theorem key_of_trodU {n:Nat} {cs:List Value} {y:DataW H × List MemPlace} (h:DataW.trod enc Tryz.prog w base spare held n 43 cs=some y):∃ x:DKey,RKey w cs x∧1≤Rows.uptoBulk y.1:=by
 have c0:Tryz.prog.cellsOf 43=6:=by kernel_rfl
 have c1:Tryz.prog.cellsOf 3=1:=by kernel_rfl
 have c2:Tryz.prog.cellsOf 5=1:=by kernel_rfl
 have c3:Tryz.prog.cellsOf 4=1:=by kernel_rfl
 obtain ⟨xs,m,_,rfl,hl,hlen,hf⟩:=DataW.trod_struct Tryz.underlying43 h
 match xs,hlen with
 | [y0,y1,y2,y3,y4,y5],_=>
  have h0:DataW.trod enc Tryz.prog w base spare held m 3 ((cs.drop 0).take (Tryz.prog.cellsOf 3))=some y0:=hf 0 _ rfl
  have h1:DataW.trod enc Tryz.prog w base spare held m 4 ((cs.drop 1).take (Tryz.prog.cellsOf 4))=some y1:=hf 1 _ rfl
  have h2:DataW.trod enc Tryz.prog w base spare held m 5 ((cs.drop 2).take (Tryz.prog.cellsOf 5))=some y2:=hf 2 _ rfl
  have h3:DataW.trod enc Tryz.prog w base spare held m 4 ((cs.drop 3).take (Tryz.prog.cellsOf 4))=some y3:=hf 3 _ rfl
  have h4:DataW.trod enc Tryz.prog w base spare held m 4 ((cs.drop 4).take (Tryz.prog.cellsOf 4))=some y4:=hf 4 _ rfl
  have h5:DataW.trod enc Tryz.prog w base spare held m 3 ((cs.drop 5).take (Tryz.prog.cellsOf 3))=some y5:=hf 5 _ rfl
  rw [c0] at hl
  rw [c1] at h0
  rw [c3] at h1
  rw [c2] at h2
  rw [c3] at h3
  rw [c3] at h4
  rw [c1] at h5
  obtain ⟨a0,a1,a2,a3,a4,a5,rfl⟩:=len6 hl
  ·clear hf
   simp only [List.drop_zero,List.take_succ_cons,List.take_zero,List.drop_succ_cons] at h0 h1 h2 h3 h4 h5
   obtain ⟨k0,e0,_,_⟩:=DataW.trod_int Tryz.underlying3 h0
   obtain ⟨k1,e1,_⟩:=DataW.trod_bool Tryz.underlying4 h1
   obtain ⟨k2,e2,_,_⟩:=DataW.trod_int Tryz.underlying5 h2
   obtain ⟨k3,e3,_⟩:=DataW.trod_bool Tryz.underlying4 h3
   obtain ⟨k4,e4,_⟩:=DataW.trod_bool Tryz.underlying4 h4
   obtain ⟨k5,e5,_,_⟩:=DataW.trod_int Tryz.underlying3 h5
   cases e0;cases e1;cases e2;cases e3;cases e4;cases e5
   refine ⟨⟨k0,k1,k2,k3,k4,k5⟩,rfl,?_⟩
   simp only [Rows.uptoBulk]
   omega
theorem keys_of_trodU {n:Nat} {cs:List Value} {y:DataW H × List MemPlace} (h:DataW.trod enc Tryz.prog w base spare held n 22 cs=some y):∃ v l,cs=[v]∧RKeys (fun _=>True) w v l∧l.length+1≤Rows.uptoBulk y.1:=by
 obtain ⟨v,l,e,h1,h2⟩:=SlR.of_trodU (μ:=fun _:DKey=>1) Tryz.underlying22 (by kernel_rfl) (fun _ _ _ h=>key_of_trodU h) h
 refine ⟨v,l,e,h1,?_⟩
 have:(l.map fun _=>1).sum=l.length:=by clear h1 h2;induction l with | nil=>rfl | cons a l ih=>simp only [List.map_cons,List.sum_cons,List.length_cons,ih];omega
 omega
end Go.Proofs.YtgmpbihbdbmhoaaGreatDoor

namespace Go.Proofs.YtgmpbihbdbmhoaaGreatDoor
open Go Go.K
open Go.ChangeShapes Go.Joins
variable {H:Type} {enc:TypeId × Value→H} {w:World} {base:Nat} {spare:Nat→Bool} {held:Bool}
theorem keys_of_trod {n:Nat} {cs:List Value} {y:DataW H × List MemPlace} (h:DataW.trod enc Tryz.prog w base spare held n 22 cs=some y):∃ v l,cs=[v]∧RKeys (fun _=>True) w v l:=by
 obtain ⟨v,l,e,h1,_⟩:=keys_of_trodU h
 exact ⟨v,l,e,h1⟩
end Go.Proofs.YtgmpbihbdbmhoaaGreatDoor

namespace Go.Proofs.YtgmpbihbdbmhoaaGreatDoor
open Go Go.K
open Go.ChangeShapes Go.WideShapes Go.ChangeAt Go.RowKit Go.Joins

def laidL : List (String × DataW Unit) := [("unicode/utf8.acceptRanges", Rows.laid_unicode_utf8_acceptRanges), ("unicode/utf8.first", Rows.laid_unicode_utf8_first)]
theorem first_tab:Rows.laid_unicode_utf8_first=Lib.tabData .u8 (Pinned.utf8FirstZ.map Int.ofNat):=by kernel_rfl
theorem first_at:(List.range 256).all (fun j=>decide (128≤j→(Pinned.utf8FirstZ.map Int.ofNat)[j]?=some (firstT j)))=true:=by decide +kernel
theorem acc_tab:Rows.laid_unicode_utf8_acceptRanges (H:=Unit)=.agg ((List.range 16).map fun i=>.agg ([accLo i,accHi i].map fun z=>.lit (.int .u8 z))):=by kernel_rfl
theorem tabs_of_laid {W:World} (h:laidMetH Tryz.prog laidL W):Tabs W:=by
 rw [MakeChecks.laidMetH_plain _ _ _ (by kernel_rfl)] at h
 have h4:=Lib.laidMet.reads h (.head _)
 have h3:=Lib.laidMet.reads h (.tail _ (.head _))
 have hf:∀ j:Nat,128≤j→j < 256→W.cell? ⟨0,j,none⟩=some (.int .u8 (firstT j)):=by
  intro j hj1 hj2
  obtain ⟨g,t,cs,fuel,p,hg,hty,hvar,hd⟩:=h3
  obtain rfl := Option.some.inj ((show Tryz.prog.globalNamed "unicode/utf8.first" = some 0 by kernel_rfl).symm.trans hg)
  obtain rfl:=Option.some.inj ((show (Tryz.prog.globals[0]?).map (·.type)=some 177 by kernel_rfl).symm.trans hty)
  rw [first_tab] at hd
  have hcs:=Lib.cells_of_tab Tryz.underlying177 Tryz.underlying5 (by kernel_rfl) (by kernel_rfl) hd
  have:=World.var?_cell hg hvar j
  rw [this,←Array.getElem?_toList,hcs]
  have ha:=List.all_eq_true.1 first_at j (List.mem_range.2 hj2)
  rw [decide_eq_true_eq] at ha
  rw [List.getElem?_map,ha hj1]
  rfl
 have hac:∀ j:Nat,j < 16→W.cell? ⟨1,j * 2,none⟩=some (.int .u8 (accLo j))∧W.cell? ⟨1,j * 2+1,none⟩=some (.int .u8 (accHi j)):=by
  intro i hi
  obtain ⟨g,t,cs,fuel,p,hg,hty,hvar,hd⟩:=h4
  obtain rfl := Option.some.inj ((show Tryz.prog.globalNamed "unicode/utf8.acceptRanges" = some 1 by kernel_rfl).symm.trans hg)
  obtain rfl:=Option.some.inj ((show (Tryz.prog.globals[1]?).map (·.type)=some 180 by kernel_rfl).symm.trans hty)
  rw [acc_tab] at hd
  obtain ⟨fuel',d,q,hdi,he⟩:=Lib.array_elem Tryz.underlying180 hd i hi
  simp only [List.getElem?_map,List.getElem?_range hi,Option.map_some,Option.some.injEq] at hdi
  subst hdi
  have c2:Tryz.prog.cellsOf 179=2:=by kernel_rfl
  rw [c2] at he
  have hcs:=Lib.ints_of_struct Tryz.underlying179 (fun j f hj=>by
   match j,hj with
   | 0,hj=>simp at hj;subst hj;exact ⟨Tryz.underlying5,rfl,by kernel_rfl⟩
   | 1,hj=>simp at hj;subst hj;exact ⟨Tryz.underlying5,rfl,by kernel_rfl⟩
   | j+2,hj=>simp at hj) (by rw [c2];rfl) he
  have e0:=congrArg (·[0]?) hcs
  have e1:=congrArg (·[1]?) hcs
  simp at e0 e1
  have w0:=World.var?_cell hg hvar (i * 2)
  have w1:=World.var?_cell hg hvar (i * 2+1)
  rw [w0,w1,←Array.getElem?_toList,←Array.getElem?_toList]
  exact ⟨by simpa using e0,by simpa using e1⟩
 have:=World.block_lt_of_cell? W _ (hac 0 (by decide)).1
 exact ⟨this,hf,hac⟩
noncomputable def laidWorld (os:Os):World:=
 let w0:=World.holding Tryz.prog os ⟨#[],#[],[]⟩
 let put (h:Array Obj) (g:Nat) (cs:Array Value):Array Obj:=h.modify g fun
  | .cells _ t frozen=>.cells cs t frozen
  | o=>o
 let h1:=put w0.heap 0 (Pinned.utf8FirstZ.map fun (z:Nat)=>Value.int .u8 (Int.ofNat z)).toArray
 let h2:=put h1 1 ((List.range 16).flatMap fun i=>[Value.int .u8 (accLo i),Value.int .u8 (accHi i)]).toArray
 { w0 with heap:=h2 }
theorem laidWorld_met (os:Os) (args:Array Value):laidMetH Tryz.prog laidL ((laidWorld os).forCall (fun _ _=>0) ⟨#[],args,[]⟩).memory:=by
 rw [MakeChecks.laidMetH_plain _ _ _ (by kernel_rfl)]
 exact (LaidIn.of_run (l:=laidL) [1,0] 8 (by kernel_rfl) (by kernel_rfl) (by kernel_rfl) (by kernel_rfl)).met

def InV (v:AVal):Prop:=(0≤v.kind∧v.kind < 256)∧(-9223372036854775808≤v.n∧v.n≤9223372036854775807)∧(0≤v.f∧v.f < 18446744073709551616)∧v.s.size < 18446744073709551616
variable {H:Type} {enc:TypeId × Value→H} {w:World} {base:Nat} {spare:Nat→Bool} {held:Bool}
theorem wf_range {k:IntKind} {n:Int} (h:(Lit.int k n).wf=true):k.min≤n∧n≤k.max:=by
 simpa [Lit.wf] using h
theorem val_of_trodR {n:Nat} {cs:List Value} {y:DataW H × List MemPlace} (h:DataW.trod enc Tryz.prog w base spare held n 59 cs=some y):∃ x:AVal,cs=x.cells∧InV x:=by
 have c2:Tryz.prog.cellsOf 59=4:=by kernel_rfl
 have c3:Tryz.prog.cellsOf 5=1:=by kernel_rfl
 have c4:Tryz.prog.cellsOf 2=1:=by kernel_rfl
 have c5:Tryz.prog.cellsOf 57=1:=by kernel_rfl
 have c6:Tryz.prog.cellsOf 9=1:=by kernel_rfl
 obtain ⟨z0,z1,z2,z3,m',_,hl,g0,g1,g2,g3⟩:=trod_struct4 Tryz.underlying59 h
 rw [c2] at hl
 simp only [c3,c4,c5,c6] at g0 g1 g2 g3
 match cs,hl with
 | [a1,a2,a3,a4],_=>
  simp only [List.drop_zero,List.take_succ_cons,List.take_zero,List.drop_succ_cons] at g0 g1 g2 g3
  obtain ⟨k0,f0,_,w0⟩:=DataW.trod_int Tryz.underlying5 g0
  obtain ⟨k1,f1,_,w1⟩:=DataW.trod_int Tryz.underlying2 g1
  obtain ⟨k2,f2,_,w2⟩:=DataW.trod_int Tryz.underlying57 g2
  obtain ⟨k3,f3,_,w3⟩:=DataW.trod_string Tryz.underlying9 g3
  cases f0;cases f1;cases f2;cases f3
  refine ⟨⟨k0,k1,k2,k3⟩,rfl,?_⟩
  have r0:=wf_range w0
  have r1:=wf_range w1
  have r2:=wf_range w2
  have m0:IntKind.u8.min=0∧IntKind.u8.max=255:=by decide
  have m1:IntKind.i64.min=-9223372036854775808∧IntKind.i64.max=9223372036854775807:=by decide
  have m2:IntKind.u64.min=0∧IntKind.u64.max=18446744073709551615:=by decide
  rw [m0.1,m0.2] at r0
  rw [m1.1,m1.2] at r1
  rw [m2.1,m2.2] at r2
  have r3:k3.size≤9223372036854775807:=by
   simp only [Lit.wf,maxLen] at w3
   simpa using w3
  exact ⟨⟨r0.1,show k0 < 256 by omega⟩,r1,⟨r2.1,show k2 < 18446744073709551616 by omega⟩,show k3.size < 18446744073709551616 by omega⟩
end Go.Proofs.YtgmpbihbdbmhoaaGreatDoor

namespace Go.K
open Go
theorem SlR.strip {α:Type} {S:Nat→Prop} {k:Nat} {R:World→List Value→α→Prop} {P:α→Prop} {w:World} {v:Value} {l:List α} (h:SlR S k (fun w r x=>R w r x∧P x) w v l):SlR S k R w v l∧∀ x ∈ l,P x:=by
 obtain ⟨a,c,e,h1,h2,h3⟩:=h
 refine ⟨⟨a,c,e,h1,h2,fun i x hx=>?_⟩,fun x hx=>?_⟩
 ·obtain ⟨p,r,q1,q2,q3,q4,q5⟩:=h3 i x hx
  exact ⟨p,r,q1,q2,q3,q4,q5.1⟩
 ·obtain ⟨i,hi⟩:=List.mem_iff_getElem?.1 hx
  obtain ⟨_,_,_,_,_,_,q5⟩:=h3 i x hi
  exact q5.2
end Go.K
namespace Go.Proofs.YtgmpbihbdbmhoaaGreatDoor
open Go Go.K
open Go.ChangeShapes Go.WideShapes Go.ChangeAt Go.RowKit Go.Joins
variable {H:Type} {enc:TypeId × Value→H} {w:World} {base:Nat} {spare:Nat→Bool} {held:Bool}
theorem attr_of_trodR {n:Nat} {cs:List Value} {y:DataW H × List MemPlace} (h:DataW.trod enc Tryz.prog w base spare held n 61 cs=some y):∃ x:Attr,cs=x.cells∧InA x:=by
 have c0:Tryz.prog.cellsOf 61=5:=by kernel_rfl
 have c1:Tryz.prog.cellsOf 3=1:=by kernel_rfl
 have c2:Tryz.prog.cellsOf 59=4:=by kernel_rfl
 obtain ⟨y0,y1,m,_,hl,h0,h1⟩:=trod_struct2 Tryz.underlying61 h
 rw [c0] at hl
 simp only [c1,c2] at h0 h1
 match cs,hl with
 | [a0,a1,a2,a3,a4],_=>
  simp only [List.drop_zero,List.take_succ_cons,List.take_zero,List.drop_succ_cons] at h0 h1
  obtain ⟨k,e0,_,w0⟩:=DataW.trod_int Tryz.underlying3 h0
  obtain ⟨x,ex,hx⟩:=val_of_trodR h1
  cases e0
  have r0:=wf_range w0
  have m1:IntKind.i64.min=-9223372036854775808∧IntKind.i64.max=9223372036854775807:=by decide
  rw [m1.1,m1.2] at r0
  refine ⟨⟨k,x⟩,?_,r0,hx⟩
  show _=Value.int .i64 k :: x.cells
  rw [←ex]
end Go.Proofs.YtgmpbihbdbmhoaaGreatDoor

namespace Go.Proofs.YtgmpbihbdbmhoaaGreatDoor
open Go Go.K
open Go.ChangeShapes Go.WideShapes Go.ChangeAt Go.RowKit Go.Joins
variable {H:Type} {enc:TypeId × Value→H} {w:World} {base:Nat} {spare:Nat→Bool} {held:Bool}
theorem attr_inj' {x y:Attr} (h:x.cells=y.cells):x=y:=by
 obtain ⟨k,v,n,f,s⟩:=x
 obtain ⟨k',v',n',f',s'⟩:=y
 simp only [Attr.cells,AVal.cells,List.cons.injEq,Value.int.injEq,Value.string.injEq,true_and,and_true] at h
 obtain ⟨rfl,rfl,rfl,rfl,rfl⟩:=h
 rfl
theorem val_inj {x y:AVal} (h:x.cells=y.cells):x=y:=by
 obtain ⟨v,n,f,s⟩:=x
 obtain ⟨v',n',f',s'⟩:=y
 simp only [AVal.cells,List.cons.injEq,Value.int.injEq,Value.string.injEq,true_and,and_true] at h
 obtain ⟨rfl,rfl,rfl,rfl⟩:=h
 rfl
end Go.Proofs.YtgmpbihbdbmhoaaGreatDoor

namespace Go.Proofs.YtgmpbihbdbmhoaaGreatDoor
open Go Go.K
open Go.ChangeShapes Go.WideShapes Go.ChangeAt Go.RowKit Go.Joins
variable {H:Type} {enc:TypeId × Value→H} {w:World} {base:Nat} {spare:Nat→Bool} {held:Bool}
theorem attr_of_trodB {n:Nat} {cs:List Value} {y:DataW H × List MemPlace} (h:DataW.trod enc Tryz.prog w base spare held n 61 cs=some y):∃ x:Attr,(RAttr w cs x∧(x.key≤9223372036854775807∧InVB x.val))∧mAttr x≤Rows.uptoBulk y.1:=by
 obtain ⟨x,e,hx⟩:=attr_of_trodR h
 obtain ⟨x',e',hm⟩:=attr_of_trodU h
 have e'':cs=x'.cells:=e'
 have:x=x':=attr_inj' (e.symm.trans e'')
 subst this
 exact ⟨x,⟨e,hx.1.2,⟨hx.2.2.1,hx.2.2.2.1⟩⟩,hm⟩
theorem chg_of_trodB {n:Nat} {cs:List Value} {y:DataW H × List MemPlace} (h:DataW.trod enc Tryz.prog w base spare held n 63 cs=some y):∃ x:Chg,(RChg w cs x∧(x.key≤9223372036854775807∧InVB x.val))∧mChg x≤Rows.uptoBulk y.1:=by
 have c2:Tryz.prog.cellsOf 59=4:=by kernel_rfl
 obtain ⟨x,e,hm⟩:=chg_of_trodU h
 obtain ⟨xs,m,_,_,hl,hlen,hf⟩:=DataW.trod_struct Tryz.underlying63 h
 match xs,hlen with
 | [y0,y1,y2],_=>
  have h2:DataW.trod enc Tryz.prog w base spare held m 59 ((cs.drop 2).take (Tryz.prog.cellsOf 59))=some y2:=hf 2 _ rfl
  rw [c2] at h2
  obtain ⟨v,ev,hv⟩:=val_of_trodR h2
  have e':cs=x.cells:=e
  subst e'
  have:v=x.val:=val_inj (ev.symm.trans (by rfl))
  subst this
  have c1:Tryz.prog.cellsOf 3=1:=by kernel_rfl
  have h0:DataW.trod enc Tryz.prog w base spare held m 3 ((x.cells.drop 0).take (Tryz.prog.cellsOf 3))=some y0:=hf 0 _ rfl
  rw [c1] at h0
  obtain ⟨k,ek,_,hw⟩:=DataW.trod_int Tryz.underlying3 h0
  have hk:x.key=k:=by
   have:[Value.int .i64 x.key]=[.int .i64 k]:=ek
   simpa using this
  have hr:=(wf_range hw).2
  have e2:IntKind.i64.max=9223372036854775807:=by decide
  rw [e2] at hr
  exact ⟨x,⟨rfl,by omega,⟨hv.2.1,hv.2.2.1⟩⟩,hm⟩
theorem set_of_trodB {n:Nat} {cs:List Value} {y:DataW H × List MemPlace} (h:DataW.trod enc Tryz.prog w base spare held n 53 cs=some y):∃ v l,cs=[v]∧(RSet (fun _=>True) w v l∧∀ a ∈ l,a.key≤9223372036854775807∧InVB a.val)∧mSet l+1≤Rows.uptoBulk y.1:=by
 obtain ⟨v,l,e,hl,hm⟩:=SlR.of_trodU (k:=5) (μ:=mAttr) (R:=fun (w:World) r (x:Attr)=>RAttr w r x∧(x.key≤9223372036854775807∧InVB x.val)) Tryz.underlying53 (by kernel_rfl) (fun _ _ _ h=>attr_of_trodB h) h
 exact ⟨v,l,e,hl.strip,hm⟩
theorem pat_of_trodB {n:Nat} {cs:List Value} {y:DataW H × List MemPlace} (h:DataW.trod enc Tryz.prog w base spare held n 54 cs=some y):∃ v l,cs=[v]∧(RPat (fun _=>True) w v l∧∀ a ∈ l,a.key≤9223372036854775807∧InVB a.val)∧mPat l+1≤Rows.uptoBulk y.1:=by
 obtain ⟨v,l,e,hl,hm⟩:=SlR.of_trodU (k:=6) (μ:=mChg) (R:=fun (w:World) r (x:Chg)=>RChg w r x∧(x.key≤9223372036854775807∧InVB x.val)) Tryz.underlying54 (by kernel_rfl) (fun _ _ _ h=>chg_of_trodB h) h
 exact ⟨v,l,e,hl.strip,hm⟩
set_option maxRecDepth 20000 in
theorem dop_of_trodB {n:Nat} {cs:List Value} {y:DataW H × List MemPlace} (h:DataW.trod enc Tryz.prog w base spare held n 56 cs=some y):∃ x:Dop,(RDop (fun _=>True) w cs x∧InB x)∧mDop x≤Rows.uptoBulk y.1:=by
 have c0:Tryz.prog.cellsOf 56=5:=by kernel_rfl
 have c1:Tryz.prog.cellsOf 3=1:=by kernel_rfl
 have c2:Tryz.prog.cellsOf 5=1:=by kernel_rfl
 have c3:Tryz.prog.cellsOf 52=1:=by kernel_rfl
 have c4:Tryz.prog.cellsOf 53=1:=by kernel_rfl
 have c5:Tryz.prog.cellsOf 54=1:=by kernel_rfl
 obtain ⟨xs,m,_,rfl,hl,hlen,hf⟩:=DataW.trod_struct Tryz.underlying56 h
 match xs,hlen with
 | [y0,y1,y2,y3,y4],_=>
  have h0:DataW.trod enc Tryz.prog w base spare held m 5 ((cs.drop 0).take (Tryz.prog.cellsOf 5))=some y0:=hf 0 _ rfl
  have h1:DataW.trod enc Tryz.prog w base spare held m 3 ((cs.drop 1).take (Tryz.prog.cellsOf 3))=some y1:=hf 1 _ rfl
  have h2:DataW.trod enc Tryz.prog w base spare held m 52 ((cs.drop 2).take (Tryz.prog.cellsOf 52))=some y2:=hf 2 _ rfl
  have h3:DataW.trod enc Tryz.prog w base spare held m 53 ((cs.drop 3).take (Tryz.prog.cellsOf 53))=some y3:=hf 3 _ rfl
  have h4:DataW.trod enc Tryz.prog w base spare held m 54 ((cs.drop 4).take (Tryz.prog.cellsOf 54))=some y4:=hf 4 _ rfl
  rw [c0] at hl
  rw [c2] at h0
  rw [c1] at h1
  rw [c3] at h2
  rw [c4] at h3
  rw [c5] at h4
  obtain ⟨a0,a1,a2,a3,a4,rfl⟩:=len5 hl
  ·clear hf
   simp only [List.drop_zero,List.take_succ_cons,List.take_zero,List.drop_succ_cons] at h0 h1 h2 h3 h4
   obtain ⟨k,e0,_,_⟩:=DataW.trod_int Tryz.underlying5 h0
   obtain ⟨n,e1,_,_⟩:=DataW.trod_int Tryz.underlying3 h1
   obtain ⟨rv,rl,e2,hr,b2⟩:=runes_of_trodU h2
   obtain ⟨sv,sl,e3,⟨hs,i3⟩,b3⟩:=set_of_trodB h3
   obtain ⟨pv,pl',e4,⟨hp,i4⟩,b4⟩:=pat_of_trodB h4
   cases e0;cases e1;cases e2;cases e3;cases e4
   refine ⟨⟨k,n,rl,sl,pl'⟩,⟨⟨a2,a3,a4,rfl,hr,hs,hp⟩,i3,i4⟩,?_⟩
   simp only [mDop,List.map_cons,List.map_nil,Rows.uptoBulk,Rows.uptoBulkAll]
   omega
theorem dops_of_trodB {n:Nat} {cs:List Value} {y:DataW H × List MemPlace} (h:DataW.trod enc Tryz.prog w base spare held n 23 cs=some y):∃ v l,cs=[v]∧(RDops (fun _=>True) (fun _=>True) w v l∧∀ o ∈ l,InB o)∧mDops l+1≤Rows.uptoBulk y.1:=by
 obtain ⟨v,l,e,hl,hm⟩:=SlR.of_trodU (k:=5) (μ:=mDop) (R:=fun (w:World) r (x:Dop)=>RDop (fun _=>True) w r x∧InB x) Tryz.underlying23 (by kernel_rfl) (fun _ _ _ h=>dop_of_trodB h) h
 exact ⟨v,l,e,hl.strip,hm⟩
end Go.Proofs.YtgmpbihbdbmhoaaGreatDoor

namespace Go.Proofs.YtgmpbihbdbmhoaaGreatDoor
open Go Go.K
open Go.ChangeShapes Go.WideShapes Go.ChangeAt Go.RowKit
set_option linter.unusedVariables false

theorem ownK:ownKnob Tryz.prog.godebug=none:=by kernel_rfl
theorem laidOut:laidOutB Tryz.prog=true:=by kernel_rfl

set_option maxRecDepth 100000 in
theorem CodecWrites_lifted (os:Os) (started:os.Started) (H:Type) (enc:TypeId × Value→H) (F0:Stop.Interp) :
  ReturnsInHanded {} Tryz.checked os 3 .any ((Rows.OpenSpec.upto Rows.codecWritesSpec).preRow enc Tryz.prog Tryz.f3 [] false Rows.codecWritesUptoRow.laid) (((Rows.OpenSpec.upto Rows.codecWritesSpec).at F0).post enc Tryz.prog Tryz.f3 false true false false):=by
 refine returnsInHanded_of_row (C:=Tryz.checked) (s:=(Rows.OpenSpec.upto Rows.codecWritesSpec)) ownK started (by kernel_rfl) Tryz.func3
  (witness_row_at (enc:=enc) (C:=Tryz.checked) (s:=(Rows.OpenSpec.upto Rows.codecWritesSpec)) false (laidWorld os) #[.slice none 0 0,.slice none 0 0] rfl (by kernel_rfl) (by kernel_rfl) (by kernel_rfl)
   ⟨⟨(OpenSpec.pre_some (k:=Rows.uptoSmall) rfl [] false _ _).2 ⟨_,_,_,DataW.Whole_of_whole (fuel:=8) (x:=([.nil,.nil],[],[])) (by kernel_rfl),by kernel_rfl,by kernel_rfl⟩,laidWorld_met os _⟩,sizedMet_of_sizedB (fuel:=8) (by kernel_rfl)⟩) ?_
 intro W base args ds gs before hval0 hW _ hk0 _ hL _ _
 have hW':=hW
 obtain ⟨p,q,hA0,hV,rfl,hfz,hnd⟩:=hW
 have hA:DataW.TrodAll enc Tryz.prog W 0 (fun _=>true) true Tryz.f3.params.toList args.toList ds p:=hA0
 have hval:∀ (j:Nat) t v,Tryz.f3.params[j]?=some t→args[j]?=some v→Value.okWide Tryz.prog W .any base t v:=hval0
 rw [Tryz.params3] at hA hval
 have htab:Tabs W:=tabs_of_laid hL
 obtain ⟨v0,vs0,d0,ds0,p0,q0,hargs,rfl,rfl,h0,r0⟩:=trodAll_cons hA
 obtain ⟨v1,vs1,d1,ds1,p1,q1,rfl,rfl,rfl,h1,r1⟩:=trodAll_cons r0
 obtain ⟨rfl,rfl,rfl⟩:=trodAll_nil r1
 obtain rfl:args=#[v0,v1]:=by cases args;simp_all
 obtain ⟨rfl,rfl⟩:=trodVars_none hV
 have hk:=of_decide_eq_true (hk0 _ rfl)
 simp only [List.append_nil,Rows.uptoBulkAll] at hk
 have lt0:∀ x ∈ p0,x.block < W.heap.size:=by obtain ⟨m,hm⟩:=h0;exact DataW.trod_lt m _ _ _ hm
 obtain ⟨fuel0,hf0⟩:=id h0
 obtain ⟨u0,l0,e0,s0⟩:=keys_of_trod hf0
 try dsimp only at s0
 obtain ⟨a0,n0,c0,rfl⟩:=okWide_slice Tryz.underlying22 (hval 0 22 v0 rfl rfl)
 simp only [Value.cells,List.cons.injEq,and_true] at e0
 subst e0
 have lt1:∀ x ∈ p1,x.block < W.heap.size:=by obtain ⟨m,hm⟩:=h1;exact DataW.trod_lt m _ _ _ hm
 obtain ⟨fuel1,hf1⟩:=id h1
 obtain ⟨u1,l1,e1,s1⟩:=dops_of_trodB hf1
 try dsimp only at s1
 obtain ⟨a1,n1,c1,rfl⟩:=okWide_slice Tryz.underlying23 (hval 1 23 v1 rfl rfl)
 simp only [Value.cells,List.cons.injEq,and_true] at e1
 subst e1
 clear hA0 hval0
 refine ((CodecWrites_ok s0 s1.1.1 htab s1.1.2 (by have:=s1.2;omega))).mono fun e W' ⟨v,he,hv,hg⟩=>?_
 subst he;subst hv
 have bel:Below W.heap.size W W':=Mod.below hg (Nat.le_refl _) fun _ h=>h.elim
 exact ⟨_,rfl,_,_,_,[],_,[],hW',trodAll_mk1 (shut_bool Tryz.underlying4 _),(trodAll_cons_mk (Below.trod laidOut (by kernel_rfl) (of_decide_eq_true (by kernel_rfl)) h0 bel lt0) (trodAll_cons_mk (Below.trod laidOut (by kernel_rfl) (of_decide_eq_true (by kernel_rfl)) h1 bel lt1) trodAll_mk0)),rfl,bel.frame _,fun h=>by cases h⟩
theorem CodecWrites_said:Rows.CodecWritesUptoSaid:=
 OpenClaim.holds_of_cond 3 Tryz.f3 rfl rfl rfl rfl rfl rfl rfl ⟨rfl,rfl,rfl,rfl,rfl⟩ rfl rfl rfl rfl rfl (by kernel_rfl) Tryz.func3 (by kernel_rfl)
  (of_decide_eq_true (by kernel_rfl)) (by unfold Func.isWrapper;first | (rw [if_pos (by decide +kernel)];kernel_rfl) | (rw [if_neg (by decide +kernel)];exact ⟨rfl,rfl⟩))
  (fun os started H enc _ F0=>CodecWrites_lifted os started H enc F0)
theorem CodecWritesUpto_proved:Rows.CodecWritesUptoCardSaid:=
 Claim7.holds_tied_plain_at .later [] [.data,.pinned] true Rows.codecWritesUptoCard.stood.harness false
  CodecWrites_said (fun _ h=>by cases h) (by kernel_rfl) (fun _ h=>by cases h) codecWritesUpto_row_tie rfl ⟨rfl,rfl⟩ (by kernel_rfl) rfl
  (fun f fn hf hfn=>by
   obtain rfl : f = 3 := Option.some.inj ((show Tryz.prog.funcNamed "rubric/rubriclaw17.CodecWrites" = some 3 by kernel_rfl).symm.trans hf) |>.symm
   obtain rfl:fn=Tryz.f3:=(Option.some.inj (Tryz.func3.symm.trans hfn)).symm
   exact ⟨by kernel_rfl,fun j t ht=>by
    rw [Tryz.params3] at ht
    have hm:t ∈ [22,23]:=by simpa using Array.mem_of_getElem? ht
    have hall:([22,23].all fun u=>!Tryz.prog.wantsStandIn u)=true:=by kernel_rfl
    exact (show Tryz.prog.wantsStandIn t=false by simpa using List.all_eq_true.1 hall t hm)⟩)
  (by kernel_rfl)
#print axioms CodecWritesUpto_proved
end Go.Proofs.YtgmpbihbdbmhoaaGreatDoor
