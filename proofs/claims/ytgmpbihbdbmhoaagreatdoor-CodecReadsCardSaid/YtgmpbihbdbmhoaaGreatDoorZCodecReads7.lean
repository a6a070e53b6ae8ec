/- CodecReads: for every input the law returns true, and each argument reads behind the call as it read before; the two tables tied. No conditions. -/
import Derived.Test.YtgmpbihbdbmhoaaGreatDoorZCodecReads6
import Derived.ProofKit
import Derived.Lib.SmallJoins
import Derived.Deep.Slices
import Derived.Test.YtgmpbihbdbmhoaaGreatDoorRows
import Derived.Lib.LaidU8
import Derived.Lib.LaidIn
import Derived.LaidHandle
import Derived.LaidMore
import Derived.MakeChecks
import Derived.Test.YtgmpbihbdbmhoaaGreatDoorTie
import Derived.Test.YtgmpbihbdbmhoaaGreatDoorCards
import Derived.WalkKit
import Derived.OpenShut
import Derived.ShutString
import Derived.ChangeOld
import Derived.ChangeVars
import Derived.JoinedOf
import Derived.SevenTiedAt
namespace Go.Proofs.YtgmpbihbdbmhoaaGreatDoor
open Go Go.K
def S13 (v0 v1:Value) (K:Cont) (w:World):Prop:=
 buildK [(0,1),(1,1),(2,1)] [(.slice none 0 0),(.int .i64 0),(.bool false)] [(0,v1)] fun t20=>
 boxnK 83 t20 (fun t21 w1=>
 JoinK (fun vs w2=>∀ _h:Env,
 JoinK (fun _vs_1 w3=>∀ _h_1:Env,
 callK Tryz.prog 23 [v0,(nth vs 0)] (fun t147 w4=>
 JoinK (fun _vs_2 w5=>∀ _h_2:Env,
 neK .i64 t147 (.int .i64 0) fun t156=>
 condK t156
 (K (.tuple #[(.slice none 0 0),t147]) w5)
 (K (.tuple #[(nth vs 0),(.int .i64 0)]) w5)) (fun J_2=>
 eqK .i64 t147 (.int .i64 3) fun t149=>
 condK t149
 (K (.tuple #[(.slice none 0 0),(.int .i64 3)]) w4)
 (callK Tryz.prog 38 [(nth vs 0)] (fun t152 w6=>
 notK t152 fun t153=>
 condK t153
 (K (.tuple #[(.slice none 0 0),(.int .i64 3)]) w6)
 (J_2 [] w6)) w4))) w3) (fun J_1=>
 nilckK t21 fun t133=>
 faK 2 t133 fun t134=>
 ld1K t134 (fun t135 w7=>
 condK t135
 (K (.tuple #[(.slice none 0 0),(.int .i64 3)]) w7)
 (nilckK t21 fun t138=>
 faK 1 t138 fun t139=>
 ld1K t139 (fun t140 w8=>
 lenK v1 fun t142=>
 neK .i64 t140 t142 fun t143=>
 condK t143
 (K (.tuple #[(.slice none 0 0),(.int .i64 3)]) w8)
 (J_1 [] w8)) w7)) w2)) (fun J=>
 callK Tryz.prog 32 [t21] (fun t23 w9=>
 LoopK [(.slice none 0 0),t23] (fun vs_3 again w10=>∀ _h_3:Env,
 JoinK (fun _vs_4 w11=>∀ _h_4:Env,
 buildK [(0,1),(1,1),(2,1),(3,1),(4,1)] [(.int .u8 0),(.int .i64 0),(.slice none 0 0),(.slice none 0 0),(.slice none 0 0)] [] fun t35=>
 newK 56 [(.int .u8 0),(.int .i64 0),(.slice none 0 0),(.slice none 0 0),(.slice none 0 0)] (fun t9 w12=>
 stnK 5 t9 t35 (fun w13=>
 callK Tryz.prog 32 [t21] (fun t37 w14=>
 JoinK (fun _vs_5 w15=>∀ _h_5:Env,
 ldnK 5 t9 (fun t129 w16=>
 rowK 56 5 1 [(.int .u8 0),(.int .i64 0),(.slice none 0 0),(.slice none 0 0),(.slice none 0 0)] [(0,t129)] (fun t130 w17=>
 runK Tryz.prog (Builtin.append_ #[23,23] 23 [(nth vs_3 0),t130].toArray) (fun t131 w18=>
 subK .u64 (nth vs_3 1) (.int .u64 1) fun t34=>
 again [t131,t34] w18) w17) w16) w15) (fun J_4=>
 eqK .u64 t37 (.int .u64 1) fun t43=>
 condK t43
 (faK 0 t9 fun t44=>
 st1K t44 (.int .u8 1) (fun w19=>
 callK Tryz.prog 33 [t21] (fun t46 w20=>
 faK 1 t9 fun t47=>
 st1K t47 t46 (fun w21=>
 callK Tryz.prog 32 [t21] (fun t49 w22=>
 LoopK [t49] (fun vs_6 again_1 w23=>∀ _h_6:Env,
 JoinK (fun _vs_7 w24=>∀ _h_7:Env,
 callK Tryz.prog 34 [t21] (fun t62 w25=>
 buildK [(0,1),(1,1),(2,4)] [(.int .i64 0),(.bool false),(.int .u8 0),(.int .i64 0),(.int .u64 0),(.string (ByteArray.mk #[]))] [(0,t62)] fun t63=>
 newK 63 [(.int .i64 0),(.bool false),(.int .u8 0),(.int .i64 0),(.int .u64 0),(.string (ByteArray.mk #[]))] (fun t12 w26=>
 stnK 6 t12 t63 (fun w27=>
 callK Tryz.prog 32 [t21] (fun t65 w28=>
 JoinK (fun _vs_8 w29=>∀ _h_8:Env,
 faK 4 t9 fun t73=>
 ld1K t73 (fun t74 w30=>
 ldnK 6 t12 (fun t75 w31=>
 rowK 63 6 1 [(.int .i64 0),(.bool false),(.int .u8 0),(.int .i64 0),(.int .u64 0),(.string (ByteArray.mk #[]))] [(0,t75)] (fun t76 w32=>
 runK Tryz.prog (Builtin.append_ #[54,54] 54 [t74,t76].toArray) (fun t77 w33=>
 faK 4 t9 fun t78=>
 st1K t78 t77 (fun w34=>
 subK .u64 (nth vs_6 0) (.int .u64 1) fun t60=>
 again_1 [t60] w34) w33) w32) w31) w30) w29) (fun J_6=>
 eqK .u64 t65 (.int .u64 0) fun t67=>
 condK t67
 (faK 1 t12 fun t68=>
 st1K t68 (.bool true) (fun w35=>
 J_6 [] w35) w28)
 (callK Tryz.prog 35 [t21,t65] (fun t71 w36=>
 faK 2 t12 fun t72=>
 stnK 4 t72 t71 (fun w37=>
 J_6 [] w37) w36) w28))) w27) w26) w25) w24) (fun J_5=>
 gtK .u64 (nth vs_6 0) (.int .u64 0) fun t51=>
 condK t51
 (nilckK t21 fun t54=>
 faK 2 t54 fun t55=>
 ld1K t55 (fun t56 w38=>
 notK t56 fun t57=>
 condK t57
 (J_5 [] w38)
 (J_4 [] w38)) w23)
 (J_4 [] w23))) w22) w21) w20) w19) w14)
 (eqK .u64 t37 (.int .u64 2) fun t80=>
 condK t80
 (faK 0 t9 fun t81=>
 st1K t81 (.int .u8 2) (fun w39=>
 callK Tryz.prog 37 [t21] (fun t84 w40=>
 callK Tryz.prog 36 [t84] (fun t85 w41=>
 extK 0 t85 fun t86=>
 extK 1 t85 fun t87=>
 JoinK (fun _vs_9 w42=>∀ _h_9:Env,
 faK 2 t9 fun t94=>
 st1K t94 t86 (fun w43=>
 callK Tryz.prog 32 [t21] (fun t96 w44=>
 LoopK [t96] (fun vs_10 again_2 w45=>∀ _h_10:Env,
 JoinK (fun _vs_11 w46=>∀ _h_11:Env,
 callK Tryz.prog 34 [t21] (fun t109 w47=>
 buildK [(0,1),(1,4)] [(.int .i64 0),(.int .u8 0),(.int .i64 0),(.int .u64 0),(.string (ByteArray.mk #[]))] [(0,t109)] fun t110=>
 newK 61 [(.int .i64 0),(.int .u8 0),(.int .i64 0),(.int .u64 0),(.string (ByteArray.mk #[]))] (fun t17 w48=>
 stnK 5 t17 t110 (fun w49=>
 callK Tryz.prog 32 [t21] (fun t113 w50=>
 callK Tryz.prog 35 [t21,t113] (fun t114 w51=>
 faK 1 t17 fun t115=>
 stnK 4 t115 t114 (fun w52=>
 faK 3 t9 fun t116=>
 ld1K t116 (fun t117 w53=>
 ldnK 5 t17 (fun t118 w54=>
 rowK 61 5 1 [(.int .i64 0),(.int .u8 0),(.int .i64 0),(.int .u64 0),(.string (ByteArray.mk #[]))] [(0,t118)] (fun t119 w55=>
 runK Tryz.prog (Builtin.append_ #[53,53] 53 [t117,t119].toArray) (fun t120 w56=>
 faK 3 t9 fun t121=>
 st1K t121 t120 (fun w57=>
 subK .u64 (nth vs_10 0) (.int .u64 1) fun t107=>
 again_2 [t107] w57) w56) w55) w54) w53) w52) w51) w50) w49) w48) w47) w46) (fun J_8=>
 gtK .u64 (nth vs_10 0) (.int .u64 0) fun t98=>
 condK t98
 (nilckK t21 fun t101=>
 faK 2 t101 fun t102=>
 ld1K t102 (fun t103 w58=>
 notK t103 fun t104=>
 condK t104
 (J_8 [] w58)
 (J_4 [] w58)) w45)
 (J_4 [] w45))) w44) w43) w42) (fun J_7=>
 neK .i64 t87 (.int .i64 0) fun t89=>
 condK t89
 (nilckK t21 fun t91=>
 faK 2 t91 fun t92=>
 st1K t92 (.bool true) (fun w59=>
 J_7 [] w59) w41)
 (J_7 [] w41))) w40) w39) w14)
 (eqK .u64 t37 (.int .u64 3) fun t123=>
 condK t123
 (faK 0 t9 fun t124=>
 st1K t124 (.int .u8 3) (fun w60=>
 callK Tryz.prog 33 [t21] (fun t126 w61=>
 faK 1 t9 fun t127=>
 st1K t127 t126 (fun w62=>
 J_4 [] w62) w61) w60) w14)
 (nilckK t21 fun t40=>
 faK 2 t40 fun t41=>
 st1K t41 (.bool true) (fun w63=>
 J_4 [] w63) w14))))) w13) w12) w11) (fun J_3=>
 gtK .u64 (nth vs_3 1) (.int .u64 0) fun t25=>
 condK t25
 (nilckK t21 fun t28=>
 faK 2 t28 fun t29=>
 ld1K t29 (fun t30 w64=>
 notK t30 fun t31=>
 condK t31
 (J_3 [] w64)
 (J [(nth vs_3 0)] w64)) w10)
 (J [(nth vs_3 0)] w10))) w9) w1)) w
theorem S13_eq (v0 v1:Value) (K:Cont) (w:World):S13 v0 v1 K w=D Tryz.prog okf 159 (bodyOf Tryz.f13) (.node [] [] .nil (.node [] [] .nil (.node [] [] .nil (.cut [7] [(7,17),(22,131)] (.node [] [] .nil (.node [7,8] [(7,17),(24,131)] (.cut [] [(24,32)] (.node [] [] .nil (.node [] [] .nil .nil)) (.node [] [] (.node [] [] .nil (.node [] [] .nil (.cut [] [(11,17),(38,127)] (.node [] [] .nil (.node [] [] .nil (.node [] [] (.node [] [] .nil (.node [] [] .nil (.node [] [] .nil (.node [11] [(11,13),(50,78)] (.cut [] [(50,58)] (.node [] [] .nil (.node [] [] .nil .nil)) (.node [] [] (.node [] [] .nil (.node [] [] .nil (.cut [] [(66,72)] (.node [] [] .nil (.node [] [] .nil .nil)) .nil))) .nil)) .nil)))) (.node [] [] .nil (.node [] [] (.node [] [] .nil (.node [] [] .nil (.cut [] [(88,92)] (.node [] [] .nil (.node [] [] .nil .nil)) (.node [] [] .nil (.node [] [] .nil (.node [16] [(16,17),(97,121)] (.cut [] [(97,105)] (.node [] [] .nil (.node [] [] .nil .nil)) (.node [] [] (.node [] [] .nil (.node [] [] .nil .nil)) .nil)) .nil)))))) (.node [] [] .nil (.node [] [] (.node [] [] .nil .nil) .nil))))))) .nil))) .nil)) .nil)) (.cut [] [(4,5),(132,144)] (.node [] [] .nil (.node [] [] (.node [] [] .nil .nil) .nil)) (.node [] [] .nil (.cut [] [(4,5),(148,154)] (.node [] [] .nil (.node [] [] (.node [] [] .nil .nil) .nil)) (.node [] [] (.node [] [] .nil (.node [] [] (.node [] [] .nil .nil) .nil)) (.node [] [] .nil .nil))))))))) (retK Tryz.prog [.tmp 4,.tmp 5] K) (nth [v0,v1]) w:=by kernel_rfl
theorem S13_ok {v0 v1:Value} {K:Cont} {w:World} (h:S13 v0 v1 K w):callK Tryz.prog 13 [v0,v1] K w:=
 callK_of (P:=Tryz.prog) (ok:=okf) (n:=159) (fn:=Tryz.f13) (c:=bodyOf Tryz.f13) (rs:=[.tmp 4,.tmp 5]) (an:=(.node [] [] .nil (.node [] [] .nil (.node [] [] .nil (.cut [7] [(7,17),(22,131)] (.node [] [] .nil (.node [7,8] [(7,17),(24,131)] (.cut [] [(24,32)] (.node [] [] .nil (.node [] [] .nil .nil)) (.node [] [] (.node [] [] .nil (.node [] [] .nil (.cut [] [(11,17),(38,127)] (.node [] [] .nil (.node [] [] .nil (.node [] [] (.node [] [] .nil (.node [] [] .nil (.node [] [] .nil (.node [11] [(11,13),(50,78)] (.cut [] [(50,58)] (.node [] [] .nil (.node [] [] .nil .nil)) (.node [] [] (.node [] [] .nil (.node [] [] .nil (.cut [] [(66,72)] (.node [] [] .nil (.node [] [] .nil .nil)) .nil))) .nil)) .nil)))) (.node [] [] .nil (.node [] [] (.node [] [] .nil (.node [] [] .nil (.cut [] [(88,92)] (.node [] [] .nil (.node [] [] .nil .nil)) (.node [] [] .nil (.node [] [] .nil (.node [16] [(16,17),(97,121)] (.cut [] [(97,105)] (.node [] [] .nil (.node [] [] .nil .nil)) (.node [] [] (.node [] [] .nil (.node [] [] .nil .nil)) .nil)) .nil)))))) (.node [] [] .nil (.node [] [] (.node [] [] .nil .nil) .nil))))))) .nil))) .nil)) .nil)) (.cut [] [(4,5),(132,144)] (.node [] [] .nil (.node [] [] (.node [] [] .nil .nil) .nil)) (.node [] [] .nil (.cut [] [(4,5),(148,154)] (.node [] [] .nil (.node [] [] (.node [] [] .nil .nil) .nil)) (.node [] [] (.node [] [] .nil (.node [] [] (.node [] [] .nil .nil) .nil)) (.node [] [] .nil .nil)))))))))) good mixed Tryz.func13 (by kernel_rfl) (by kernel_rfl) (by kernel_rfl) (by kernel_rfl) (Eq.mp (S13_eq v0 v1 K w) h)

def S32 (v0:Value) (K:Cont) (w:World):Prop:=
 DrawC [8] [[],[0],[0,1],[0,1,2],[],[4],[4,5],[4,5,6],[0,1,2,3,4,5,6,7],[0,1,2,3,4,5,6,7,8],[0,1,2,3,4,5,6,7,8,9],[0,1,2,3,4,5,6,7,8,9],[0,1,2,3,4,5,6,7,8,9],[0,1,2,3,4,5,6,7,8,9,10],[0,1,2,3,4,5,6,7,8,9,10,11,13],[0,1,2,3,4,5,6,7,8,9,10,11,12,13,14]] w.drew (fun M St=>
 nilckK v0 fun t8=>
 faK 0 t8 fun t9=>
 sld1 (St 3) t9 fun t10=>
 nilckK v0 fun t12=>
 faK 1 t12 fun t13=>
 sld1 (St 7) t13 fun t14=>
 callK Tryz.prog 73 [t10,t14] (fun t15 w1=>
 Mod (M 8) w.drew w1∧
 extK 0 t15 fun t16=>
 extK 1 t15 fun t17=>
 extK 2 t15 fun t18=>
 neK .i64 t18 (.int .i64 0) fun t20=>
 condK t20
 (nilckK v0 fun t22=>
 faK 2 t22 fun t23=>
 st1K t23 (.bool true) (fun w2=>
 K (.int .u64 0) w2) w1)
 (nilckK v0 fun t26=>
 faK 1 t26 fun t27=>
 st1K t27 t17 (fun w3=>
 K t16 w3) w1)) w.drew)
theorem S32_eq (v0:Value) (K:Cont) (w:World):S32 v0 K w=D Tryz.prog okf 29 (bodyOf Tryz.f32) (.node [] [] .nil (.node [] [] (.dc [8] [[],[0],[0,1],[0,1,2],[],[4],[4,5],[4,5,6],[0,1,2,3,4,5,6,7],[0,1,2,3,4,5,6,7,8],[0,1,2,3,4,5,6,7,8,9],[0,1,2,3,4,5,6,7,8,9],[0,1,2,3,4,5,6,7,8,9],[0,1,2,3,4,5,6,7,8,9,10],[0,1,2,3,4,5,6,7,8,9,10,11,13],[0,1,2,3,4,5,6,7,8,9,10,11,12,13,14]] []) (.node [] [] (.node [] [] .nil (.node [] [] (.node [] [] .nil (.node [] [] .nil .nil)) .nil)) (.node [] [] .nil (.node [] [] .nil .nil))))) (retK Tryz.prog [.tmp 2] K) (nth [v0]) w:=by kernel_rfl
theorem S32_ok {v0:Value} {K:Cont} {w:World} (h:S32 v0 K w):callK Tryz.prog 32 [v0] K w:=
 callK_of (P:=Tryz.prog) (ok:=okf) (n:=29) (fn:=Tryz.f32) (c:=bodyOf Tryz.f32) (rs:=[.tmp 2]) (an:=(.node [] [] .nil (.node [] [] (.dc [8] [[],[0],[0,1],[0,1,2],[],[4],[4,5],[4,5,6],[0,1,2,3,4,5,6,7],[0,1,2,3,4,5,6,7,8],[0,1,2,3,4,5,6,7,8,9],[0,1,2,3,4,5,6,7,8,9],[0,1,2,3,4,5,6,7,8,9],[0,1,2,3,4,5,6,7,8,9,10],[0,1,2,3,4,5,6,7,8,9,10,11,13],[0,1,2,3,4,5,6,7,8,9,10,11,12,13,14]] []) (.node [] [] (.node [] [] .nil (.node [] [] (.node [] [] .nil (.node [] [] .nil .nil)) .nil)) (.node [] [] .nil (.node [] [] .nil .nil)))))) good mixed Tryz.func32 (by kernel_rfl) (by kernel_rfl) (by kernel_rfl) (by kernel_rfl) (Eq.mp (S32_eq v0 K w) h)

def S33 (v0:Value) (K:Cont) (w:World):Prop:=
 callK Tryz.prog 32 [v0] (fun t5 w1=>
 gtK .u64 t5 (.int .u64 1073741824) fun t7=>
 condK t7
 (nilckK v0 fun t9=>
 faK 2 t9 fun t10=>
 st1K t10 (.bool true) (fun w2=>
 K (.int .i64 0) w2) w1)
 (runK Tryz.prog (convert 57 3 t5) (fun t12 w3=>
 K t12 w3) w1)) w
theorem S33_eq (v0:Value) (K:Cont) (w:World):S33 v0 K w=D Tryz.prog okf 13 (bodyOf Tryz.f33) (.node [] [] .nil (.node [] [] .nil (.node [] [] (.node [] [] .nil (.node [] [] (.node [] [] .nil (.node [] [] .nil .nil)) .nil)) (.node [] [] .nil .nil)))) (retK Tryz.prog [.tmp 2] K) (nth [v0]) w:=by kernel_rfl
theorem S33_ok {v0:Value} {K:Cont} {w:World} (h:S33 v0 K w):callK Tryz.prog 33 [v0] K w:=
 callK_of (P:=Tryz.prog) (ok:=okf) (n:=13) (fn:=Tryz.f33) (c:=bodyOf Tryz.f33) (rs:=[.tmp 2]) (an:=(.node [] [] .nil (.node [] [] .nil (.node [] [] (.node [] [] .nil (.node [] [] (.node [] [] .nil (.node [] [] .nil .nil)) .nil)) (.node [] [] .nil .nil))))) good mixed Tryz.func33 (by kernel_rfl) (by kernel_rfl) (by kernel_rfl) (by kernel_rfl) (Eq.mp (S33_eq v0 K w) h)

def S34 (v0:Value) (K:Cont) (w:World):Prop:=
 callK Tryz.prog 32 [v0] (fun t5 w1=>
 geK .u64 t5 (.int .u64 9223372036854775808) fun t7=>
 condK t7
 (nilckK v0 fun t9=>
 faK 2 t9 fun t10=>
 st1K t10 (.bool true) (fun w2=>
 K (.int .i64 0) w2) w1)
 (runK Tryz.prog (convert 57 3 t5) (fun t12 w3=>
 K t12 w3) w1)) w
theorem S34_eq (v0:Value) (K:Cont) (w:World):S34 v0 K w=D Tryz.prog okf 13 (bodyOf Tryz.f34) (.node [] [] .nil (.node [] [] .nil (.node [] [] (.node [] [] .nil (.node [] [] (.node [] [] .nil (.node [] [] .nil .nil)) .nil)) (.node [] [] .nil .nil)))) (retK Tryz.prog [.tmp 2] K) (nth [v0]) w:=by kernel_rfl
theorem S34_ok {v0:Value} {K:Cont} {w:World} (h:S34 v0 K w):callK Tryz.prog 34 [v0] K w:=
 callK_of (P:=Tryz.prog) (ok:=okf) (n:=13) (fn:=Tryz.f34) (c:=bodyOf Tryz.f34) (rs:=[.tmp 2]) (an:=(.node [] [] .nil (.node [] [] .nil (.node [] [] (.node [] [] .nil (.node [] [] (.node [] [] .nil (.node [] [] .nil .nil)) .nil)) (.node [] [] .nil .nil))))) good mixed Tryz.func34 (by kernel_rfl) (by kernel_rfl) (by kernel_rfl) (by kernel_rfl) (Eq.mp (S34_eq v0 K w) h)

def S35 (v0 v1:Value) (K:Cont) (w:World):Prop:=
 newK 59 [(.int .u8 0),(.int .i64 0),(.int .u64 0),(.string (ByteArray.mk #[]))] (fun t4 w1=>
 JoinK (fun vs w2=>∀ _h:Env,
 condK (nth vs 0)
 (runK Tryz.prog (convert 57 5 v1) (fun t10 w3=>
 callK Tryz.prog 32 [v0] (fun t12 w4=>
 callK Tryz.prog 74 [t12] (fun t13 w5=>
 buildK [(0,1),(1,1),(2,1),(3,1)] [(.int .u8 0),(.int .i64 0),(.int .u64 0),(.string (ByteArray.mk #[]))] [(0,t10),(1,t13)] fun t14=>
 stnK 4 t4 t14 (fun w6=>
 ldnK 4 t4 (fun r0 w7=>
 K r0 w7) w6) w5) w4) w3) w2)
 (eqK .u64 v1 (.int .u64 3) fun t16=>
 condK t16
 (callK Tryz.prog 32 [v0] (fun t18 w8=>
 buildK [(0,1),(1,1),(2,1),(3,1)] [(.int .u8 0),(.int .i64 0),(.int .u64 0),(.string (ByteArray.mk #[]))] [(0,(.int .u8 3)),(2,t18)] fun t19=>
 stnK 4 t4 t19 (fun w9=>
 ldnK 4 t4 (fun r0_1 w10=>
 K r0_1 w10) w9) w8) w2)
 (eqK .u64 v1 (.int .u64 4) fun t21=>
 condK t21
 (callK Tryz.prog 37 [v0] (fun t23 w11=>
 runK Tryz.prog (convert 31 9 t23) (fun t24 w12=>
 buildK [(0,1),(1,1),(2,1),(3,1)] [(.int .u8 0),(.int .i64 0),(.int .u64 0),(.string (ByteArray.mk #[]))] [(0,(.int .u8 4)),(3,t24)] fun t25=>
 stnK 4 t4 t25 (fun w13=>
 ldnK 4 t4 (fun r0_2 w14=>
 K r0_2 w14) w13) w12) w11) w2)
 (nilckK v0 fun t27=>
 faK 2 t27 fun t28=>
 st1K t28 (.bool true) (fun w15=>
 buildK [(0,1),(1,1),(2,1),(3,1)] [(.int .u8 0),(.int .i64 0),(.int .u64 0),(.string (ByteArray.mk #[]))] [] fun t29=>
 stnK 4 t4 t29 (fun w16=>
 ldnK 4 t4 (fun r0_3 w17=>
 K r0_3 w17) w16) w15) w2)))) (fun J=>
 eqK .u64 v1 (.int .u64 1) fun t7=>
 condK t7
 (J [t7] w1)
 (eqK .u64 v1 (.int .u64 2) fun t8=>
 J [t8] w1))) w
theorem S35_eq (v0 v1:Value) (K:Cont) (w:World):S35 v0 v1 K w=D Tryz.prog okf 30 (bodyOf Tryz.f35) (.node [] [] .nil (.node [] [] (.node [] [] .nil (.cut [6] [(6,8)] (.node [] [] .nil (.node [] [] .nil .nil)) (.node [] [] (.node [] [] .nil .nil) (.node [] [] .nil (.node [] [] (.node [] [] .nil .nil) (.node [] [] .nil (.node [] [] (.node [] [] .nil .nil) .nil))))))) (.node [] [] .nil (.node [] [] .nil .nil)))) (retK Tryz.prog [.cell 4 59] K) (nth [v0,v1]) w:=by kernel_rfl
theorem S35_ok {v0 v1:Value} {K:Cont} {w:World} (h:S35 v0 v1 K w):callK Tryz.prog 35 [v0,v1] K w:=
 callK_of (P:=Tryz.prog) (ok:=okf) (n:=30) (fn:=Tryz.f35) (c:=bodyOf Tryz.f35) (rs:=[.cell 4 59]) (an:=(.node [] [] .nil (.node [] [] (.node [] [] .nil (.cut [6] [(6,8)] (.node [] [] .nil (.node [] [] .nil .nil)) (.node [] [] (.node [] [] .nil .nil) (.node [] [] .nil (.node [] [] (.node [] [] .nil .nil) (.node [] [] .nil (.node [] [] (.node [] [] .nil .nil) .nil))))))) (.node [] [] .nil (.node [] [] .nil .nil))))) good mixed Tryz.func35 (by kernel_rfl) (by kernel_rfl) (by kernel_rfl) (by kernel_rfl) (Eq.mp (S35_eq v0 v1 K w) h)

def S37 (v0:Value) (K:Cont) (w:World):Prop:=
 DrawC [13] [[],[0],[0,1],[0,1,2],[],[4],[4,5],[4,5,6],[],[8],[8,9],[8,9,10],[8,9,10,11],[0,1,2,3,4,5,6,7,8,9,10,11,12],[0,1,2,3,4,5,6,7,8,9,10,11,12,13],[0,1,2,3,4,5,6,7,8,9,10,11,12,13,14],[0,1,2,3,4,5,6,7,8,9,10,11,12,13,14],[0,1,2,3,4,5,6,7,8,9,10,11,12,13,14],[0,1,2,3,4,5,6,7,8,9,10,11,12,13,14,15],[0,1,2,3,4,5,6,7,8,9,10,11,12,13,14,15,16,18],[0,1,2,3,4,5,6,7,8,9,10,11,12,13,14,15,16,17,18,19]] w.drew (fun M St=>
 nilckK v0 fun t8=>
 faK 0 t8 fun t9=>
 sld1 (St 3) t9 fun t10=>
 nilckK v0 fun t12=>
 faK 1 t12 fun t13=>
 sld1 (St 7) t13 fun t14=>
 nilckK v0 fun t16=>
 faK 0 t16 fun t17=>
 sld1 (St 11) t17 fun t18=>
 lenK t18 fun t19=>
 callK Tryz.prog 76 [t10,t14,t19] (fun t20 w1=>
 Mod (M 13) w.drew w1∧
 extK 0 t20 fun t21=>
 extK 1 t20 fun t22=>
 extK 2 t20 fun t23=>
 neK .i64 t23 (.int .i64 0) fun t25=>
 condK t25
 (nilckK v0 fun t27=>
 faK 2 t27 fun t28=>
 st1K t28 (.bool true) (fun w2=>
 K (.slice none 0 0) w2) w1)
 (nilckK v0 fun t31=>
 faK 1 t31 fun t32=>
 st1K t32 t22 (fun w3=>
 K t21 w3) w1)) w.drew)
theorem S37_eq (v0:Value) (K:Cont) (w:World):S37 v0 K w=D Tryz.prog okf 34 (bodyOf Tryz.f37) (.node [] [] .nil (.node [] [] (.dc [13] [[],[0],[0,1],[0,1,2],[],[4],[4,5],[4,5,6],[],[8],[8,9],[8,9,10],[8,9,10,11],[0,1,2,3,4,5,6,7,8,9,10,11,12],[0,1,2,3,4,5,6,7,8,9,10,11,12,13],[0,1,2,3,4,5,6,7,8,9,10,11,12,13,14],[0,1,2,3,4,5,6,7,8,9,10,11,12,13,14],[0,1,2,3,4,5,6,7,8,9,10,11,12,13,14],[0,1,2,3,4,5,6,7,8,9,10,11,12,13,14,15],[0,1,2,3,4,5,6,7,8,9,10,11,12,13,14,15,16,18],[0,1,2,3,4,5,6,7,8,9,10,11,12,13,14,15,16,17,18,19]] []) (.node [] [] (.node [] [] .nil (.node [] [] (.node [] [] .nil (.node [] [] .nil .nil)) .nil)) (.node [] [] .nil (.node [] [] .nil .nil))))) (retK Tryz.prog [.tmp 2] K) (nth [v0]) w:=by kernel_rfl
theorem S37_ok {v0:Value} {K:Cont} {w:World} (h:S37 v0 K w):callK Tryz.prog 37 [v0] K w:=
 callK_of (P:=Tryz.prog) (ok:=okf) (n:=34) (fn:=Tryz.f37) (c:=bodyOf Tryz.f37) (rs:=[.tmp 2]) (an:=(.node [] [] .nil (.node [] [] (.dc [13] [[],[0],[0,1],[0,1,2],[],[4],[4,5],[4,5,6],[],[8],[8,9],[8,9,10],[8,9,10,11],[0,1,2,3,4,5,6,7,8,9,10,11,12],[0,1,2,3,4,5,6,7,8,9,10,11,12,13],[0,1,2,3,4,5,6,7,8,9,10,11,12,13,14],[0,1,2,3,4,5,6,7,8,9,10,11,12,13,14],[0,1,2,3,4,5,6,7,8,9,10,11,12,13,14],[0,1,2,3,4,5,6,7,8,9,10,11,12,13,14,15],[0,1,2,3,4,5,6,7,8,9,10,11,12,13,14,15,16,18],[0,1,2,3,4,5,6,7,8,9,10,11,12,13,14,15,16,17,18,19]] []) (.node [] [] (.node [] [] .nil (.node [] [] (.node [] [] .nil (.node [] [] .nil .nil)) .nil)) (.node [] [] .nil (.node [] [] .nil .nil)))))) good mixed Tryz.func37 (by kernel_rfl) (by kernel_rfl) (by kernel_rfl) (by kernel_rfl) (Eq.mp (S37_eq v0 K w) h)

def S60 (v0:Value) (K:Cont) (w:World):Prop:=
 LoopK [v0,(.slice none 0 0)] (fun vs again w1=>∀ _h:Env,
 runK Tryz.prog (binS .rem 57 (.tmp 5) (.const (.int .u64 128)) (nth vs 0) (.int .u64 128)) (fun t6 w2=>
 runK Tryz.prog (convert 57 5 t6) (fun t7 w3=>
 runK Tryz.prog (binS .quo 57 (.tmp 8) (.const (.int .u64 128)) (nth vs 0) (.int .u64 128)) (fun t9 w4=>
 eqK .u64 t9 (.int .u64 0) fun t11=>
 condK t11
 (rowK 5 1 1 [(.int .u8 0)] [(0,t7)] (fun t14 w5=>
 runK Tryz.prog (Builtin.append_ #[31,31] 31 [(nth vs 1),t14].toArray) (fun t15 w6=>
 K t15 w6) w5) w4)
 (addK .u8 t7 (.int .u8 128) fun t18=>
 rowK 5 1 1 [(.int .u8 0)] [(0,t18)] (fun t19 w7=>
 runK Tryz.prog (Builtin.append_ #[31,31] 31 [(nth vs 1),t19].toArray) (fun t20 w8=>
 again [t9,t20] w8) w7) w4)) w3) w2) w1) w
theorem S60_eq (v0:Value) (K:Cont) (w:World):S60 v0 K w=D Tryz.prog okf 21 (bodyOf Tryz.f60) (.node [] [] .nil (.node [] [] .nil (.node [0,3] [(0,0),(2,20)] (.node [] [] .nil (.node [] [] .nil (.node [] [] (.node [] [] .nil (.node [] [] (.node [] [] .nil .nil) .nil)) .nil))) .nil))) (retK Tryz.prog [.tmp 2] K) (nth [v0]) w:=by kernel_rfl
theorem S60_ok {v0:Value} {K:Cont} {w:World} (h:S60 v0 K w):callK Tryz.prog 60 [v0] K w:=
 callK_of (P:=Tryz.prog) (ok:=okf) (n:=21) (fn:=Tryz.f60) (c:=bodyOf Tryz.f60) (rs:=[.tmp 2]) (an:=(.node [] [] .nil (.node [] [] .nil (.node [0,3] [(0,0),(2,20)] (.node [] [] .nil (.node [] [] .nil (.node [] [] (.node [] [] .nil (.node [] [] (.node [] [] .nil .nil) .nil)) .nil))) .nil)))) good mixed Tryz.func60 (by kernel_rfl) (by kernel_rfl) (by kernel_rfl) (by kernel_rfl) (Eq.mp (S60_eq v0 K w) h)

def S73 (v0 v1:Value) (K:Cont) (w:World):Prop:=
 JoinK (fun _vs w1=>∀ _h:Env,
 LoopK [(.int .u64 0),(.int .u64 1),(.int .i64 0)] (fun vs_1 again w2=>∀ _h_1:Env,
 JoinK (fun _vs_2 w3=>∀ _h_2:Env,
 addK .i64 v1 (nth vs_1 2) fun t35=>
 ixK 1 v0 t35 fun t36=>
 ld1K t36 (fun t37 w4=>
 runK Tryz.prog (binS .rem 5 (.tmp 39) (.const (.int .u8 128)) t37 (.int .u8 128)) (fun t40 w5=>
 runK Tryz.prog (convert 5 57 t40) (fun t41 w6=>
 mulK .u64 t41 (nth vs_1 1) fun t43=>
 addK .u64 (nth vs_1 0) t43 fun t44=>
 mulK .u64 (nth vs_1 1) (.int .u64 128) fun t46=>
 ltK .u8 t37 (.int .u8 128) fun t48=>
 condK t48
 (callK Tryz.prog 60 [t44] (fun t50 w7=>
 DrawG [1,8,9] [[],[0],[],[],[],[],[4,5],[4,5,6],[2,3,4,5,6,7],[2,3,4,5,6,7,8],[0,1,2,3,4,5,6,7,8,9]] w7.drew (fun A M _St=>
 (∀ w8:World,Mod (ButM [1,8,9] M 1) w7.drew w8→
 addK .i64 v1 (nth vs_1 2) fun t57=>
 addK .i64 t57 (.int .i64 1) fun _t58=>
 runK Tryz.prog (convert 31 9 t50) (fun t52 w9=>
 Mod (M 1) w8 w9∧A 1 t52 w9) w8)∧
 (∀ w10:World,Mod (ButM [1,8,9] M 8) w7.drew w10→
 addK .i64 v1 (nth vs_1 2) fun t57_1=>
 addK .i64 t57_1 (.int .i64 1) fun t58_1=>
 runK Tryz.prog (Instr.sliceAt 31 v0 (some v1) (some t58_1) none) (fun t59 w11=>
 Mod (M 8) w10 w11∧A 8 t59 w11) w10)∧
 (∀ w12:World,Mod (ButM [1,8,9] M 9) w7.drew w12→
 addK .i64 v1 (nth vs_1 2) fun t57_2=>
 addK .i64 t57_2 (.int .i64 1) fun _t58_2=>
 ∀ t59_1:Value,A 8 t59_1 w12→
 runK Tryz.prog (convert 31 9 t59_1) (fun t60 w13=>
 Mod (M 9) w12 w13∧A 9 t60 w13) w12)∧
 (∀ w14:World,Mod (AllM [1,8,9] M) w7.drew w14→
 ∀ t52_1:Value,A 1 t52_1 w14→
 addK .i64 v1 (nth vs_1 2) fun t57_3=>
 addK .i64 t57_3 (.int .i64 1) fun _t58_3=>
 ∀ t59_2:Value,A 8 t59_2 w14→
 ∀ t60_1:Value,A 9 t60_1 w14→
 sneK t52_1 t60_1 fun t61=>
 condK t61
 (K (.tuple #[(.int .u64 0),(.int .i64 0),(.int .i64 3)]) w14)
 (addK .i64 v1 (nth vs_1 2) fun t65=>
 addK .i64 t65 (.int .i64 1) fun t66=>
 K (.tuple #[t44,t66,(.int .i64 0)]) w14)))) w6)
 (addK .i64 (nth vs_1 2) (.int .i64 1) fun t31=>
 again [t44,t46,t31] w6)) w5) w4) w3) (fun J_1=>
 ltK .i64 (nth vs_1 2) (.int .i64 10) fun t21=>
 condK t21
 (addK .i64 v1 (nth vs_1 2) fun t25=>
 lenK v0 fun t27=>
 ltK .i64 t25 t27 fun t28=>
 condK t28
 (J_1 [] w2)
 (K (.tuple #[(.int .u64 0),(.int .i64 0),(.int .i64 3)]) w2))
 (K (.tuple #[(.int .u64 0),(.int .i64 0),(.int .i64 3)]) w2))) w1) (fun J=>
 ltK .i64 v1 (.int .i64 0) fun t13=>
 condK t13
 (K (.tuple #[(.int .u64 0),(.int .i64 0),(.int .i64 5)]) w)
 (lenK v0 fun t17=>
 gtK .i64 v1 t17 fun t18=>
 condK t18
 (K (.tuple #[(.int .u64 0),(.int .i64 0),(.int .i64 5)]) w)
 (J [] w)))
theorem S73_eq (v0 v1:Value) (K:Cont) (w:World):S73 v0 v1 K w=D Tryz.prog okf 67 (bodyOf Tryz.f73) (.node [] [] .nil (.cut [] [(4,6),(12,19)] (.node [] [] .nil (.node [] [] (.node [] [] .nil .nil) .nil)) (.node [] [] .nil (.node [] [] .nil (.node [] [] (.node [] [] .nil (.node [7,8,9] [(4,11),(20,66)] (.cut [] [(20,29)] (.node [] [] .nil (.node [] [] .nil .nil)) (.node [] [] (.node [] [] .nil (.node [] [] .nil (.node [] [] .nil (.node [] [] .nil (.node [] [] (.node [] [] .nil (.node [] [] (.node [] [] (.dg [1,8,9] [[],[0],[],[],[],[],[4,5],[4,5,6],[2,3,4,5,6,7],[2,3,4,5,6,7,8],[0,1,2,3,4,5,6,7,8,9]] []) (.node [] [] (.node [] [] .nil .nil) .nil)) (.node [] [] .nil .nil))) .nil))))) .nil)) .nil)) (.node [] [] .nil .nil)))))) (retK Tryz.prog [.tmp 4,.tmp 5,.tmp 6] K) (nth [v0,v1]) w:=by kernel_rfl
theorem S73_ok {v0 v1:Value} {K:Cont} {w:World} (h:S73 v0 v1 K w):callK Tryz.prog 73 [v0,v1] K w:=
 callK_of (P:=Tryz.prog) (ok:=okf) (n:=67) (fn:=Tryz.f73) (c:=bodyOf Tryz.f73) (rs:=[.tmp 4,.tmp 5,.tmp 6]) (an:=(.node [] [] .nil (.cut [] [(4,6),(12,19)] (.node [] [] .nil (.node [] [] (.node [] [] .nil .nil) .nil)) (.node [] [] .nil (.node [] [] .nil (.node [] [] (.node [] [] .nil (.node [7,8,9] [(4,11),(20,66)] (.cut [] [(20,29)] (.node [] [] .nil (.node [] [] .nil .nil)) (.node [] [] (.node [] [] .nil (.node [] [] .nil (.node [] [] .nil (.node [] [] .nil (.node [] [] (.node [] [] .nil (.node [] [] (.node [] [] (.dg [1,8,9] [[],[0],[],[],[],[],[4,5],[4,5,6],[2,3,4,5,6,7],[2,3,4,5,6,7,8],[0,1,2,3,4,5,6,7,8,9]] []) (.node [] [] (.node [] [] .nil .nil) .nil)) (.node [] [] .nil .nil))) .nil))))) .nil)) .nil)) (.node [] [] .nil .nil))))))) good mixed Tryz.func73 (by kernel_rfl) (by kernel_rfl) (by kernel_rfl) (by kernel_rfl) (Eq.mp (S73_eq v0 v1 K w) h)

def S74 (v0:Value) (K:Cont) (w:World):Prop:=
 runK Tryz.prog (binS .rem 57 (.tmp 3) (.const (.int .u64 2)) v0 (.int .u64 2)) (fun t4 w1=>
 eqK .u64 t4 (.int .u64 0) fun t5=>
 condK t5
 (runK Tryz.prog (binS .quo 57 (.tmp 6) (.const (.int .u64 2)) v0 (.int .u64 2)) (fun t7 w2=>
 runK Tryz.prog (convert 57 2 t7) (fun t8 w3=>
 K t8 w3) w2) w1)
 (runK Tryz.prog (binS .quo 57 (.tmp 9) (.const (.int .u64 2)) v0 (.int .u64 2)) (fun t10 w4=>
 runK Tryz.prog (convert 57 2 t10) (fun t11 w5=>
 runK Tryz.prog (Op.unary .neg t11) (fun t12 w6=>
 subK .i64 t12 (.int .i64 1) fun t13=>
 K t13 w6) w5) w4) w1)) w
theorem S74_eq (v0:Value) (K:Cont) (w:World):S74 v0 K w=D Tryz.prog okf 14 (bodyOf Tryz.f74) (.node [] [] .nil (.node [] [] (.node [] [] .nil (.node [] [] (.node [] [] .nil .nil) .nil)) (.node [] [] .nil .nil))) (retK Tryz.prog [.tmp 2] K) (nth [v0]) w:=by kernel_rfl
theorem S74_ok {v0:Value} {K:Cont} {w:World} (h:S74 v0 K w):callK Tryz.prog 74 [v0] K w:=
 callK_of (P:=Tryz.prog) (ok:=okf) (n:=14) (fn:=Tryz.f74) (c:=bodyOf Tryz.f74) (rs:=[.tmp 2]) (an:=(.node [] [] .nil (.node [] [] (.node [] [] .nil (.node [] [] (.node [] [] .nil .nil) .nil)) (.node [] [] .nil .nil)))) good mixed Tryz.func74 (by kernel_rfl) (by kernel_rfl) (by kernel_rfl) (by kernel_rfl) (Eq.mp (S74_eq v0 K w) h)

def S76 (v0 v1 v2:Value) (K:Cont) (w:World):Prop:=
 callK Tryz.prog 73 [v0,v1] (fun t15 w1=>
 extK 0 t15 fun t16=>
 extK 1 t15 fun t17=>
 extK 2 t15 fun t18=>
 neK .i64 t18 (.int .i64 0) fun t20=>
 condK t20
 (K (.tuple #[(.slice none 0 0),(.int .i64 0),t18]) w1)
 (JoinK (fun _vs w2=>∀ _h:Env,
 rowK 5 1 0 [] [] (fun t39 w3=>
 runK Tryz.prog (convert 57 3 t16) (fun t44 w4=>
 addK .i64 t17 t44 fun t45=>
 runK Tryz.prog (Instr.sliceAt 31 v0 (some t17) (some t45) none) (fun t46 w5=>
 runK Tryz.prog (Builtin.append_ #[31,31] 31 [t39,t46].toArray) (fun t47 w6=>
 runK Tryz.prog (convert 57 3 t16) (fun t50 w7=>
 addK .i64 t17 t50 fun t51=>
 K (.tuple #[t47,t51,(.int .i64 0)]) w7) w6) w5) w4) w3) w2) (fun J=>
 ltK .i64 v2 (.int .i64 0) fun t23=>
 condK t23
 (K (.tuple #[(.slice none 0 0),(.int .i64 0),(.int .i64 3)]) w1)
 (runK Tryz.prog (convert 3 57 v2) (fun t27 w8=>
 gtK .u64 t16 t27 fun t28=>
 condK t28
 (K (.tuple #[(.slice none 0 0),(.int .i64 0),(.int .i64 3)]) w8)
 (lenK v0 fun t33=>
 subK .i64 t33 t17 fun t35=>
 runK Tryz.prog (convert 3 57 t35) (fun t36 w9=>
 gtK .u64 t16 t36 fun t37=>
 condK t37
 (K (.tuple #[(.slice none 0 0),(.int .i64 0),(.int .i64 3)]) w9)
 (J [] w9)) w8)) w1)))) w
theorem S76_eq (v0 v1 v2:Value) (K:Cont) (w:World):S76 v0 v1 v2 K w=D Tryz.prog okf 52 (bodyOf Tryz.f76) (.node [] [] .nil (.node [] [] .nil (.node [] [] (.node [] [] .nil (.node [] [] (.node [] [] .nil .nil) .nil)) (.cut [] [(6,8),(22,38)] (.node [] [] .nil (.node [] [] (.node [] [] .nil .nil) .nil)) (.node [] [] .nil .nil))))) (retK Tryz.prog [.tmp 6,.tmp 7,.tmp 8] K) (nth [v0,v1,v2]) w:=by kernel_rfl
theorem S76_ok {v0 v1 v2:Value} {K:Cont} {w:World} (h:S76 v0 v1 v2 K w):callK Tryz.prog 76 [v0,v1,v2] K w:=
 callK_of (P:=Tryz.prog) (ok:=okf) (n:=52) (fn:=Tryz.f76) (c:=bodyOf Tryz.f76) (rs:=[.tmp 6,.tmp 7,.tmp 8]) (an:=(.node [] [] .nil (.node [] [] .nil (.node [] [] (.node [] [] .nil (.node [] [] (.node [] [] .nil .nil) .nil)) (.cut [] [(6,8),(22,38)] (.node [] [] .nil (.node [] [] (.node [] [] .nil .nil) .nil)) (.node [] [] .nil .nil)))))) good mixed Tryz.func76 (by kernel_rfl) (by kernel_rfl) (by kernel_rfl) (by kernel_rfl) (Eq.mp (S76_eq v0 v1 v2 K w) h)

def S4 (v0 v1:Value) (K:Cont) (w:World):Prop:=
 callK Tryz.prog 5 [v0] (fun t15 w1=>
 extK 0 t15 fun t16=>
 extK 1 t15 fun t17=>
 JoinK (fun _vs w2=>∀ _h:Env,
 rowK 5 1 0 [] [] (fun t26 w3=>
 runK Tryz.prog (Builtin.append_ #[31,31] 31 [t26,v1].toArray) (fun t28 w4=>
 callK Tryz.prog 12 [t16,t28] (fun t32 w5=>
 extK 0 t32 fun t33=>
 extK 1 t32 fun t34=>
 callK Tryz.prog 13 [v0,v1] (fun t38 w6=>
 extK 0 t38 fun t39=>
 extK 1 t38 fun t40=>
 JoinK (fun _vs_1 w7=>∀ _h_1:Env,
 lenK t28 fun t67=>
 LoopK [(.int .i64 0)] (fun vs_2 again w8=>∀ _h_2:Env,
 ltK .i64 (nth vs_2 0) t67 fun t69=>
 condK t69
 (ixK 1 t28 (nth vs_2 0) fun t73=>
 st1K t73 (.int .u8 255) (fun w9=>
 addK .i64 (nth vs_2 0) (.int .i64 1) fun t74=>
 again [t74] w9) w8)
 (callK Tryz.prog 11 [t33,t39] (fun t77 w10=>
 condK t77
 (callK Tryz.prog 7 [] (fun t79 w11=>
 K t79 w11) w10)
 (K (.bool false) w10)) w8)) w7) (fun J_1=>
 callK Tryz.prog 11 [t33,t39] (fun t43 w12=>
 notK t43 fun t44=>
 condK t44
 (K (.bool false) w12)
 (neK .i64 t34 t40 fun t48=>
 condK t48
 (K (.bool false) w12)
 (runK Tryz.prog (convert 31 9 t28) (fun t52 w13=>
 runK Tryz.prog (convert 31 9 v1) (fun t54 w14=>
 sneK t52 t54 fun t55=>
 condK t55
 (K (.bool false) w14)
 (neK .i64 t34 (.int .i64 0) fun t59=>
 condK t59
 (lenK t33 fun t62=>
 gtK .i64 t62 (.int .i64 0) fun t63=>
 condK t63
 (K (.bool false) w14)
 (J_1 [] w14))
 (J_1 [] w14))) w13) w12))) w6)) w5) w4) w3) w2) (fun J=>
 neK .i64 t17 (.int .i64 0) fun t19=>
 condK t19
 (callK Tryz.prog 7 [] (fun t25 w15=>
 K t25 w15) w1)
 (lenK v1 fun t22=>
 gtK .i64 t22 (.int .i64 600) fun t23=>
 condK t23
 (callK Tryz.prog 7 [] (fun t25_1 w16=>
 K t25_1 w16) w1)
 (J [] w1)))) w
theorem S4_eq (v0 v1:Value) (K:Cont) (w:World):S4 v0 v1 K w=D Tryz.prog okf 81 (bodyOf Tryz.f4) (.node [] [] .nil (.node [] [] .nil (.cut [] [(4,4),(18,25)] (.node [] [] .nil (.node [] [] (.node [] [] .nil .nil) .nil)) (.node [] [] .nil (.node [] [] .nil (.node [] [] .nil (.cut [] [(4,4),(41,65)] (.node [] [] .nil (.node [] [] (.node [] [] .nil .nil) .nil)) (.node [] [] (.node [] [] .nil (.node [68] [(12,12),(68,74)] (.node [] [] .nil (.node [] [] (.node [] [] .nil .nil) (.node [] [] (.node [] [] .nil .nil) .nil))) .nil)) (.node [] [] .nil .nil))))))))) (retK Tryz.prog [.tmp 4] K) (nth [v0,v1]) w:=by kernel_rfl
theorem S4_ok {v0 v1:Value} {K:Cont} {w:World} (h:S4 v0 v1 K w):callK Tryz.prog 4 [v0,v1] K w:=
 callK_of (P:=Tryz.prog) (ok:=okf) (n:=81) (fn:=Tryz.f4) (c:=bodyOf Tryz.f4) (rs:=[.tmp 4]) (an:=(.node [] [] .nil (.node [] [] .nil (.cut [] [(4,4),(18,25)] (.node [] [] .nil (.node [] [] (.node [] [] .nil .nil) .nil)) (.node [] [] .nil (.node [] [] .nil (.node [] [] .nil (.cut [] [(4,4),(41,65)] (.node [] [] .nil (.node [] [] (.node [] [] .nil .nil) .nil)) (.node [] [] (.node [] [] .nil (.node [68] [(12,12),(68,74)] (.node [] [] .nil (.node [] [] (.node [] [] .nil .nil) (.node [] [] (.node [] [] .nil .nil) .nil))) .nil)) (.node [] [] .nil .nil)))))))))) good mixed Tryz.func4 (by kernel_rfl) (by kernel_rfl) (by kernel_rfl) (by kernel_rfl) (Eq.mp (S4_eq v0 v1 K w) h)

end Go.Proofs.YtgmpbihbdbmhoaaGreatDoor

namespace Go.Proofs.YtgmpbihbdbmhoaaGreatDoor
open Go Go.K

theorem rem128 {n:Nat} {t:TypeId} {xo yo:Operand} {K:Cont} {w:World} (h:K (.int .u64 ((n % 128:Nat):Int)) w):runK Tryz.prog (binS .rem t xo yo (.int .u64 n) (.int .u64 128)) K w:=by
 refine rem_i (by decide) ?_
 rw [Int.tmod_eq_emod_of_nonneg (by omega)]
 exact_mod_cast h
theorem quo128 {n:Nat} {t:TypeId} {xo yo:Operand} {K:Cont} {w:World} (hn:n < 18446744073709551616) (h:K (.int .u64 ((n / 128:Nat):Int)) w):runK Tryz.prog (binS .quo t xo yo (.int .u64 n) (.int .u64 128)) K w:=by
 refine quo_i (by decide) ?_
 rw [Int.tdiv_eq_ediv_of_nonneg (by omega),wrapu64 ⟨by omega,by omega⟩]
 exact_mod_cast h
theorem form_bytes {n:Nat} {w:World} (hn:n < 18446744073709551616):callK Tryz.prog 60 [.int .u64 n] (fun v' w'=>OBytes w.heap.size w' v' (uv n)∧Grow w w') w:=by
 apply S60_ok
 unfold S60
 have e128:(128:Nat) ^ (9+1)=1180591620717411303424:=by decide
 refine LoopK_i (fun vs W1=>∃ (f m:Nat) (pre:List Int) (ov:Value),vs=[.int .u64 m,ov]∧uv n=pre++uvB f m∧m < 128 ^ (f+1)∧m < 18446744073709551616∧pre.length+f=9∧OBytes w.heap.size W1 ov pre∧Grow w W1) (fun vs _=>iOf vs 0)
  ⟨9,n,[],.slice none 0 0,rfl,rfl,by omega,hn,rfl,OwnR.nil,Mod.refl _ _⟩ ?_
 rintro vs W1 ⟨f,m,pre,ov,rfl,hu,hm,hm2,hf,ho,g⟩ _
 simp only [nth_s,nth_z,List.headD_cons,List.tail_cons]
 refine rem128 ?_
 refine conv64_8 ?_
 rw [show (((m % 128:Nat):Int) % 256)=((m % 128:Nat):Int) by omega]
 refine quo128 hm2 ?_
 rw [eqK_i]
 refine condK_p (fun h0=>?_) fun h0=>?_
 ·have hend:uvB f m=[(m:Int)]:=uvB_small (by omega)
  rw [show m % 128=m by omega]
  refine push_n (w0:=w) elem_byte ho g (cs:=[.int .u8 (m:Int)]) (x:=(m:Int)) (by kernel_rfl) rfl rfl (fun _ _ _=>RByte.one) (fun _ _ _ _ _ _ h=>h) (by omega) (by simp only [maxLen];omega) fun v' w' o' g'=>?_
  rw [hu,hend]
  exact ⟨o',g'⟩
 ·cases f with
  | zero=>simp at hm;omega
  | succ f=>
   rw [addK_i,wrapu8 (by omega) (by omega),show (((m % 128:Nat):Int)+128)=((m % 128+128:Nat):Int) by omega]
   obtain ⟨d,hd⟩:∃ d:Int,d=((m % 128+128:Nat):Int):=⟨_,rfl⟩
   rw [←hd]
   refine push_n (w0:=w) elem_byte ho g (cs:=[.int .u8 d]) (x:=d) (by kernel_rfl) rfl rfl (fun _ _ _=>RByte.one) (fun _ _ _ _ _ _ h=>h) (by omega) (by simp only [maxLen];omega) fun v' w' o' g'=>?_
   refine ⟨⟨f,m / 128,pre++[d],v',rfl,?_,?_,by omega,by simp;omega,o',g'⟩,?_⟩
   ·rw [hu,uvB_great (by omega),hd];simp
   ·rw [Nat.pow_succ] at hm
    exact Nat.div_lt_of_lt_mul (by omega)
   ·rw [iOf0,iOf0];omega
theorem back_ok {n:Nat} {w:World} (hn:n < 18446744073709551616):callK Tryz.prog 74 [.int .u64 n] (fun v' w'=>v'=.int .i64 (unzig n)∧w'=w) w:=by
 apply S74_ok
 unfold S74
 have eneg:∀ x:Int,(Op.unary .neg (.int .i64 x)).run Tryz.prog w=.ok (.int .i64 (IntKind.i64.wrap (-x))) w:=fun x=>by simp [Op.unary,Op.intArith]
 have eq2:∀ {K:Cont} {t:TypeId} {xo yo:Operand},K (.int .u64 ((n / 2:Nat):Int)) w→runK Tryz.prog (binS .quo t xo yo (.int .u64 n) (.int .u64 2)) K w:=fun {K t xo yo} h=>by
  refine quo_i (by decide) ?_
  rw [Int.tdiv_eq_ediv_of_nonneg (by omega),wrapu64 ⟨by omega,by omega⟩]
  exact_mod_cast h
 refine rem_i (by decide) ?_
 rw [Int.tmod_eq_emod_of_nonneg (by omega),eqK_i]
 unfold unzig
 refine condK_p (fun h0=>?_) fun h0=>?_
 ·refine eq2 ?_
  refine runK_i (run_conv (k:=.i64) w (by kernel_rfl) (by kernel_rfl)) ?_
  rw [wrap64 (by omega) (by omega),if_pos (by omega)]
  exact ⟨rfl,rfl⟩
 ·refine eq2 ?_
  refine runK_i (run_conv (k:=.i64) w (by kernel_rfl) (by kernel_rfl)) ?_
  rw [wrap64 (by omega) (by omega)]
  refine runK_i (eneg _) ?_
  rw [wrap64 (by omega) (by omega),subK_i,wrap64 (by omega) (by omega),if_neg (by omega)]
  exact ⟨rfl,rfl⟩
end Go.Proofs.YtgmpbihbdbmhoaaGreatDoor

namespace Go.Proofs.YtgmpbihbdbmhoaaGreatDoor
open Go Go.K

def key17:List DKey:=[⟨5,false,2,false,false,0⟩]
def del17:List Dop:=[⟨1,2,[],[],[]⟩,⟨2,0,[97],[],[]⟩,⟨2,0,[98],[],[]⟩]
def pat17:List Dop:=[⟨1,1,[],[],[⟨5,false,⟨2,3,0,noS⟩⟩]⟩]
theorem decB_norm {ks:List DKey} {x:List Dop} (hk:∀ k ∈ ks,0≤k.id) (h:mayOps ks x=0) (hb:∀ o ∈ x,InB o) (hl:x.length≤1048576):decB ks (encL (normB x))=(normB x,0):=by
 obtain ⟨h1,_,h3,h4,h5⟩:=norm_may hk h hb hl
 have hr:=may_rof (x:=normB x) (by rw [h1];decide) (by omega)
 rw [h4] at hr
 rw [decB_enc h3 (by rw [h1];decide) hr.symm,if_pos h1]
theorem may17:mayOps key17 []=0∧mayOps key17 del17=0∧mayOps key17 pat17=0:=by
 refine ⟨good_may (by simp) (by decide),good_may (fun o ho=>?_) (by decide),good_may (fun o ho=>?_) (by decide)⟩
 ·simp only [del17,List.mem_cons,List.not_mem_nil,or_false] at ho
  rcases ho with rfl | rfl | rfl
  ·exact .inl ⟨rfl,rfl,rfl,by decide,patK_nil⟩
  ·exact .inr (.inr ⟨rfl,fun r hr=>by simp at hr;subst hr;unfold MayR;decide,rfl,rfl,by simp,setK_nil⟩)
  ·exact .inr (.inr ⟨rfl,fun r hr=>by simp at hr;subst hr;unfold MayR;decide,rfl,rfl,by simp,setK_nil⟩)
 ·simp only [pat17,List.mem_cons,List.not_mem_nil,or_false] at ho
  subst ho
  refine .inl ⟨rfl,rfl,rfl,by decide,⟨List.pairwise_singleton _ _,by simp,fun c hc=>?_⟩⟩
  simp at hc;subst hc
  refine ⟨fun h=>(by cases h),fun _=>⟨.inr (.inl ⟨rfl,rfl⟩),⟨_,rfl,.inr (.inl ⟨rfl,rfl⟩),rfl⟩⟩,by decide⟩
theorem inb17:(∀ o ∈ del17,InB o)∧∀ o ∈ pat17,InB o:=by
 refine ⟨fun o ho=>?_,fun o ho=>?_⟩
 ·simp only [del17,List.mem_cons,List.not_mem_nil,or_false] at ho
  rcases ho with rfl | rfl | rfl <;> exact ⟨by simp,by simp⟩
 ·simp only [pat17,List.mem_cons,List.not_mem_nil,or_false] at ho
  subst ho
  refine ⟨by simp,fun c hc=>?_⟩
  simp at hc;subst hc
  exact ⟨by decide,⟨by decide,by decide⟩,by decide,by decide⟩
theorem bytes17:encL (normB [])=[0]∧encL (normB del17)=[2,1,2,0,2,2,97,98,0]∧encL (normB pat17)=[1,1,1,1,5,2,6]∧normB pat17=pat17:=by
 refine ⟨by decide +kernel,by decide +kernel,by decide +kernel,by decide +kernel⟩
theorem str17:strOf [0]=ByteArray.mk #[0]∧strOf [2,1,2,0,2,2,97,98,0]=ByteArray.mk #[2,1,2,0,2,2,97,98,0]∧strOf [1,1,1,1,5,2,6]=ByteArray.mk #[1,1,1,1,5,2,6]:=by
 refine ⟨by kernel_rfl,by kernel_rfl,by kernel_rfl⟩
theorem known17_ok {w:World} (hT:Tabs w):callK Tryz.prog 7 [] (fun v w'=>v=.bool true∧Grow w w') w:=by
 apply S7_ok
 unfold S7
 refine ⟨(⟨5,false,2,false,false,0⟩:DKey).cells.toArray,by kernel_rfl,?_⟩
 refine rowK_i (cs:=(key17.map DKey.cells).flatten) (by kernel_rfl) ?_
 have hK:=sl_keys (w:=w) key17 (by decide)
 have g1:Grow w (w.alloc (.cells (key17.map DKey.cells).flatten.toArray 43)):=Mod.alloc _ _ _
 show callK Tryz.prog 5 [.slice (some ⟨w.heap.size,0,none⟩) 1 1] _ _
 generalize w.alloc (.cells (key17.map DKey.cells).flatten.toArray 43)=w1 at hK g1 ⊢
 refine callK_mono (new_key_ok hK) ?_
 rintro _ w2 ⟨g2,hr⟩
 have hM:MayKeys key17:=mayk_iff.2 ⟨by decide,fun k hk=>by
  simp only [key17,List.mem_cons,List.not_mem_nil,or_false] at hk
  subst hk;unfold KeyOK;decide,by unfold Dist;decide⟩
 rcases hr with ⟨_,sv,ks,rfl,hp,hs,hS⟩ | ⟨hn,_⟩
 rotate_left
 ·exact (hn hM).elim
 have hks:ks=key17:=List.perm_singleton.1 hp
 subst hks
 have hkp:∀ k ∈ key17,0≤k.id:=fun k hk=>by
  simp only [key17,List.mem_cons,List.not_mem_nil,or_false] at hk
  subst hk;decide
 refine extK_i (vs:=[_,_]) (by rfl) (extK_i (vs:=[_,_]) (by rfl) ?_)
 obtain ⟨m1,m2,m3⟩:=may17
 obtain ⟨i2,i3⟩:=inb17
 obtain ⟨b1,b2,b3,b4⟩:=bytes17
 obtain ⟨t1,t2,t3⟩:=str17
 have g02:=g1.trans g2
 refine callK_mono (encode_ok hS (SlR.nil:RDops (fun _=>True) (fun _=>True) w2 (.slice none 0 0) []) (hT.grow g02) (by simp) hkp (by decide)) ?_
 rintro _ w3 ⟨g3,bv1,rfl,ob1,_⟩
 have ob1:=ob1 m1
 rw [m1]
 refine extK_i (vs:=[_,_]) (by rfl) (extK_i (vs:=[_,_]) (by rfl) ?_)
 refine ⟨#[.int .u8 1,.int .i64 2,.slice none 0 0,.slice none 0 0,.slice none 0 0],by kernel_rfl,?_⟩
 refine row1_i fun w4 g4 z4 c4=>?_
 have r4:=run1 (w:=w) c4
 generalize Value.slice (some ⟨w3.heap.size,0,none⟩) 1 1=v4 at r4 ⊢
 obtain ⟨p4,q4,rfl,_⟩:=r4.shape
 refine ⟨#[.int .u8 2,.int .i64 0,.slice p4 1 q4,.slice none 0 0,.slice none 0 0],by kernel_rfl,?_⟩
 refine row1_i fun w5 g5 z5 c5=>?_
 have r5:=run1 (w:=w) c5
 generalize Value.slice (some ⟨w4.heap.size,0,none⟩) 1 1=v5 at r5 ⊢
 obtain ⟨p5,q5,rfl,_⟩:=r5.shape
 refine ⟨#[.int .u8 2,.int .i64 0,.slice p5 1 q5,.slice none 0 0,.slice none 0 0],by kernel_rfl,?_⟩
 let rows:List (List Value):=[row5 ⟨1,2,[],[],[]⟩ (.slice none 0 0) (.slice none 0 0) (.slice none 0 0),row5 ⟨2,0,[97],[],[]⟩ (.slice p4 1 q4) (.slice none 0 0) (.slice none 0 0),row5 ⟨2,0,[98],[],[]⟩ (.slice p5 1 q5) (.slice none 0 0) (.slice none 0 0)]
 refine rowK_i (cs:=rows.flatten) (by kernel_rfl) ?_
 have g6:Grow w5 (w5.alloc (.cells rows.flatten.toArray 56)):=Mod.alloc _ _ _
 have hL:RDops (fun b=>b=w5.heap.size) (fun _=>True) (w5.alloc (.cells rows.flatten.toArray 56)) (.slice (some ⟨w5.heap.size,0,none⟩) 3 3) del17:=by
  refine SlR.made (l:=del17) (t:=56) rows (by simp [rows]) rfl (by simp [maxLen,del17]) fun i r x hr hx=>?_
  match i with
  | 0=>cases hr;cases hx;exact ⟨_,_,_,rfl,SlR.nil,SlR.nil,SlR.nil⟩
  | 1=>cases hr;cases hx;exact ⟨_,_,_,rfl,(r4.grow g5 (by decide) fun _ _ h=>h).grow g6 (by decide) fun _ _ h=>h,SlR.nil,SlR.nil⟩
  | 2=>cases hr;cases hx;exact ⟨_,_,_,rfl,r5.grow g6 (by decide) fun _ _ h=>h,SlR.nil,SlR.nil⟩
  | i+3=>simp [rows] at hr
 generalize w5.alloc (.cells rows.flatten.toArray 56)=w6 at hL g6 ⊢
 have g26:=((g3.trans g4).trans g5).trans g6
 have g06:=g02.trans g26
 refine callK_mono (encode_ok (hS.grow g26) hL (hT.grow g06) i2 hkp (by decide +kernel)) ?_
 rintro _ w7 ⟨g7,bv2,rfl,ob2,_⟩
 have ob2:=ob2 m2
 rw [m2]
 refine extK_i (vs:=[_,_]) (by rfl) (extK_i (vs:=[_,_]) (by rfl) ?_)
 refine ⟨(⟨2,3,0,noS⟩:AVal).cells.toArray,by kernel_rfl,⟨(⟨5,false,⟨2,3,0,noS⟩⟩:Chg).cells.toArray,by kernel_rfl,?_⟩⟩
 refine rowK_i (cs:=(⟨5,false,⟨2,3,0,noS⟩⟩:Chg).cells) (by kernel_rfl) ?_
 have g8:Grow w7 (w7.alloc (.cells (⟨5,false,⟨2,3,0,noS⟩⟩:Chg).cells.toArray 63)):=Mod.alloc _ _ _
 have hP:RPat (fun _=>True) (w7.alloc (.cells (⟨5,false,⟨2,3,0,noS⟩⟩:Chg).cells.toArray 63)) (.slice (some ⟨w7.heap.size,0,none⟩) 1 1) [⟨5,false,⟨2,3,0,noS⟩⟩]:=
  (SlR.made (R:=RChg) (l:=[(⟨5,false,⟨2,3,0,noS⟩⟩:Chg)]) (t:=63) (w:=w7) [(⟨5,false,⟨2,3,0,noS⟩⟩:Chg).cells] (fun r hr=>by rw [List.mem_singleton.1 hr];rfl) rfl (by simp [maxLen]) fun i r x hr hx=>by
   match i with
   | 0=>cases hr;cases hx;rfl
   | i+1=>simp at hr).sub (fun _ _ _=>trivial) (by decide) fun _ _ h=>h
 generalize w7.alloc (.cells (⟨5,false,⟨2,3,0,noS⟩⟩:Chg).cells.toArray 63)=w8 at hP g8 ⊢
 generalize Value.slice (some ⟨w7.heap.size,0,none⟩) 1 1=v8 at hP ⊢
 obtain ⟨p8,q8,rfl,_⟩:=hP.shape
 refine ⟨#[.int .u8 1,.int .i64 1,.slice none 0 0,.slice none 0 0,.slice p8 1 q8],by kernel_rfl,?_⟩
 let rows2:List (List Value):=[row5 ⟨1,1,[],[],[]⟩ (.slice none 0 0) (.slice none 0 0) (.slice p8 1 q8)]
 refine rowK_i (cs:=rows2.flatten) (by kernel_rfl) ?_
 have g9:Grow w8 (w8.alloc (.cells rows2.flatten.toArray 56)):=Mod.alloc _ _ _
 have hM:RDops (fun b=>b=w8.heap.size) (fun _=>True) (w8.alloc (.cells rows2.flatten.toArray 56)) (.slice (some ⟨w8.heap.size,0,none⟩) 1 1) pat17:=by
  refine SlR.made (l:=pat17) (t:=56) rows2 (by simp [rows2]) rfl (by simp [maxLen,pat17]) fun i r x hr hx=>?_
  match i with
  | 0=>cases hr;cases hx;exact ⟨_,_,_,rfl,SlR.nil,SlR.nil,hP.grow g9 (by decide) fun _ _ h=>h⟩
  | i+1=>simp [rows2] at hr
 generalize w8.alloc (.cells rows2.flatten.toArray 56)=w9 at hM g9 ⊢
 have g69:=(g7.trans g8).trans g9
 have g29:=g26.trans g69
 have g09:=g02.trans g29
 refine callK_mono (encode_ok (hS.grow g29) hM (hT.grow g09) i3 hkp (by decide +kernel)) ?_
 rintro _ w10 ⟨g10,bv3,rfl,ob3,_⟩
 have ob3:=ob3 m3
 rw [m3]
 refine extK_i (vs:=[_,_]) (by rfl) (extK_i (vs:=[_,_]) (by rfl) ?_)
 have hd3:=decB_norm hkp m3 i3 (by decide +kernel)
 rw [b3,b4] at hd3
 rw [b3] at ob3
 rw [b2] at ob2
 rw [b1] at ob1
 refine callK_mono (decode_ok (hS.grow (g29.trans g10)) (OwnR.sl ob3) (by decide) (hT.grow (g09.trans g10)) (by decide)) ?_
 rintro _ w11 ⟨g11,xv,rfl,hx⟩
 rw [hd3] at hx ⊢
 refine extK_i (vs:=[_,_]) (by rfl) (extK_i (vs:=[_,_]) (by rfl) ?_)
 simp only [eqK_i,decide_true]
 refine condK_t (condK_t (condK_t (condK_t (condK_t ?_))))
 have g911:=g10.trans g11
 refine runK_i (run_str ((OwnR.sl ob1).grow (((g4.trans g5).trans g6).trans (g69.trans g911)) (by decide) fun _ _ h=>h) (by unfold ByteL;decide)) ?_
 rw [t1,seqK_i,decide_eq_true rfl]
 refine condK_t ?_
 refine runK_i (run_str ((OwnR.sl ob2).grow ((g8.trans g9).trans g911) (by decide) fun _ _ h=>h) (by unfold ByteL;decide)) ?_
 rw [t2,seqK_i,decide_eq_true rfl]
 refine condK_t ?_
 refine runK_i (run_str ((OwnR.sl ob3).grow g11 (by decide) fun _ _ h=>h) (by unfold ByteL;decide)) ?_
 rw [t3,seqK_i,decide_eq_true rfl]
 refine condK_t ?_
 refine callK_mono (rsame_dops hx (hM.grow g911)) ?_
 rintro _ w12 ⟨rfl,g12⟩
 exact ⟨by rw [decide_eq_true rfl],(g09.trans g911).trans g12⟩
end Go.Proofs.YtgmpbihbdbmhoaaGreatDoor

namespace Go.Proofs.YtgmpbihbdbmhoaaGreatDoor
open Go Go.K

theorem strOf_inj {a b:List Int} (ha:ByteL a) (hb:ByteL b):strOf a=strOf b↔a=b:=
 ⟨fun h=>by rw [←bytesL_strOf ha,h,bytesL_strOf hb],fun h=>by rw [h]⟩
end Go.Proofs.YtgmpbihbdbmhoaaGreatDoor

namespace Go.Proofs.YtgmpbihbdbmhoaaGreatDoor
open Go Go.K

def digs:List Int→Nat
 | []=>0
 | x :: t=>(x % 128).toNat+128 * digs t
theorem digs_snoc (l:List Int) (x:Int):digs (l++[x])=digs l+128 ^ l.length * (x % 128).toNat:=by
 induction l with
 | nil=>simp [digs]
 | cons y l ih=>simp only [List.cons_append,digs,ih,List.length_cons,Nat.pow_succ,Nat.mul_add,Nat.mul_assoc,Nat.mul_left_comm];omega
theorem uvB_shape:∀ (f n:Nat),n < 128 ^ (f+1)→∃ (pre:List Int) (z:Int),uvB f n=pre++[z]∧(∀ x ∈ pre,128≤x)∧z < 128∧pre.length≤f∧digs (uvB f n)=n:=by
 intro f
 induction f with
 | zero=>intro n hn;exact ⟨[],n,rfl,by simp,by omega,Nat.le_refl _,by simp [uvB,digs];omega⟩
 | succ f ih=>
  intro n hn
  by_cases h:n≤127
  ·rw [uvB_small h]
   exact ⟨[],n,rfl,by simp,by omega,by simp,by simp [digs];omega⟩
  ·rw [uvB_great (by omega)]
   obtain ⟨pre,z,e1,e2,e3,e4,e5⟩:=ih (n / 128) (Nat.div_lt_of_lt_mul (by rw [Nat.pow_succ] at hn;omega))
   refine ⟨((n % 128+128:Nat):Int) :: pre,z,by rw [e1];rfl,fun x hx=>?_,e3,by simp;omega,?_⟩
   ·rcases List.mem_cons.1 hx with rfl | hx
    ·omega
    ·exact e2 x hx
   ·simp only [digs,e5]
    omega
theorem uv_shape {n:Nat} (hn:n < 18446744073709551616):∃ (pre:List Int) (z:Int),uv n=pre++[z]∧(∀ x ∈ pre,128≤x)∧z < 128∧pre.length≤9∧digs (uv n)=n:=by
 have e128:(128:Nat) ^ (9+1)=1180591620717411303424:=by decide
 exact uvB_shape 9 n (by omega)
theorem uv_end {n i:Nat} {l t:List Int} (hn:n < 18446744073709551616) (e:l=uv n++t) (hi:i < l.length) (hg:∀ x ∈ l.take i,128≤x) (hx:l[i] < 128):uv n=l.take (i+1):=by
 obtain ⟨pre,z,e1,e2,e3,_,_⟩:=uv_shape hn
 have hpl:pre.length=i:=by
  have hz:l[pre.length]?=some z:=by rw [e,e1];simp
  rcases Nat.lt_trichotomy pre.length i with h | h | h
  ·have hm:z ∈ l.take i:=List.mem_iff_getElem?.2 ⟨pre.length,by rw [List.getElem?_take_of_lt h];exact hz⟩
   have:=hg z hm;omega
  ·exact h
  ·have:l[i]?=pre[i]?:=by rw [e,e1,List.append_assoc,List.getElem?_append_left h]
   rw [List.getElem?_eq_getElem hi,List.getElem?_eq_getElem h] at this
   have h1:=e2 _ (List.getElem_mem h)
   have h2:=Option.some.inj this
   omega
 rw [e,e1,←hpl]
 exact (List.take_left' (by simp)).symm
theorem uv_long {n i:Nat} {l t:List Int} (hn:n < 18446744073709551616) (e:l=uv n++t) (hi:i=l.length∨10≤i) (hg:∀ x ∈ l.take i,128≤x):False:=by
 obtain ⟨pre,z,e1,e2,e3,e4,_⟩:=uv_shape hn
 have hz:l[pre.length]?=some z:=by rw [e,e1];simp
 have hlt:pre.length < l.length:=(List.getElem?_eq_some_iff.1 hz).1
 have h:pre.length < i:=by omega
 have hm:z ∈ l.take i:=List.mem_iff_getElem?.2 ⟨pre.length,by rw [List.getElem?_take_of_lt h];exact hz⟩
 have:=hg z hm;omega
theorem wrapN (a:Nat):IntKind.u64.wrap (a:Int)=((a % 18446744073709551616:Nat):Int):=by
 rw [wrapu64_mod];omega
set_option maxRecDepth 4000 in
theorem duint_ok {S:Nat→Prop} {v:Value} {b:List Int} {p:Nat} {w:World} (h:RBytes S w v b) (hb:∀ x ∈ b,0≤x∧x < 256) (hp:p≤b.length) (hl:b.length≤1099511627776) :
  callK Tryz.prog 73 [v,.int .i64 p] (fun v' w'=>Grow w w'∧((∃ (n:Nat) (t:List Int),v'=.tuple #[.int .u64 n,.int .i64 ((b.length - t.length:Nat):Int),.int .i64 0]∧uvR 9 true (b.drop p)=some (n,t))∨(v'=.tuple #[.int .u64 0,.int .i64 0,.int .i64 3]∧uvR 9 true (b.drop p)=none))) w:=by
 apply S73_ok
 unfold S73
 obtain ⟨a,c,rfl,hm⟩:=h.shape
 refine JoinK_i (fun _ W=>W=w) ?_ ?_
 rotate_left
 ·rw [ltK_i]
  refine condK_p (fun e=>by omega) fun _=>?_
  rw [lenK_i,gtK_i]
  exact condK_p (fun e=>by omega) fun _=>rfl
 rintro _ _ rfl _
 rename World=>w
 have hbd:∀ x ∈ b.drop p,0≤x∧x < 256:=fun x hx=>hb x (List.mem_of_mem_drop hx)
 have hdl:(b.drop p).length=b.length - p:=List.length_drop
 have none':∀ i,(i=(b.drop p).length∨10≤i)→(∀ x ∈ (b.drop p).take i,128≤x)→uvR 9 true (b.drop p)=none:=fun i hi hg=>by
  cases hr:uvR 9 true (b.drop p) with
  | none=>rfl
  | some r=>
   obtain ⟨n,t⟩:=r
   obtain ⟨e,hn⟩:=read_uv hbd hr
   exact (uv_long hn e hi hg).elim
 refine LoopK_i (fun vs W=>∃ i:Nat,i≤10∧i≤b.length - p∧vs=[.int .u64 ((digs ((b.drop p).take i) % 18446744073709551616:Nat):Int),.int .u64 ((128 ^ i % 18446744073709551616:Nat):Int),.int .i64 i]∧W=w∧∀ x ∈ (b.drop p).take i,128≤x) (fun vs _=>10 - iOf vs 2) ⟨0,by omega,by omega,rfl,rfl,by simp⟩ ?_
 rintro vs W ⟨i,h10,hi,rfl,rfl,hg⟩ _
 rename World=>w
 simp only [nth_s,nth_z,List.headD_cons,List.tail_cons]
 refine JoinK_i (fun _ W=>W=w∧i < 10∧i < b.length - p) ?_ ?_
 rotate_left
 ·rw [ltK_i]
  refine condK_p (fun e1=>?_) fun e1=>⟨Mod.refl _ _,.inr ⟨by trivial,none' i (.inr (by omega)) hg⟩⟩
  rw [addK_i,wrap64 (by omega) (by omega),lenK_i,ltK_i]
  exact condK_p (fun e2=>⟨rfl,by omega,by omega⟩) fun e2=>⟨Mod.refl _ _,.inr ⟨by trivial,none' i (.inl (by omega)) hg⟩⟩
 rintro _ _ ⟨rfl,hi10,hip⟩ _
 rename World=>w
 rw [addK_i,wrap64 (by omega) (by omega),show ((p:Int)+(i:Int))=((p+i:Nat):Int) by omega]
 have hpi:p+i < b.length:=by omega
 obtain ⟨q,r,e,_,_,hc,rfl⟩:=h.get hpi
 subst e
 refine ixK_n hpi ?_
 refine ld1K_i (by have:=hc 0 _ rfl;exact this) ?_
 have hid:i < (b.drop p).length:=by omega
 have hxe:(b.drop p)[i]=b[p+i]:=by rw [List.getElem_drop]
 have hx:=hb _ (List.getElem_mem hpi)
 have htk:(b.drop p).take (i+1)=(b.drop p).take i++[b[p+i]]:=by
  rw [List.take_add_one,List.getElem?_eq_getElem hid,hxe];rfl
 have hds:digs ((b.drop p).take (i+1))=digs ((b.drop p).take i)+128 ^ i * (b[p+i] % 128).toNat:=by
  rw [htk,digs_snoc,List.length_take]
  congr 3
  omega
 have hlt1:uv 0=[0]:=by rfl
 generalize hx0:b[p+i]=x at hx htk hds hxe
 refine rem_i (by decide) ?_
 rw [Int.tmod_eq_emod_of_nonneg hx.1]
 refine conv8_u64 (by omega) (by omega) ?_
 obtain ⟨d,hd⟩:∃ d:Nat,x % 128=d:=⟨(x % 128).toNat,by omega⟩
 have hd2:(x % 128).toNat=d:=by omega
 rw [hd2] at hds
 rw [hd,mulK_i,addK_i,mulK_i]
 have e1:IntKind.u64.wrap (((digs ((b.drop p).take i) % 18446744073709551616:Nat):Int)+IntKind.u64.wrap ((d:Int) * ((128 ^ i % 18446744073709551616:Nat):Int)))=((digs ((b.drop p).take (i+1)) % 18446744073709551616:Nat):Int):=by
  have a1:(d:Int) * ((128 ^ i % 18446744073709551616:Nat):Int)=((d * (128 ^ i % 18446744073709551616):Nat):Int):=(Int.natCast_mul _ _).symm
  rw [a1,wrapN]
  have a2:((digs ((b.drop p).take i) % 18446744073709551616:Nat):Int)+((d * (128 ^ i % 18446744073709551616) % 18446744073709551616:Nat):Int)=((digs ((b.drop p).take i) % 18446744073709551616+d * (128 ^ i % 18446744073709551616) % 18446744073709551616:Nat):Int):=by omega
  rw [a2,wrapN,hds]
  congr 1
  rw [←Nat.add_mod,Nat.add_mod,Nat.mul_mod_mod,←Nat.add_mod,Nat.mul_comm d]
 have e2:IntKind.u64.wrap (((128 ^ i % 18446744073709551616:Nat):Int) * 128)=((128 ^ (i+1) % 18446744073709551616:Nat):Int):=by
  have a1:((128 ^ i % 18446744073709551616:Nat):Int) * 128=(((128 ^ i % 18446744073709551616) * 128:Nat):Int):=by generalize 128 ^ i % 18446744073709551616=s;omega
  rw [a1,wrapN,Nat.mod_mul_mod,Nat.pow_succ]
 rw [e1,e2,ltK_i]
 refine condK_p (fun hs=>?_) fun hs=>?_
 rotate_left
 ·rw [addK_i,loop_step (by omega)]
  refine ⟨⟨i+1,by omega,by omega,rfl,rfl,fun y hy=>?_⟩,by rw [iOf2,iOf2];omega⟩
  rw [htk] at hy
  rcases List.mem_append.1 hy with hy | hy
  ·exact hg y hy
  ·rw [List.mem_singleton.1 hy];omega
 have hN:digs ((b.drop p).take (i+1)) % 18446744073709551616 < 18446744073709551616:=Nat.mod_lt _ (by decide)
 obtain ⟨N,hNe⟩:∃ N,N=digs ((b.drop p).take (i+1)) % 18446744073709551616:=⟨_,rfl⟩
 rw [←hNe] at hN ⊢
 refine callK_mono (form_bytes hN) ?_
 rintro fv w7 ⟨of,gf⟩
 have gd:Grow w7 w7.drew:=Mod.drew _ _
 have gall:∀ {l:List Nat} {k:Nat} {W:World},Mod (ButM l (fun _ _=>False) k) w7.drew W→Grow w7 W:=fun m=>gd.trans (m.mono fun _ _ ⟨_,_,_,e⟩=>e)
 have gall':∀ {l:List Nat} {W:World},Mod (AllM l (fun _ _=>False)) w7.drew W→Grow w7 W:=fun m=>gd.trans (m.mono fun _ _ ⟨_,_,e⟩=>e)
 have hT:ByteL ((b.drop p).take (i+1)):=fun y hy=>hbd y (List.mem_of_mem_take hy)
 have hU:ByteL (uv N):=uv_byte hN
 have add1:∀ {k:Value→Prop},k (.int .i64 ((p+i+1:Nat):Int))→addK .i64 (.int .i64 (p:Int)) (.int .i64 (i:Int)) fun t57=>addK .i64 t57 (.int .i64 1) k:=fun {k} hk=>by
  rw [addK_i,addK_i,wrap64 (x:=(p:Int)+i) (by omega) (by omega),wrap64 (by omega) (by omega)]
  rw [show ((p:Int)+i+1)=((p+i+1:Nat):Int) by omega]
  exact hk
 have hcut:(b.take (p+i+1)).drop p=(b.drop p).take (i+1):=by rw [List.drop_take];congr 1;omega
 refine ⟨fun j t W=>(j=1→t=.string (strOf (uv N)))∧(j=8→RBytes S W t ((b.drop p).take (i+1)))∧(j=9→t=.string (strOf ((b.drop p).take (i+1)))),fun _ _=>False,fun _ _ _ _ _ _ _ _ _ h m=>⟨h.1,fun e=>(h.2.1 e).grow m (by decide) fun _ _ h=>h,h.2.2⟩,?_⟩
 refine ⟨fun W m=>add1 ?_,fun W m=>add1 ?_,fun W m=>add1 ?_,fun W m=>?_⟩
 ·exact runK_i (run_str ((OwnR.sl of).grow (gall m) (by decide) fun _ _ h=>h) hU) ⟨Mod.refl _ _,by simp⟩
 ·refine slice_lh (e:=5) (k:=1) (i:=Tryz.t5) (by kernel_rfl) (by kernel_rfl) rfl (h.grow (gf.trans (gall m)) (by decide) fun _ _ h=>h) (by omega) (by omega) fun v2 h2=>⟨Mod.refl _ _,by simp,fun _=>?_,by simp⟩
  rw [hcut] at h2;exact h2
 ·rintro _ h8
  exact runK_i (run_str (h8.2.1 rfl) hT) ⟨Mod.refl _ _,by simp⟩
 ·rintro _ h1
  obtain rfl:=h1.1 rfl
  refine add1 ?_
  rintro _ h8 _ h9
  obtain rfl:=h9.2.2 rfl
  have gW:=gf.trans (gall' m)
  rw [sneK_i]
  refine condK_neg (fun e=>?_) fun e=>?_
  ·have e':=(strOf_inj hU hT).1 e
   refine add1 ?_
   have hsplit:b.drop p=uv N++(b.drop p).drop (i+1):=by rw [e',List.take_append_drop]
   refine ⟨gW,.inl ⟨N,(b.drop p).drop (i+1),?_,?_⟩⟩
   ·rw [List.length_drop,hdl,show b.length - (b.length - p - (i+1))=p+i+1 by omega]
   ·have hr:=uv_read ((b.drop p).drop (i+1)) hN
    rw [←hsplit] at hr;exact hr
  ·refine ⟨gW,.inr ⟨by trivial,?_⟩⟩
   cases hr:uvR 9 true (b.drop p) with
   | none=>rfl
   | some r=>
    obtain ⟨n,t⟩:=r
    obtain ⟨e3,hn⟩:=read_uv hbd hr
    have e4:=uv_end hn e3 hid hg (by rw [hxe];exact hs)
    obtain ⟨_,_,_,_,_,_,e5⟩:=uv_shape hn
    rw [e4] at e5
    have e6:N=n:=by rw [hNe,e5];exact Nat.mod_eq_of_lt hn
    exact (e ((strOf_inj hU hT).2 (by rw [e6,e4]))).elim
end Go.Proofs.YtgmpbihbdbmhoaaGreatDoor

namespace Go.Proofs.YtgmpbihbdbmhoaaGreatDoor
open Go Go.K

theorem dbat_ok {S:Nat→Prop} {v:Value} {b:List Int} {p:Nat} {w:World} (h:RBytes S w v b) (hb:∀ x ∈ b,0≤x∧x < 256) (hp:p≤b.length) (hl:b.length≤1099511627776) :
  callK Tryz.prog 76 [v,.int .i64 p,.int .i64 b.length] (fun v' w'=>Grow w w'∧((∃ (x:List Int) (q:Nat) (xv:Value),v'=.tuple #[xv,.int .i64 q,.int .i64 0]∧OBytes w.heap.size w' xv x∧p≤q∧q≤b.length∧b.drop p=encX x++b.drop q)∨
   ((∃ x y,v'=.tuple #[x,y,.int .i64 3])∧∀ x t,x.length < 9223372036854775808→b.drop p≠encX x++t))) w:=by
 apply S76_ok
 unfold S76
 obtain ⟨a,c,rfl,hm⟩:=h.shape
 refine callK_mono (duint_ok h hb hp hl) ?_
 have hbd:∀ x ∈ b.drop p,0≤x∧x < 256:=fun x hx=>hb x (List.mem_of_mem_drop hx)
 rintro _ w1 ⟨g1,⟨n,t,rfl,he⟩ | ⟨rfl,he⟩⟩
 rotate_left
 ·refine extK_i (vs:=[_,_,_]) rfl (extK_i (vs:=[_,_,_]) rfl (extK_i (vs:=[_,_,_]) rfl ?_))
  have bad:∀ x t,x.length < 9223372036854775808→b.drop p≠encX x++t:=fun x t hx e=>by
   unfold encX at e
   rw [List.append_assoc] at e
   rw [e,uv_read _ (by omega)] at he
   cases he
  rw [neK_i]
  exact condK_neg (fun e=>by cases e) fun _=>⟨g1,.inr ⟨⟨_,_,rfl⟩,bad⟩⟩
 refine extK_i (vs:=[_,_,_]) rfl (extK_i (vs:=[_,_,_]) rfl (extK_i (vs:=[_,_,_]) rfl ?_))
 obtain ⟨hd,hn⟩:=read_uv hbd he
 obtain ⟨s1,s2,s3⟩:=drop_suf hp hd
 rw [s1]
 generalize hq:p+(uv n).length=q0 at *
 have ht:t.length=b.length - q0:=by rw [←s3,List.length_drop]
 have bad:b.length - q0 < n→∀ x t,x.length < 9223372036854775808→b.drop p≠encX x++t:=fun hlt x t' hx e=>by
  unfold encX at e
  rw [List.append_assoc,hd] at e
  obtain ⟨e1,e2⟩:=uv_pre hn (by omega) e
  have:=congrArg List.length e2
  rw [List.length_append] at this
  omega
 rw [neK_i]
 refine condK_neg (fun _=>?_) fun e=>(e rfl).elim
 refine JoinK_i (fun _ W=>W=w1∧n≤b.length - q0) ?_ ?_
 ·rintro _ _ ⟨rfl,hle⟩ _
  rename World=>w1
  refine ⟨#[],by kernel_rfl,?_⟩
  have ga:Grow w1 (w1.alloc (.cells #[] 5)):=Mod.alloc _ _ _
  have cv:∀ {K:Cont} {W:World},K (.int .i64 (n:Nat)) W→runK Tryz.prog (convert 57 3 (.int .u64 n)) K W:=fun {K W} hK=>conv_i64 (by omega) hK
  have e:(q0:Int)+(n:Int)=((q0+n:Nat):Int):=by push_cast;rfl
  refine cv ?_
  rw [addK_i,wrap64 (by omega) (by omega),e]
  have h2:=h.grow (g1.trans ga) (by decide) fun _ _ h=>h
  refine slice_lh (e:=5) (k:=1) (i:=Tryz.t5) (by kernel_rfl) (by kernel_rfl) rfl h2 (by omega) (by omega) fun v2 h2=>?_
  have hl2:((b.take (q0+n)).drop q0).length=n:=by rw [List.length_drop,List.length_take];omega
  obtain ⟨xv,w5,hrun,ho5,g5,hn5⟩:=append_new (ty:=31) (b:=w1.heap.size) elem_byte (by show (Array.push _ _)[_]?=_;exact Array.getElem?_push_size) h2 (fun _ _ _=>RByte.one) (by omega) (fun _ _ _ _ h=>h)
  refine runK_i hrun (cv ?_)
  rw [addK_i,wrap64 (by omega) (by omega),e]
  refine ⟨(g1.trans ga).trans g5,.inl ⟨_,q0+n,xv,rfl,OBytes.low ho5 g1.size,by omega,by omega,?_⟩⟩
  unfold encX
  rw [hl2,hd,List.append_assoc,←s3,List.drop_take]
  refine congrArg (fun z=>uv n++z) ?_
  have e3:b.drop (q0+n)=(b.drop q0).drop n:=by rw [List.drop_drop]
  rw [e3,show q0+n - q0=n by omega,List.take_append_drop]
 ·rw [ltK_i]
  refine condK_p (fun e=>by omega) fun _=>?_
  refine conv_64 (by omega) ?_
  rw [gtK_i]
  refine condK_p (fun e=>⟨g1,.inr ⟨⟨_,_,rfl⟩,bad (by omega)⟩⟩) fun e=>?_
  rw [lenK_i,subK_i,wrap64 (by omega) (by omega),show ((b.length:Int) - (q0:Nat))=((b.length - q0:Nat):Int) by omega]
  refine conv_64 (by omega) ?_
  rw [gtK_i]
  exact condK_p (fun e=>⟨g1,.inr ⟨⟨_,_,rfl⟩,bad (by omega)⟩⟩) fun e=>⟨rfl,by omega⟩
section
variable {b:List Int} {p q r:Nat} {bad bad1 bad2:Bool}
theorem RdP.cut {n n' most small:Nat} (hs:small≤most) (hM:most < 18446744073709551616) (x:RdP uv (fun n=>n≤most) b p bad n q bad1):(n≤small→RdP uv (fun n=>n≤small) b p bad n q bad1)∧(¬ n≤small→RdP uv (fun n=>n≤small) b p bad n' q true):=by
 constructor
 ·intro h
  exact ⟨x.le,x.len,x.stays,fun e=>⟨h,(x.sound e).2⟩,fun e c t hc ht=>x.full e c t (Nat.le_trans hc hs) ht⟩
 ·intro h
  refine ⟨x.le,x.len,fun _=>rfl,fun e=>(by cases e),fun e c t hc ht=>?_⟩
  obtain ⟨_,x2⟩:=x.sound (x.full e c t (Nat.le_trans hc hs) ht)
  obtain ⟨hn,_⟩:=x.sound (x.full e c t (Nat.le_trans hc hs) ht)
  rw [ht] at x2
  have:=(uv_pre (by omega) (by omega) x2).1
  omega
theorem RdP.lt {n:Nat} (x:RdP uv (fun n=>n≤18446744073709551615) b p bad n q bad1):RdP uv (fun n=>n < 18446744073709551616) b p bad n q bad1:=
 x.map (fun h=>⟨by omega,rfl⟩) fun z hz=>⟨z,by omega,rfl⟩
end
section
variable {S:Nat→Prop} {W W':World} {c:Nat} {bv:Value} {b:List Int} {p q:Nat} {bad:Bool}
variable (hb:∀ x ∈ b,0≤x∧x < 256) (hl:b.length≤1099511627776)
include hb hl
theorem mnum_ok (h:RdS S W c bv b p bad) :
  callK Tryz.prog 32 [.pointer (some ⟨c,0,none⟩)] (fun v w'=>∃ (n q:Nat) (bad1:Bool),v=.int .u64 n∧n≤18446744073709551615∧RdS S w' c bv b q bad1∧Mod (fun z=>z=c) W w'∧RdP uv (fun n=>n≤18446744073709551615) b p bad n q bad1) W:=by
 apply S32_ok
 unfold S32
 have gd:Grow W W.drew:=Mod.drew _ _
 have hd:=h.grow gd
 refine drawC_i (fun _ _=>False) ?_
 refine nilckK_s ?_
 rw [faK_i,addr0]
 refine sld1_i ⟨hd.c0,fun _ _ h=>h⟩ ?_
 refine nilckK_s ?_
 rw [faK_i,addr0]
 refine sld1_i ⟨hd.c1,fun _ _ h=>h⟩ ?_
 refine callK_mono (duint_ok hd.row hb h.len hl) ?_
 have hbd:∀ x ∈ b.drop p,0≤x∧x < 256:=fun x hx=>hb x (List.mem_of_mem_drop hx)
 rintro _ w1 ⟨g1,⟨n,t,rfl,he⟩ | ⟨rfl,he⟩⟩
 ·refine ⟨g1.mono fun _ _ e=>e.elim,?_⟩
  refine extK_i (vs:=[_,_,_]) rfl (extK_i (vs:=[_,_,_]) rfl (extK_i (vs:=[_,_,_]) rfl ?_))
  obtain ⟨hdr,hn⟩:=read_uv hbd he
  obtain ⟨s1,s2,s3⟩:=drop_suf h.len hdr
  rw [s1,neK_i]
  refine condK_neg (fun _=>?_) fun e=>(e rfl).elim
  exact (hd.grow g1).move s2 fun W' h' m'=>⟨n,_,bad,rfl,by omega,h',((gd.trans g1).mono fun _ _ e=>e.elim).trans m',RdP.ok (by omega) s2 (by omega) (by rw [s3];exact hdr)⟩
 ·refine ⟨g1.mono fun _ _ e=>e.elim,?_⟩
  refine extK_i (vs:=[_,_,_]) rfl (extK_i (vs:=[_,_,_]) rfl (extK_i (vs:=[_,_,_]) rfl ?_))
  rw [neK_i]
  refine condK_neg (fun e=>by cases e) fun _=>(hd.grow g1).bads fun W' h' m'=>⟨0,p,true,rfl,Nat.zero_le _,h',((gd.trans g1).mono fun _ _ e=>e.elim).trans m',RdP.no h.len fun n' t' hn' e'=>?_⟩
  rw [e',uv_read _ (by omega)] at he
  cases he
theorem mtext_ok (h:RdS S W c bv b p bad) :
  callK Tryz.prog 37 [.pointer (some ⟨c,0,none⟩)] (fun v w'=>∃ (x:List Int) (q:Nat) (bad1:Bool),RBytes (fun z=>W.heap.size≤z) w' v x∧(∀ z ∈ x,0≤z∧z < 256)∧x.length≤b.length∧RdS S w' c bv b q bad1∧Mod (fun z=>z=c) W w'∧RdP encX (fun x=>x.length < 9223372036854775808) b p bad x q bad1) W:=by
 apply S37_ok
 unfold S37
 have gd:Grow W W.drew:=Mod.drew _ _
 have hd:=h.grow gd
 obtain ⟨a,n,ebv,_⟩:=h.row.shape
 refine drawC_i (fun _ _=>False) ?_
 refine nilckK_s ?_
 rw [faK_i,addr0]
 refine sld1_i ⟨hd.c0,fun _ _ h=>h⟩ ?_
 refine nilckK_s ?_
 rw [faK_i,addr0]
 refine sld1_i ⟨hd.c1,fun _ _ h=>h⟩ ?_
 refine nilckK_s ?_
 rw [faK_i,addr0]
 refine sld1_i ⟨hd.c0,fun _ _ h=>h⟩ ?_
 have hlen:∀ {k:Value→Prop},k (.int .i64 b.length)→lenK bv k:=fun {k} hk=>by subst ebv;rw [lenK_i];exact hk
 refine hlen ?_
 refine callK_mono (dbat_ok hd.row hb h.len hl) ?_
 have hbd:∀ x ∈ b.drop p,0≤x∧x < 256:=fun x hx=>hb x (List.mem_of_mem_drop hx)
 rintro _ w1 ⟨g1,⟨x,q,xv,rfl,o1,hpq,hq,he⟩ | ⟨⟨x,y,rfl⟩,he⟩⟩
 ·refine ⟨g1.mono fun _ _ e=>e.elim,?_⟩
  refine extK_i (vs:=[_,_,_]) rfl (extK_i (vs:=[_,_,_]) rfl (extK_i (vs:=[_,_,_]) rfl ?_))
  rw [neK_i]
  refine condK_neg (fun _=>?_) fun e=>(e rfl).elim
  have hxl:=congrArg List.length he
  unfold encX at hxl
  rw [List.length_append,List.length_append,List.length_drop,List.length_drop] at hxl
  have hlt:=h.lt
  refine (hd.grow g1).move hq fun W' h' m'=>⟨x,q,bad,?_,fun z hz=>hbd z ?_,by omega,h',((gd.trans g1).mono fun _ _ e=>e.elim).trans m',RdP.ok hpq hq (show x.length < _ by omega) he⟩
  ·refine (SlR.sub (OwnR.sl o1) (fun z _ hz=>hz.1) (by decide) fun _ _ h=>h).mod m' (fun z _ hz e=>?_) (by decide) fun _ _ h=>h
   subst e
   have:W.drew.heap.size=W.heap.size:=rfl
   omega
  ·rw [he];unfold encX
   exact List.mem_append_left _ (List.mem_append_right _ hz)
 ·refine ⟨g1.mono fun _ _ e=>e.elim,?_⟩
  refine extK_i (vs:=[_,_,_]) rfl (extK_i (vs:=[_,_,_]) rfl (extK_i (vs:=[_,_,_]) rfl ?_))
  rw [neK_i]
  refine condK_neg (fun e=>by cases e) fun _=>(hd.grow g1).bads fun W' h' m'=>⟨[],p,true,SlR.nil,by simp,by simp,h',((gd.trans g1).mono fun _ _ e=>e.elim).trans m',RdP.no h.len fun x t hx e=>he x t hx e⟩
theorem msmall_ok (h:RdS S W c bv b p bad) :
  callK Tryz.prog 33 [.pointer (some ⟨c,0,none⟩)] (fun v w'=>∃ (n q:Nat) (bad1:Bool),v=.int .i64 n∧RdS S w' c bv b q bad1∧Mod (fun z=>z=c) W w'∧RdP uv (fun n=>n≤1073741824) b p bad n q bad1) W:=by
 apply S33_ok
 unfold S33
 refine callK_mono (mnum_ok hb hl h) ?_
 rintro _ w1 ⟨n,q,bad1,rfl,hn,h1,m1,r1⟩
 obtain ⟨c1,c2⟩:=r1.cut (n':=0) (small:=1073741824) (by decide) (by decide)
 rw [gtK_i]
 refine condK_p (fun e=>h1.bads fun w2 h2 m2=>⟨0,q,true,rfl,h2,m1.trans m2,c2 (by omega)⟩) fun e=>?_
 exact conv_i64 (by omega) ⟨n,q,bad1,rfl,h1,m1,c1 (by omega)⟩
theorem mkey_ok (h:RdS S W c bv b p bad) :
  callK Tryz.prog 34 [.pointer (some ⟨c,0,none⟩)] (fun v w'=>∃ (n q:Nat) (bad1:Bool),v=.int .i64 n∧RdS S w' c bv b q bad1∧Mod (fun z=>z=c) W w'∧RdP uv (fun n=>n≤9223372036854775807) b p bad n q bad1) W:=by
 apply S34_ok
 unfold S34
 refine callK_mono (mnum_ok hb hl h) ?_
 rintro _ w1 ⟨n,q,bad1,rfl,hn,h1,m1,r1⟩
 obtain ⟨c1,c2⟩:=r1.cut (n':=0) (small:=9223372036854775807) (by decide) (by decide)
 rw [geK_i]
 refine condK_p (fun e=>h1.bads fun w2 h2 m2=>⟨0,q,true,rfl,h2,m1.trans m2,c2 (by omega)⟩) fun e=>?_
 exact conv_i64 (by omega) ⟨n,q,bad1,rfl,h1,m1,c1 (by omega)⟩
theorem mval_ok {k:Nat} (h:RdS S W c bv b p bad) (hk:k≤18446744073709551615) :
  callK Tryz.prog 35 [.pointer (some ⟨c,0,none⟩),.int .u64 k] (fun v w'=>∃ (x:AVal) (q:Nat) (bad1:Bool),v=.agg x.cells.toArray∧RdS S w' c bv b q bad1∧Mod (fun z=>z=c) W w'∧RdV k b p bad x q bad1) W:=by
 apply S35_ok
 unfold S35
 have hlt:=h.lt
 refine BoxN.new fun g w1 hg hz g1 b1=>?_
 have h1:=h.grow g1
 have m01:Mod (fun z=>z=c) W w1:=g1.mono fun _ _ e=>e.elim
 have out:∀ {x:AVal} {w2:World} {q:Nat} {bad1:Bool},RdS S w2 c bv b q bad1→Mod (fun z=>z=c) w1 w2→RdV k b p bad x q bad1→stnK 4 (.pointer (some ⟨g,0,none⟩)) (.agg x.cells.toArray) (fun w6=>ldnK 4 (.pointer (some ⟨g,0,none⟩)) (fun v w'=>∃ (x:AVal) (q:Nat) (bad1:Bool),v=.agg x.cells.toArray∧RdS S w' c bv b q bad1∧Mod (fun z=>z=c) W w'∧RdV k b p bad x q bad1) w6) w2:=fun {x w2 q bad1} h2 m2 r2=>
  (b1.mod m2 (by omega)).stn (n:=4) (us:=x.cells) rfl rfl (AVal.one x) fun w3 b3 m3=>b3.ld (n:=4) rfl ⟨x,q,bad1,rfl,h2.mod m3 fun z hz e=>by omega,(m01.trans m2).next m3 fun z hz e=>by omega,r2⟩
 refine JoinK_i (fun vs W2=>W2=w1∧∃ B:Bool,vs=[.bool B]∧(B=true↔(k=1∨k=2))) ?_ ?_
 rotate_left
 ·rw [eqK_i]
  refine condK_p (fun e=>⟨rfl,_,rfl,by rw [decide_eq_true_eq];omega⟩) fun n1=>?_
  rw [eqK_i]
  exact ⟨rfl,_,rfl,by rw [decide_eq_true_eq];omega⟩
 rintro _ _ ⟨rfl,B,rfl,hB⟩ _
 rename World=>w1
 simp only [nth_z,List.headD_cons]
 refine condK_bb (fun e=>?_) fun e=>?_
 ·have h12:=hB.1 e
  refine conv_u8n (by omega) ?_
  refine callK_mono (mnum_ok hb hl h1) ?_
  rintro _ w2 ⟨n,q,bad1,rfl,hn,h2,m2,r2⟩
  refine callK_mono (back_ok (by omega)) ?_
  rintro _ _ ⟨rfl,rfl⟩
  refine ⟨(⟨k,unzig n,0,⟨#[]⟩⟩:AVal).cells.toArray,by kernel_rfl,?_⟩
  exact out h2 m2 (RdV.int h12 (by omega) r2.lt)
 ·have h12:¬ (k=1∨k=2):=fun h=>by rw [hB.2 h] at e;cases e
  rw [eqK_i]
  refine condK_p (fun e3=>?_) fun e3=>?_
  ·have ek:k=3:=by omega
   subst ek
   refine callK_mono (mnum_ok hb hl h1) ?_
   rintro _ w2 ⟨n,q,bad1,rfl,hn,h2,m2,r2⟩
   refine ⟨(⟨3,0,n,⟨#[]⟩⟩:AVal).cells.toArray,by kernel_rfl,?_⟩
   exact out h2 m2 (RdV.float r2)
  ·rw [eqK_i]
   refine condK_p (fun e4=>?_) fun e4=>?_
   ·have ek:k=4:=by omega
    subst ek
    refine callK_mono (mtext_ok hb hl h1) ?_
    rintro v w2 ⟨x,q,bad1,rx,hx,hxl,h2,m2,r2⟩
    refine runK_i (run_str rx hx) ?_
    refine ⟨(⟨4,0,0,strOf x⟩:AVal).cells.toArray,by kernel_rfl,?_⟩
    exact out h2 m2 (RdV.text (bytesL_strOf hx) r2)
   ·refine h1.bads fun w2 h2 m2=>?_
    refine ⟨(⟨0,0,0,⟨#[]⟩⟩:AVal).cells.toArray,by kernel_rfl,?_⟩
    exact out h2 m2 (RdV.bads h.len (by omega))
end
end Go.Proofs.YtgmpbihbdbmhoaaGreatDoor

namespace Go.Proofs.YtgmpbihbdbmhoaaGreatDoor
open Go Go.K

theorem BoxN.stn_at {W:World} {g n o:Nat} {pre old us:List Value} {K:World→Prop} (h:BoxN W g (pre++old)) (hp:pre.length=o) (ho:old.length=n) (hu:us.length=n) (h1:∀ v ∈ us,v.oneCell'=true)
  (hK:∀ W',BoxN W' g (pre++us)→Mod (fun z=>z=g) W W'→K W'):faK o (.pointer (some ⟨g,0,none⟩)) fun q=>stnK n q (.agg us.toArray) K W:=by
 rw [faK_i,addr0]
 have hlen:(pre++old).length=o+n:=by rw [List.length_append,hp,ho]
 have hl:∀ j,0≤j→j < 0+us.length→Live W ⟨g,o+j,none⟩:=fun j _ hj=>h.live (o+j) (by omega)
 obtain ⟨s1,s2,s3,s4⟩:=setL_at us 0 W hl
 refine ⟨_,us,rfl,rfl,hu,h1,fun j hj=>?_,hK _ ⟨fun j u hj=>?_,fun j hj=>s4 _ (h.live j (by rw [List.length_append] at hj ⊢;omega))⟩ s1⟩
 ·rw [addr_at]
  exact hl j (Nat.zero_le _) (by omega)
 ·by_cases hjo:j < o
  ·rw [s3 j (.inl (by omega))]
   rw [List.getElem?_append_left (by omega)] at hj
   exact h.cells j u (by rw [List.getElem?_append_left (by omega)];exact hj)
  ·rw [List.getElem?_append_right (by omega)] at hj
   have:=s2 (j - pre.length) u hj
   rw [show o+0+(j - pre.length)=j by omega] at this
   exact this
section
variable {S:Nat→Prop} {W W':World} {c:Nat} {bv:Value} {b:List Int} {p q:Nat} {bad:Bool}
variable (hb:∀ x ∈ b,0≤x∧x < 256) (hl:b.length≤1048576)
include hb hl
set_option maxRecDepth 4000 in
theorem chgs_ok {k0 n0 rv sv:Value} {n g9 p0:Nat} {bad0:Bool} {J:List Value→World→Prop} (h:RdS S W c bv b p bad) (hx:BoxN W g9 [k0,n0,rv,sv,.slice none 0 0]) (hcg:c < g9) (hgW:g9 < W.heap.size) (hn:n≤18446744073709551615) (rn:RdP uv (fun n=>n≤18446744073709551615) b p0 bad0 n p bad)
  (hJ:∀ W' pv l q bad1,BoxN W' g9 [k0,n0,rv,sv,pv]→OwnR W.heap.size 63 6 RChg W' pv l→RdS S W' c bv b q bad1→Mod (fun z=>z=c∨z=g9) W W'→RdP (encM encCh) (RepM RepC) b p0 bad0 l q bad1→J [] W') :
 LoopK [.int .u64 n] (fun vs_6 again_1 w23=>∀ _h_6:Env,
 JoinK (fun _vs_7 w24=>∀ _h_7:Env,
 callK Tryz.prog 34 [(.pointer (some ⟨c,0,none⟩))] (fun t62 w25=>
 buildK [(0,1),(1,1),(2,4)] [(.int .i64 0),(.bool false),(.int .u8 0),(.int .i64 0),(.int .u64 0),(.string (ByteArray.mk #[]))] [(0,t62)] fun t63=>
 newK 63 [(.int .i64 0),(.bool false),(.int .u8 0),(.int .i64 0),(.int .u64 0),(.string (ByteArray.mk #[]))] (fun t12 w26=>
 stnK 6 t12 t63 (fun w27=>
 callK Tryz.prog 32 [(.pointer (some ⟨c,0,none⟩))] (fun t65 w28=>
 JoinK (fun _vs_8 w29=>∀ _h_8:Env,
 faK 4 (.pointer (some ⟨g9,0,none⟩)) fun t73=>
 ld1K t73 (fun t74 w30=>
 ldnK 6 t12 (fun t75 w31=>
 rowK 63 6 1 [(.int .i64 0),(.bool false),(.int .u8 0),(.int .i64 0),(.int .u64 0),(.string (ByteArray.mk #[]))] [(0,t75)] (fun t76 w32=>
 runK Tryz.prog (Builtin.append_ #[54,54] 54 [t74,t76].toArray) (fun t77 w33=>
 faK 4 (.pointer (some ⟨g9,0,none⟩)) fun t78=>
 st1K t78 t77 (fun w34=>
 subK .u64 (nth vs_6 0) (.int .u64 1) fun t60=>
 again_1 [t60] w34) w33) w32) w31) w30) w29) (fun J_6=>
 eqK .u64 t65 (.int .u64 0) fun t67=>
 condK t67
 (faK 1 t12 fun t68=>
 st1K t68 (.bool true) (fun w35=>
 J_6 [] w35) w28)
 (callK Tryz.prog 35 [(.pointer (some ⟨c,0,none⟩)),t65] (fun t71 w36=>
 faK 2 t12 fun t72=>
 stnK 4 t72 t71 (fun w37=>
 J_6 [] w37) w36) w28))) w27) w26) w25) w24) (fun J_5=>
 gtK .u64 (nth vs_6 0) (.int .u64 0) fun t51=>
 condK t51
 (nilckK (.pointer (some ⟨c,0,none⟩)) fun t54=>
 faK 2 t54 fun t55=>
 ld1K t55 (fun t56 w38=>
 notK t56 fun t57=>
 condK t57
 (J_5 [] w38)
 (J [] w38)) w23)
 (J [] w23))) W:=by
 refine LoopK_i (fun vs W1=>∃ (l:List Chg) (q:Nat) (bad1:Bool) (m:Nat) (pv:Value),vs=[.int .u64 m]∧RdL encCh RepC b p bad n l q bad1∧l.length+m=n∧RdS S W1 c bv b q bad1∧BoxN W1 g9 [k0,n0,rv,sv,pv]∧OwnR W.heap.size 63 6 RChg W1 pv l∧Mod (fun z=>z=c∨z=g9) W W1) (fun vs _=>iOf vs 0)
  ⟨[],p,bad,n,.slice none 0 0,rfl,RdL.nil h.len,by simp,h,hx,OwnR.nil,Mod.refl _ _⟩ ?_
 rintro vs W1 ⟨l,q,bad1,m,pv,rfl,hL,hlm,hR,hx1,ho,hM⟩ _
 simp only [nth_z,List.headD_cons]
 have s1:=hM.size
 refine JoinK_i (fun _ W'=>W'=W1∧0 < m∧bad1=false) ?_ ?_
 rotate_left
 ·have out:(bad1=false→l.length=n)→J [] W1:=fun e=>hJ W1 pv l q bad1 hx1 ho hR hM (RdL.done encCh_pos (by omega) rn hL e (by omega) (by decide))
  rw [gtK_i]
  refine condK_p (fun hm=>?_) fun hm=>out fun _=>by omega
  refine nilckK_s ?_
  rw [faK_i,addr0]
  refine ld1K_i hR.c2 ?_
  rw [notK_i]
  refine condK_bb (fun e=>⟨rfl,by omega,by simpa using e⟩) fun e=>out fun e'=>?_
  rw [e'] at e
  cases e
 rintro _ _ ⟨rfl,hm,rfl⟩ _
 rename World=>W1
 have hll:l.length≤b.length:=by
  have h1:=congrArg List.length (hL.sound rfl).2
  have h2:=flat_len_le encCh_pos l
  rw [List.length_append,List.length_drop] at h1
  omega
 refine callK_mono (mkey_ok hb (by omega) hR) ?_
 rintro _ w2 ⟨key,q2,bad2,rfl,h2,m2,r1⟩
 refine ⟨(⟨key,false,AVal.zero⟩:Chg).cells.toArray,by kernel_rfl,?_⟩
 have s2:=m2.size
 refine newst_n (n:=6) (vs:=(⟨key,false,AVal.zero⟩:Chg).cells) rfl rfl (RChg.one (w:=w2) rfl) fun g12 w3 hg12 hz3 gr3 hcc3 hl3=>?_
 have b12:BoxN w3 g12 (⟨key,false,AVal.zero⟩:Chg).cells:=⟨fun j u hu=>by have:=hcc3 j u hu;rwa [addr0] at this,fun j hj=>by have:=hl3 j hj;rwa [addr0] at this⟩
 refine callK_mono (mnum_ok hb (by omega) (h2.grow gr3)) ?_
 rintro _ w4 ⟨k,q4,bad4,rfl,hk,h4,m4,r4⟩
 have m13:Mod (fun z=>z=c) W1 w3:=m2.trans (gr3.mono fun _ _ e=>e.elim)
 have s3:=gr3.size
 have fin:∀ (a:Chg) {W5:World} {q3:Nat} {bad3:Bool},BoxN W5 g12 a.cells→RdS S W5 c bv b q3 bad3→Mod (fun z=>z=c∨z=g12) w3 W5→RdP encCh RepC b q false a q3 bad3→
   faK 4 (.pointer (some ⟨g9,0,none⟩)) fun t73=>ld1K t73 (fun t74 w30=>ldnK 6 (.pointer (some ⟨g12,0,none⟩)) (fun t75 w31=>rowK 63 6 1 [(.int .i64 0),(.bool false),(.int .u8 0),(.int .i64 0),(.int .u64 0),(.string (ByteArray.mk #[]))] [(0,t75)] (fun t76 w32=>runK Tryz.prog (Builtin.append_ #[54,54] 54 [t74,t76].toArray) (fun t77 w33=>
    faK 4 (.pointer (some ⟨g9,0,none⟩)) fun t78=>st1K t78 t77 (fun w34=>subK .u64 (.int .u64 m) (.int .u64 1) fun t60=>(∃ (l:List Chg) (q:Nat) (bad1:Bool) (m:Nat) (pv:Value),[t60]=[.int .u64 m]∧RdL encCh RepC b p bad n l q bad1∧l.length+m=n∧RdS S w34 c bv b q bad1∧BoxN w34 g9 [k0,n0,rv,sv,pv]∧OwnR W.heap.size 63 6 RChg w34 pv l∧Mod (fun z=>z=c∨z=g9) W w34)∧iOf [t60] 0 < iOf [.int .u64 (m:Int)] 0) w33) w32) w31) w30) W5:=by
  intro a W5 q3 bad3 b5 h5 m5 r5
  have s5:=m5.size
  have m15:Mod (fun z=>z=c) W1 W5:=m13.next m5 fun z hz e=>by omega
  have x5:=hx1.mod m15 (by omega)
  rw [faK_i,addr0]
  refine ld1K_i (x5.cells 4 _ rfl) ?_
  refine b5.ld (n:=6) rfl ?_
  have nc:∀ g,pv.ownBlock=some g→W.heap.size≤g∧g < W1.heap.size:=fun g hg=>OwnR.ownB ho g hg
  have ho5:OwnR W.heap.size 63 6 RChg W5 pv l:=OwnR.mod ho m15 (fun g hg e=>by have:=(nc g hg).1;omega) fun _ _ _ h=>h
  have s15:=m15.size
  refine push_g (cs:=a.cells) (x:=a) elem_chg ho5 (by omega) (by kernel_rfl) rfl rfl (fun _ _ _=>RChg.one) (fun _ _ _ _ _ _ h=>h) (by omega) (by simp only [maxLen];omega) fun v6 W6 o6 m6 own6=>?_
  have x6:=x5.mod m6 fun e=>by have:=(nc g9 e).1;omega
  have h6:=h5.mod m6 fun z hz e=>by have:=(nc z e).1;omega
  have one:=OwnR.one o6
  refine x6.st (by simp) one.1 one.2 fun W7 x7 m7=>?_
  have h7:=h6.mod m7 fun z hz e=>by omega
  have n6:∀ g,v6.ownBlock=some g→W.heap.size≤g:=fun g hg=>(OwnR.ownB o6 g hg).1
  have hM7:Mod (fun z=>z=c∨z=g9) W W7:=((hM.trans (m15.mono fun z _ e=>.inl e)).next m6 fun z hz e=>by have:=(nc z e).1;omega).next m7 fun z hz e=>.inr e
  rw [subK_i,wrapu64 ⟨by omega,by omega⟩,show ((m:Int) - 1)=((m - 1:Nat):Int) by omega]
  exact ⟨⟨l++[a],q3,bad3,m - 1,v6,rfl,hL.snoc pf_chg (by omega) r5,by rw [List.length_append,List.length_singleton];omega,h7,x7,OwnR.mod o6 m7 (fun g hg e=>by have:=n6 g hg;omega) fun _ _ _ h=>h,hM7⟩,by rw [iOf0,iOf0];omega⟩
 refine JoinK_i (fun _ W'=>∃ (a:Chg) (q3:Nat) (bad3:Bool),BoxN W' g12 a.cells∧RdS S W' c bv b q3 bad3∧Mod (fun z=>z=c∨z=g12) w3 W'∧RdP encCh RepC b q false a q3 bad3) ?_ ?_
 ·rintro _ W5 ⟨a,q3,bad3,b5,h5,m5,r5⟩ _
  exact fin a b5 h5 m5 r5
 ·rw [eqK_i]
  refine condK_p (fun e=>?_) fun e=>?_
  ·have ek:k=0:=by omega
   subst ek
   refine (b12.mod m4 (by omega)).st (by simp [Chg.cells,AVal.cells]) rfl rfl fun W5 b5 m5=>?_
   exact ⟨⟨key,true,AVal.zero⟩,q4,bad4,b5,h4.mod m5 fun z hz e=>by omega,(m4.mono fun z _ e=>.inl e).trans (m5.mono fun z _ e=>.inr e),RdP.change r1 (RdP.tail (c:=(true,AVal.zero)) r4 (RdP.gone h4.len))⟩
  ·refine callK_mono (mval_ok hb (by omega) h4 hk) ?_
   rintro _ W5 ⟨v,q5,bad5,rfl,h5,m5,r5⟩
   have b5:=b12.mod (m4.trans m5) (by omega)
   refine BoxN.stn_at (pre:=[.int .i64 key,.bool false]) (old:=AVal.zero.cells) (us:=v.cells) b5 rfl rfl rfl (AVal.one v) fun W6 b6 m6=>?_
   exact ⟨⟨key,false,v⟩,q5,bad5,b6,h5.mod m6 fun z hz e=>by omega,((m4.trans m5).mono fun z _ e=>.inl e).trans (m6.mono fun z _ e=>.inr e),RdP.change r1 (RdP.tail (c:=(false,v)) r4 (RdV.kept (by omega) r5))⟩
set_option maxRecDepth 4000 in
theorem attrs_ok {k0 n0 rv sv:Value} {n g9 p0:Nat} {bad0:Bool} {J:List Value→World→Prop} (h:RdS S W c bv b p bad) (hx:BoxN W g9 [k0,n0,rv,.slice none 0 0,sv]) (hcg:c < g9) (hgW:g9 < W.heap.size) (hn:n≤18446744073709551615) (rn:RdP uv (fun n=>n≤18446744073709551615) b p0 bad0 n p bad)
  (hJ:∀ W' pv l q bad1,BoxN W' g9 [k0,n0,rv,pv,sv]→OwnR W.heap.size 61 5 RAttr W' pv l→RdS S W' c bv b q bad1→Mod (fun z=>z=c∨z=g9) W W'→RdP (encM encAt) (RepM RepA) b p0 bad0 l q bad1→J [] W') :
 LoopK [.int .u64 n] (fun vs_6 again_1 w23=>∀ _h_6:Env,
 JoinK (fun _vs_7 w24=>∀ _h_7:Env,
 callK Tryz.prog 34 [(.pointer (some ⟨c,0,none⟩))] (fun t62 w25=>
 buildK [(0,1),(1,4)] [(.int .i64 0),(.int .u8 0),(.int .i64 0),(.int .u64 0),(.string (ByteArray.mk #[]))] [(0,t62)] fun t63=>
 newK 61 [(.int .i64 0),(.int .u8 0),(.int .i64 0),(.int .u64 0),(.string (ByteArray.mk #[]))] (fun t12 w26=>
 stnK 5 t12 t63 (fun w27=>
 callK Tryz.prog 32 [(.pointer (some ⟨c,0,none⟩))] (fun t65 w28=>
 callK Tryz.prog 35 [(.pointer (some ⟨c,0,none⟩)),t65] (fun t114 w51=>
 faK 1 t12 fun t115=>
 stnK 4 t115 t114 (fun w52=>
 faK 3 (.pointer (some ⟨g9,0,none⟩)) fun t116=>
 ld1K t116 (fun t117 w53=>
 ldnK 5 t12 (fun t118 w54=>
 rowK 61 5 1 [(.int .i64 0),(.int .u8 0),(.int .i64 0),(.int .u64 0),(.string (ByteArray.mk #[]))] [(0,t118)] (fun t119 w55=>
 runK Tryz.prog (Builtin.append_ #[53,53] 53 [t117,t119].toArray) (fun t120 w56=>
 faK 3 (.pointer (some ⟨g9,0,none⟩)) fun t121=>
 st1K t121 t120 (fun w57=>
 subK .u64 (nth vs_6 0) (.int .u64 1) fun t107=>
 again_1 [t107] w57) w56) w55) w54) w53) w52) w51) w28) w27) w26) w25) w24) (fun J_5=>
 gtK .u64 (nth vs_6 0) (.int .u64 0) fun t51=>
 condK t51
 (nilckK (.pointer (some ⟨c,0,none⟩)) fun t54=>
 faK 2 t54 fun t55=>
 ld1K t55 (fun t56 w38=>
 notK t56 fun t57=>
 condK t57
 (J_5 [] w38)
 (J [] w38)) w23)
 (J [] w23))) W:=by
 refine LoopK_i (fun vs W1=>∃ (l:List Attr) (q:Nat) (bad1:Bool) (m:Nat) (pv:Value),vs=[.int .u64 m]∧RdL encAt RepA b p bad n l q bad1∧l.length+m=n∧RdS S W1 c bv b q bad1∧BoxN W1 g9 [k0,n0,rv,pv,sv]∧OwnR W.heap.size 61 5 RAttr W1 pv l∧Mod (fun z=>z=c∨z=g9) W W1) (fun vs _=>iOf vs 0)
  ⟨[],p,bad,n,.slice none 0 0,rfl,RdL.nil h.len,by simp,h,hx,OwnR.nil,Mod.refl _ _⟩ ?_
 rintro vs W1 ⟨l,q,bad1,m,pv,rfl,hL,hlm,hR,hx1,ho,hM⟩ _
 simp only [nth_z,List.headD_cons]
 have s1:=hM.size
 refine JoinK_i (fun _ W'=>W'=W1∧0 < m∧bad1=false) ?_ ?_
 rotate_left
 ·have out:(bad1=false→l.length=n)→J [] W1:=fun e=>hJ W1 pv l q bad1 hx1 ho hR hM (RdL.done encAt_pos (by omega) rn hL e (by omega) (by decide))
  rw [gtK_i]
  refine condK_p (fun hm=>?_) fun hm=>out fun _=>by omega
  refine nilckK_s ?_
  rw [faK_i,addr0]
  refine ld1K_i hR.c2 ?_
  rw [notK_i]
  refine condK_bb (fun e=>⟨rfl,by omega,by simpa using e⟩) fun e=>out fun e'=>?_
  rw [e'] at e
  cases e
 rintro _ _ ⟨rfl,hm,rfl⟩ _
 rename World=>W1
 have hll:l.length≤b.length:=by
  have h1:=congrArg List.length (hL.sound rfl).2
  have h2:=flat_len_le encAt_pos l
  rw [List.length_append,List.length_drop] at h1
  omega
 refine callK_mono (mkey_ok hb (by omega) hR) ?_
 rintro _ w2 ⟨key,q2,bad2,rfl,h2,m2,r1⟩
 refine ⟨(⟨key,AVal.zero⟩:Attr).cells.toArray,by kernel_rfl,?_⟩
 have s2:=m2.size
 refine newst_n (n:=5) (vs:=(⟨key,AVal.zero⟩:Attr).cells) rfl rfl (RAttr.one (w:=w2) rfl) fun g12 w3 hg12 hz3 gr3 hcc3 hl3=>?_
 have b12:BoxN w3 g12 (⟨key,AVal.zero⟩:Attr).cells:=⟨fun j u hu=>by have:=hcc3 j u hu;rwa [addr0] at this,fun j hj=>by have:=hl3 j hj;rwa [addr0] at this⟩
 refine callK_mono (mnum_ok hb (by omega) (h2.grow gr3)) ?_
 rintro _ w4 ⟨k,q4,bad4,rfl,hk,h4,m4,r4⟩
 have m13:Mod (fun z=>z=c) W1 w3:=m2.trans (gr3.mono fun _ _ e=>e.elim)
 have s3:=gr3.size
 have fin:∀ (a:Attr) {W5:World} {q3:Nat} {bad3:Bool},BoxN W5 g12 a.cells→RdS S W5 c bv b q3 bad3→Mod (fun z=>z=c∨z=g12) w3 W5→RdP encAt RepA b q false a q3 bad3→
   faK 3 (.pointer (some ⟨g9,0,none⟩)) fun t73=>ld1K t73 (fun t74 w30=>ldnK 5 (.pointer (some ⟨g12,0,none⟩)) (fun t75 w31=>rowK 61 5 1 [(.int .i64 0),(.int .u8 0),(.int .i64 0),(.int .u64 0),(.string (ByteArray.mk #[]))] [(0,t75)] (fun t76 w32=>runK Tryz.prog (Builtin.append_ #[53,53] 53 [t74,t76].toArray) (fun t77 w33=>
    faK 3 (.pointer (some ⟨g9,0,none⟩)) fun t78=>st1K t78 t77 (fun w34=>subK .u64 (.int .u64 m) (.int .u64 1) fun t60=>(∃ (l:List Attr) (q:Nat) (bad1:Bool) (m:Nat) (pv:Value),[t60]=[.int .u64 m]∧RdL encAt RepA b p bad n l q bad1∧l.length+m=n∧RdS S w34 c bv b q bad1∧BoxN w34 g9 [k0,n0,rv,pv,sv]∧OwnR W.heap.size 61 5 RAttr w34 pv l∧Mod (fun z=>z=c∨z=g9) W w34)∧iOf [t60] 0 < iOf [.int .u64 (m:Int)] 0) w33) w32) w31) w30) W5:=by
  intro a W5 q3 bad3 b5 h5 m5 r5
  have s5:=m5.size
  have m15:Mod (fun z=>z=c) W1 W5:=m13.next m5 fun z hz e=>by omega
  have x5:=hx1.mod m15 (by omega)
  rw [faK_i,addr0]
  refine ld1K_i (x5.cells 3 _ rfl) ?_
  refine b5.ld (n:=5) rfl ?_
  have nc:∀ g,pv.ownBlock=some g→W.heap.size≤g∧g < W1.heap.size:=fun g hg=>OwnR.ownB ho g hg
  have ho5:OwnR W.heap.size 61 5 RAttr W5 pv l:=OwnR.mod ho m15 (fun g hg e=>by have:=(nc g hg).1;omega) fun _ _ _ h=>h
  have s15:=m15.size
  refine push_g (cs:=a.cells) (x:=a) elem_attr ho5 (by omega) (by kernel_rfl) rfl rfl (fun _ _ _=>RAttr.one) (fun _ _ _ _ _ _ h=>h) (by omega) (by simp only [maxLen];omega) fun v6 W6 o6 m6 own6=>?_
  have x6:=x5.mod m6 fun e=>by have:=(nc g9 e).1;omega
  have h6:=h5.mod m6 fun z hz e=>by have:=(nc z e).1;omega
  have one:=OwnR.one o6
  refine x6.st (by simp) one.1 one.2 fun W7 x7 m7=>?_
  have h7:=h6.mod m7 fun z hz e=>by omega
  have n6:∀ g,v6.ownBlock=some g→W.heap.size≤g:=fun g hg=>(OwnR.ownB o6 g hg).1
  have hM7:Mod (fun z=>z=c∨z=g9) W W7:=((hM.trans (m15.mono fun z _ e=>.inl e)).next m6 fun z hz e=>by have:=(nc z e).1;omega).next m7 fun z hz e=>.inr e
  rw [subK_i,wrapu64 ⟨by omega,by omega⟩,show ((m:Int) - 1)=((m - 1:Nat):Int) by omega]
  exact ⟨⟨l++[a],q3,bad3,m - 1,v6,rfl,hL.snoc pf_attr (by omega) r5,by rw [List.length_append,List.length_singleton];omega,h7,x7,OwnR.mod o6 m7 (fun g hg e=>by have:=n6 g hg;omega) fun _ _ _ h=>h,hM7⟩,by rw [iOf0,iOf0];omega⟩
 refine callK_mono (mval_ok hb (by omega) h4 hk) ?_
 rintro _ W5 ⟨v,q5,bad5,rfl,h5,m5,r5⟩
 have b5:=b12.mod (m4.trans m5) (by omega)
 refine BoxN.stn_at (pre:=[.int .i64 key]) (old:=AVal.zero.cells) (us:=v.cells) b5 rfl rfl rfl (AVal.one v) fun W6 b6 m6=>?_
 exact fin ⟨key,v⟩ b6 (h5.mod m6 fun z hz e=>by omega) (((m4.trans m5).mono fun z _ e=>.inl e).trans (m6.mono fun z _ e=>.inr e)) (RdP.attr r1 (RdP.value r4 r5))
end
end Go.Proofs.YtgmpbihbdbmhoaaGreatDoor

namespace Go.Proofs.YtgmpbihbdbmhoaaGreatDoor
open Go Go.K

theorem FormO.len {o:Dop} (h:FormO o) (hr:RepOm 1073741824 o):RepO o:=by
 rcases hr with ⟨h1,h2,h3⟩ | h | ⟨h1,h2,h3⟩
 ·rcases h with ⟨_,_,_,_,g⟩ | ⟨g,_⟩ | ⟨g,_⟩
  ·exact .inl ⟨h1,⟨h2.1,g⟩,h3⟩
  ·omega
  ·omega
 ·exact .inr (.inl h)
 ·rcases h with ⟨g,_⟩ | ⟨_,_,_,_,_,g⟩ | ⟨g,_⟩
  ·omega
  ·exact .inr (.inr ⟨h1,⟨h2.1,g⟩,h3⟩)
  ·omega
theorem RepO.more {o:Dop} (h:RepO o):RepOm 1073741824 o:=by
 rcases h with ⟨h1,h2,h3⟩ | h | ⟨h1,h2,h3⟩
 ·exact .inl ⟨h1,⟨h2.1,by omega⟩,h3⟩
 ·exact .inr (.inl h)
 ·exact .inr (.inr ⟨h1,⟨h2.1,by omega⟩,h3⟩)
set_option maxRecDepth 4000 in
theorem rdecode_ok {S Sk:Nat→Prop} {kv bv:Value} {keys:List DKey} {b:List Int} {w:World} (hk:RKeys Sk w kv keys) (h:RBytes S w bv b) (hb:∀ x ∈ b,0≤x∧x < 256) (hl:b.length≤1048576) :
  callK Tryz.prog 13 [kv,bv] (fun v' w'=>Grow w w'∧∃ xv,v'=.tuple #[xv,.int .i64 (decB keys b).2]∧RDops (fun z=>w.heap.size≤z) (fun z=>w.heap.size≤z) w' xv (decB keys b).1) w:=by
 apply S13_ok
 unfold S13
 have hl':b.length≤1099511627776:=by omega
 have hsh:=h.shape
 obtain ⟨a,n,ebv,_⟩:=hsh
 refine ⟨#[bv,.int .i64 0,.bool false],by subst ebv;kernel_rfl,?_⟩
 refine boxn_i (vs:=[bv,.int .i64 0,.bool false]) fun c w1 hc hz g1 hcell hlive=>?_
 have k1:∀ j u,[bv,.int .i64 0,.bool false][j]?=some u→w1.cell? ⟨c,j,none⟩=some u:=fun j u hu=>by have:=hcell j u hu;rwa [addr0] at this
 have k2:∀ j,j < 3→Live w1 ⟨c,j,none⟩:=fun j hj=>by have:=hlive j (by simpa using hj);rwa [addr0] at this
 have hr:RdS (fun z=>z < w.heap.size) w1 c bv b 0 false:=
  ⟨k1 0 _ rfl,k1 1 _ rfl,k1 2 _ rfl,k2 1 (by decide),k2 2 (by decide),h.mono (fun z hz _=>hz) (fun z hz _=>g1.same z hz fun h=>h) (by decide) fun _ _ h=>h,fun z hz=>by omega,Nat.zero_le _⟩
 have s1:=g1.size
 refine JoinK_i (fun vs W=>∃ (xv:Value) (x:List Dop) (q:Nat) (bad:Bool),vs=[xv]∧OwnR w1.heap.size 56 5 (RApart (fun z=>w1.heap.size≤z) xv) W xv x∧RdS (fun z=>z < w.heap.size) W c bv b q bad∧Mod (fun z=>z=c) w1 W∧RdP (encM encOp) (RepM (RepOm 1073741824)) b 0 false x q bad) ?_ ?_
 ·rintro _ w2 ⟨xv,x,q,bad,rfl,o2,h2,m2,r2⟩ _
  simp only [nth_z,List.headD_cons]
  have s2:=m2.size
  have g02:Grow w w2:=g1.next m2 fun z hz e=>by omega
  have hx2:RDops (fun z=>w.heap.size≤z) (fun z=>w.heap.size≤z) w2 xv x:=SlR.sub (OwnR.sl o2) (fun z _ hz=>by have:=hz.1;omega) (by decide) fun r y hy=>RDop.mod hy (Mod.refl (fun _=>False) _) (fun _ _ _ h=>h) fun z _ hz=>by have:=hz.2;omega
  have nil3:∀ {w3:World},Grow w w3→decB keys b=([],3)→Grow w w3∧∃ yv,(.tuple #[.slice none 0 0,.int .i64 3]:Value)=.tuple #[yv,.int .i64 (decB keys b).2]∧RDops (fun z=>w.heap.size≤z) (fun z=>w.heap.size≤z) w3 yv (decB keys b).1:=fun g e=>⟨g,_,by rw [e],by rw [e];exact SlR.nil⟩
  have pfm:PF (encM encOp) (RepM (RepOm 1073741824)):=(pf_op (by decide)).many
  refine JoinK_i (fun _ W=>W=w2∧bad=false∧q=b.length) ?_ ?_
  ·rintro _ _ ⟨rfl,rfl,rfl⟩ _
   rename World=>w2
   obtain ⟨hrep,hd⟩:=r2.sound rfl
   rw [List.drop_zero,List.drop_length,List.append_nil] at hd
   have he:encL x=b:=hd.symm
   have hm:mDops x≤(encL x).length:=encL_size hrep
   rw [he] at hm
   have same:∀ y,RepM RepO y→encL y=b→y=x:=fun y hy hey=>(pfm y x [] [] ⟨hy.1,fun o ho=>(hy.2 o ho).more⟩ hrep (by rw [List.append_nil,List.append_nil];exact hey.trans he.symm)).1
   refine callK_mono (mayops_ok (hk.grow g02 (by decide) fun _ _ h=>h) hx2 (by omega)) ?_
   rintro _ w3 ⟨rfl,g3⟩
   have fin:∀ {w4:World},Grow w3 w4→mayOps keys x≠3→rof x=x→neK .i64 (.int .i64 (mayOps keys x)) (.int .i64 0) fun t156=>condK t156
     (Grow w w4∧∃ yv,(.tuple #[.slice none 0 0,.int .i64 (mayOps keys x)]:Value)=.tuple #[yv,.int .i64 (decB keys b).2]∧RDops (fun z=>w.heap.size≤z) (fun z=>w.heap.size≤z) w4 yv (decB keys b).1)
     (Grow w w4∧∃ yv,(.tuple #[xv,.int .i64 0]:Value)=.tuple #[yv,.int .i64 (decB keys b).2]∧RDops (fun z=>w.heap.size≤z) (fun z=>w.heap.size≤z) w4 yv (decB keys b).1):=by
    intro w4 g4 n3 hfix
    have hform:RepM RepO x:=⟨hrep.1,fun o ho=>FormO.len (Classical.byContradiction fun hn=>n3 (by unfold mayOps;rw [if_pos (.inl ⟨o,ho,.inl hn⟩)])) (hrep.2 o ho)⟩
    have hdec:=decB_enc hform n3 hfix
    rw [he] at hdec
    rw [neK_i]
    refine condK_neg (fun e0=>?_) fun e0=>?_
    ·rw [if_pos e0] at hdec
     rw [hdec]
     exact ⟨(g02.trans g3).trans g4,xv,rfl,(hx2.grow g3).grow g4⟩
    ·rw [if_neg e0] at hdec
     rw [hdec]
     exact ⟨(g02.trans g3).trans g4,_,rfl,SlR.nil⟩
   refine JoinK_i (fun _ W=>Grow w3 W∧mayOps keys x≠3∧rof x=x) (fun _ W ⟨g,h3,hf⟩ _=>fin g h3 hf) ?_
   rw [eqK_i]
   refine condK_p (fun e=>nil3 (g02.trans g3) (decB_none fun y hy hey=>.inl (by rw [same y hy hey];exact e))) fun n3=>?_
   refine callK_mono (ris_ok (hx2.grow g3) (by omega)) ?_
   rintro _ w4 ⟨rfl,g4⟩
   rw [notK_i]
   refine condK_bb (fun e=>nil3 ((g02.trans g3).trans g4) (decB_none fun y hy hey=>.inr (by rw [same y hy hey];simpa using e))) fun e=>⟨g4,n3,by simpa using e⟩
  ·have no:¬ (bad=false∧q=b.length)→decB keys b=([],3):=fun hn=>decB_none fun y hy hey=>by
    have hy':RepM (RepOm 1073741824) y:=⟨hy.1,fun o ho=>(hy.2 o ho).more⟩
    have e0:b.drop 0=encM encOp y++[]:=by rw [List.drop_zero,List.append_nil];exact hey.symm
    have hb0:=r2.full rfl y [] hy' e0
    obtain ⟨hrep,hd⟩:=r2.sound hb0
    rw [e0] at hd
    have:=(pfm y x [] _ hy' hrep hd).2
    have hq:=congrArg List.length this
    rw [List.length_drop,List.length_nil] at hq
    have:=h2.len
    exact (hn ⟨hb0,by omega⟩).elim
   refine nilckK_s ?_
   rw [faK_i,addr0]
   refine ld1K_i h2.c2 ?_
   refine condK_bb (fun e=>nil3 g02 (no fun h=>by rw [h.1] at e;cases e)) fun e=>?_
   refine nilckK_s ?_
   rw [faK_i,addr0]
   refine ld1K_i h2.c1 ?_
   have hlen:∀ {k:Value→Prop},k (.int .i64 b.length)→lenK bv k:=fun {k} hk=>by subst ebv;rw [lenK_i];exact hk
   refine hlen ?_
   rw [neK_i]
   exact condK_neg (fun e'=>⟨rfl,e,by omega⟩) fun e'=>nil3 g02 (no fun h=>e' (by rw [h.2]))
 refine callK_mono (mnum_ok hb hl' hr) ?_
 rintro _ w2 ⟨n0,p1,badn,rfl,hn0,h2,m2,rn⟩
 refine LoopK_i (fun vs W1=>∃ (l:List Dop) (q:Nat) (bad1:Bool) (m:Nat) (ov:Value),vs=[ov,.int .u64 m]∧RdL encOp (RepOm 1073741824) b p1 badn n0 l q bad1∧l.length+m=n0∧RdS (fun z=>z < w.heap.size) W1 c bv b q bad1∧OwnR w1.heap.size 56 5 (RApart (fun z=>w1.heap.size≤z) ov) W1 ov l∧Mod (fun z=>z=c) w1 W1) (fun vs _=>iOf vs 1)
  ⟨[],p1,badn,n0,.slice none 0 0,rfl,RdL.nil h2.len,by simp,h2,OwnR.nil,m2⟩ ?_
 rintro vs W1 ⟨l,q,bad1,m,ov,rfl,hL,hlm,hR,ho,hM⟩ _
 simp only [nth_s,nth_z,List.headD_cons,List.tail_cons]
 have sM:=hM.size
 refine JoinK_i (fun _ W'=>W'=W1∧0 < m∧bad1=false) ?_ ?_
 rotate_left
 ·have out:(bad1=false→l.length=n0)→∃ (xv:Value) (x:List Dop) (q:Nat) (bad:Bool),[ov]=[xv]∧OwnR w1.heap.size 56 5 (RApart (fun z=>w1.heap.size≤z) xv) W1 xv x∧RdS (fun z=>z < w.heap.size) W1 c bv b q bad∧Mod (fun z=>z=c) w1 W1∧RdP (encM encOp) (RepM (RepOm 1073741824)) b 0 false x q bad:=fun e=>
   ⟨ov,l,q,bad1,rfl,ho,hR,hM,RdL.done encOp_pos (by omega) rn hL e (by omega) (by decide)⟩
  rw [gtK_i]
  refine condK_p (fun hm=>?_) fun hm=>out fun _=>by omega
  refine nilckK_s ?_
  rw [faK_i,addr0]
  refine ld1K_i hR.c2 ?_
  rw [notK_i]
  refine condK_bb (fun e=>⟨rfl,by omega,by simpa using e⟩) fun e=>out fun e'=>?_
  rw [e'] at e
  cases e
 rintro _ _ ⟨rfl,hm,rfl⟩ _
 rename World=>W1
 have hll:l.length≤b.length:=by
  have h1:=congrArg List.length (hL.sound rfl).2
  have h2:=flat_len_le encOp_pos l
  rw [List.length_append,List.length_drop] at h1
  omega
 refine ⟨(row5 ⟨0,0,[],[],[]⟩ (.slice none 0 0) (.slice none 0 0) (.slice none 0 0)).toArray,by kernel_rfl,?_⟩
 refine newst_n (n:=5) (vs:=row5 ⟨0,0,[],[],[]⟩ (.slice none 0 0) (.slice none 0 0) (.slice none 0 0)) rfl rfl (by simp [row5,Value.oneCell']) fun g9 w3 hg9 hz3 gr3 hcc3 hl3=>?_
 have b3:BoxN w3 g9 [.int .u8 0,.int .i64 0,.slice none 0 0,.slice none 0 0,.slice none 0 0]:=⟨fun j u hu=>by have:=hcc3 j u hu;rwa [addr0] at this,fun j hj=>by have:=hl3 j hj;rwa [addr0] at this⟩
 have s3:=gr3.size
 have hcg:c < g9:=by have:=hR.lt;omega
 refine callK_mono (mnum_ok hb hl' (hR.grow gr3)) ?_
 rintro _ w4 ⟨k,q4,bad4,rfl,hkk,h4,m4,r4⟩
 have s4:=m4.size
 have m14:Mod (fun z=>z=c) W1 w4:=(gr3.mono fun _ _ e=>e.elim).trans m4
 have b4:=b3.mod m4 (by omega)
 obtain ⟨I4,hI4⟩:∃ I4:List Value→World→Prop,I4=(fun _ W'=>∃ (r:List Value) (o:Dop) (q5:Nat) (bad5:Bool),BoxN W' g9 r∧RDop (fun z=>W1.heap.size≤z) W' r o∧RdS (fun z=>z < w.heap.size) W' c bv b q5 bad5∧Mod (fun z=>z=c) W1 W'∧RdP encOp (RepOm 1073741824) b q false o q5 bad5):=⟨_,rfl⟩
 refine JoinK_i I4 ?_ ?_
 ·intro vs5 w5 hi5 _
  rw [hI4] at hi5
  obtain ⟨r,o,q5,bad5,b5,hv,h5,m5,r5⟩:=hi5
  have s5:=m5.size
  have sh:=hv
  obtain ⟨rv,sv,pv,rfl,r1,r2,r3⟩:=sh
  obtain ⟨a1,c1,rfl,_⟩:=r1.shape
  obtain ⟨a2,c2,rfl,_⟩:=r2.shape
  obtain ⟨a3,c3,rfl,_⟩:=r3.shape
  refine b5.ld (n:=5) rfl ?_
  have nc:∀ g,ov.ownBlock=some g→w1.heap.size≤g∧g < W1.heap.size:=fun g hg=>OwnR.ownB ho g hg
  have ho2:OwnR w1.heap.size 56 5 (RDop fun z=>z < w5.heap.size∧ov.ownBlock≠some z∧w1.heap.size≤z) w5 ov l:=OwnR.mod ho m5 (fun g hg e=>by have:=(nc g hg).1;omega) fun r y _ hy=>RDop.mod hy m5 (fun z _ hd e=>by have:=hd.2;omega) fun z hz hd=>⟨by omega,hd⟩
  have hv2:=RDop.mod hv (Mod.refl (fun _=>False) _) (D':=fun z=>z < w5.heap.size∧ov.ownBlock≠some z∧w1.heap.size≤z) (fun _ _ _ h=>h) fun z hz hd=>⟨hz,fun e=>by have:=(nc z e).2;omega,by omega⟩
  refine push_g (cs:=[.int .u8 o.kind,.int .i64 o.n,_,_,_]) (x:=o) elem_dop ho2 (by omega) (by kernel_rfl) rfl hv2 (fun _ _ _=>RDop.one) (fun w1 w2 r y hz m hy=>RDop.mod hy m (fun z _ hd e=>by
    rcases e with e | e
    ·exact hd.2.1 e
    ·have:=hd.1;omega) fun _ _ h=>h) (by omega) (by simp only [maxLen];omega) fun v6 w6 o6 m6 own6=>?_
  have h6:=h5.mod m6 fun z hz e=>by have:=(nc z e).1;omega
  have hM6:Mod (fun z=>z=c) w1 w6:=(hM.trans m5).next m6 fun z hz e=>by have:=(nc z e).1;omega
  rw [subK_i,wrapu64 ⟨by omega,by omega⟩,show ((m:Int) - 1)=((m - 1:Nat):Int) by omega]
  exact ⟨⟨l++[o],q5,bad5,m - 1,v6,rfl,hL.snoc (pf_op (by decide)) (by omega) r5,by rw [List.length_append,List.length_singleton];omega,h6,apart_push o6 own6,hM6⟩,by rw [iOf1,iOf1];omega⟩
 ·rw [eqK_i]
  refine condK_p (fun e=>?_) fun n1=>?_
  ·have ek:k=1:=by omega
   subst ek
   refine b4.st (by simp) rfl rfl fun w5 b5 m5=>?_
   refine callK_mono (msmall_ok hb hl' (h4.mod m5 fun z hz e=>by omega)) ?_
   rintro _ w6 ⟨nn,q6,bad6,rfl,h6,m6,r6⟩
   refine (b5.mod m6 (by omega)).st (by simp) rfl rfl fun w7 b7 m7=>?_
   refine callK_mono (mnum_ok hb hl' (h6.mod m7 fun z hz e=>by omega)) ?_
   rintro _ w8 ⟨cnt,q8,bad8,rfl,hcnt,h8,m8,r8⟩
   have s5:=m5.size
   have s6:=m6.size
   have s7:=m7.size
   have s8:=m8.size
   have m18:Mod (fun z=>z=c) W1 w8:=((((m14.next m5 fun z hz e=>by omega).trans m6).next m7 fun z hz e=>by omega)).trans m8
   refine chgs_ok (J:=I4) hb hl h8 (b7.mod m8 (by omega)) hcg (by omega) hcnt r8 fun W' pv l' q9 bad9 x' o' h' m' r'=>?_
   rw [hI4]
   exact ⟨_,⟨1,nn,[],[],l'⟩,q9,bad9,x',⟨_,_,_,rfl,SlR.nil,SlR.nil,SlR.sub (OwnR.sl o') (fun z _ hz=>by have:=hz.1;omega) (by decide) fun _ _ h=>h⟩,h',m18.next m' fun z hz e=>by omega,RdP.op r4 (RdO.retain (m:=1073741824) (by decide) r6 r')⟩
  rw [eqK_i]
  refine condK_p (fun e=>?_) fun n2=>?_
  ·have ek:k=2:=by omega
   subst ek
   refine b4.st (by simp) rfl rfl fun w5 b5 m5=>?_
   refine callK_mono (mtext_ok hb hl' (h4.mod m5 fun z hz e=>by omega)) ?_
   rintro tv w6 ⟨x,q6,bad6,rx,hxb,hxl,h6,m6,r6⟩
   refine callK_mono (read_ok rx (by omega)) ?_
   rintro v7 w7 ⟨g7,hm7⟩
   have s5:=m5.size
   have s6:=m6.size
   have s7:=g7.size
   have hread:∃ (sl:Value) (rl:List Int) (e:Int),v7=.tuple #[sl,.int .i64 e]∧OwnR w6.heap.size 21 1 RRune w7 sl rl∧((e=0∧RdP encT RepT b q4 bad4 rl q6 bad6)∨(e≠0∧RdP encT RepT b q4 bad4 rl q6 true)):=by
    cases hr7:readB x with
    | some rl=>
     rw [hr7] at hm7
     obtain ⟨sl,e1,osl⟩:=hm7
     exact ⟨sl,rl,0,e1,osl,.inl ⟨rfl,RdP.text hxb r6 hr7⟩⟩
    | none=>
     rw [hr7] at hm7
     exact ⟨_,[],3,hm7,OwnR.nil,.inr ⟨by decide,RdP.text_bad r6 hr7⟩⟩
   obtain ⟨sl,rl,e7,rfl,osl,hcase⟩:=hread
   refine extK_i (vs:=[_,_]) rfl (extK_i (vs:=[_,_]) rfl ?_)
   have h7:=h6.grow g7
   refine JoinK_i (fun _ W'=>∃ badx:Bool,RdS (fun z=>z < w.heap.size) W' c bv b q6 badx∧Mod (fun z=>z=c) w7 W'∧RdP encT RepT b q4 bad4 rl q6 badx) ?_ ?_
   rotate_left
   ·rw [neK_i]
    rcases hcase with ⟨rfl,r5⟩ | ⟨hne,r5⟩
    ·exact condK_neg (fun _=>⟨bad6,h7,Mod.refl _ _,r5⟩) fun e=>(e rfl).elim
    ·exact condK_neg (fun e=>(hne e).elim) fun _=>h7.bads fun w8 h8 m8=>⟨true,h8,m8,r5⟩
   rintro _ w8 ⟨badx,h8,m8,r8⟩ _
   have s8:=m8.size
   have one:=OwnR.one osl
   have osl8:OwnR w6.heap.size 21 1 RRune w8 sl rl:=OwnR.mod osl m8 (fun z hz e=>by have:=(OwnR.ownB osl z hz).1;omega) fun _ _ _ h=>h
   refine (((b5.mod m6 (by omega)).mod g7 fun h=>h).mod m8 (by omega)).st (by simp) one.1 one.2 fun w9 b9 m9=>?_
   have s9:=m9.size
   have osl9:OwnR w6.heap.size 21 1 RRune w9 sl rl:=OwnR.mod osl8 m9 (fun z hz e=>by have:=(OwnR.ownB osl z hz).1;omega) fun _ _ _ h=>h
   refine callK_mono (mnum_ok hb hl' (h8.mod m9 fun z hz e=>by omega)) ?_
   rintro _ w10 ⟨cnt,q10,bad10,rfl,hcnt,h10,m10,r10⟩
   have s10:=m10.size
   have m110:Mod (fun z=>z=c) W1 w10:=(((((m14.next m5 fun z hz e=>by omega).trans m6).trans (g7.mono fun _ _ e=>e.elim)).trans m8).next m9 fun z hz e=>by omega).trans m10
   have osl10:OwnR w6.heap.size 21 1 RRune w10 sl rl:=OwnR.mod osl9 m10 (fun z hz e=>by have:=(OwnR.ownB osl z hz).1;omega) fun _ _ _ h=>h
   refine attrs_ok (J:=I4) hb hl h10 (b9.mod m10 (by omega)) hcg (by omega) hcnt r10 fun W' pv l' q11 bad11 x' o' h' m' r'=>?_
   have osl11:OwnR w6.heap.size 21 1 RRune W' sl rl:=OwnR.mod osl10 m' (fun z hz e=>by have:=(OwnR.ownB osl z hz).1;omega) fun _ _ _ h=>h
   rw [hI4]
   exact ⟨_,⟨2,0,rl,l',[]⟩,q11,bad11,x',⟨_,_,_,rfl,SlR.sub (OwnR.sl osl11) (fun z _ hz=>by have:=hz.1;omega) (by decide) fun _ _ h=>h,SlR.sub (OwnR.sl o') (fun z _ hz=>by have:=hz.1;omega) (by decide) fun _ _ h=>h,SlR.nil⟩,h',m110.next m' fun z hz e=>by omega,RdP.op r4 (RdO.insert (m:=1073741824) r8 r')⟩
  rw [eqK_i]
  refine condK_p (fun e=>?_) fun n3=>?_
  ·have ek:k=3:=by omega
   subst ek
   refine b4.st (by simp) rfl rfl fun w5 b5 m5=>?_
   refine callK_mono (msmall_ok hb hl' (h4.mod m5 fun z hz e=>by omega)) ?_
   rintro _ w6 ⟨nn,q6,bad6,rfl,h6,m6,r6⟩
   refine (b5.mod m6 (by omega)).st (by simp) rfl rfl fun w7 b7 m7=>?_
   rw [hI4]
   exact ⟨_,⟨3,nn,[],[],[]⟩,q6,bad6,b7,⟨_,_,_,rfl,SlR.nil,SlR.nil,SlR.nil⟩,h6.mod m7 fun z hz e=>by omega,((m14.next m5 fun z hz e=>by omega).trans m6).next m7 fun z hz e=>by omega,RdP.op r4 (RdO.delete (m:=1073741824) r6)⟩
  ·refine h4.bads fun w5 h5 m5=>?_
   rw [hI4]
   exact ⟨_,⟨0,0,[],[],[]⟩,q4,true,b4.mod m5 (by omega),⟨_,_,_,rfl,SlR.nil,SlR.nil,SlR.nil⟩,h5,m14.trans m5,RdP.op r4 (RdO.bads (m:=1073741824) h4.len (by omega))⟩
end Go.Proofs.YtgmpbihbdbmhoaaGreatDoor

namespace Go.Proofs.YtgmpbihbdbmhoaaGreatDoor
open Go Go.K

theorem dist_of {ks:List DKey} (h:ks.Pairwise fun x y=>x.id < y.id):Dist ks:=by
 unfold Dist
 exact h.imp fun h=>by omega
end Go.Proofs.YtgmpbihbdbmhoaaGreatDoor

namespace Go.Proofs.YtgmpbihbdbmhoaaGreatDoor
open Go Go.K

theorem mayOps_congr {keys ks:List DKey} (h:∀ id,findK keys id=findK ks id) (x:List Dop):mayOps keys x=mayOps ks x:=by
 have hf:∀ id v,FitsK keys id v↔FitsK ks id v:=fun id v=>by unfold FitsK;rw [h]
 have hs:∀ l,maySet keys l=maySet ks l:=fun l=>by
  have hn:SetNoKey keys l↔SetNoKey ks l:=by
   unfold SetNoKey
   exact ⟨fun ⟨a,h1,h2⟩=>⟨a,h1,fun e=>h2 ((hf _ _).2 e)⟩,fun ⟨a,h1,h2⟩=>⟨a,h1,fun e=>h2 ((hf _ _).1 e)⟩⟩
  unfold maySet
  by_cases hb:SetBad l
  ·rw [if_pos hb,if_pos hb]
  ·rw [if_neg hb,if_neg hb]
   by_cases hk:SetNoKey keys l
   ·rw [if_pos hk,if_pos (hn.1 hk)]
   ·rw [if_neg hk,if_neg fun e=>hk (hn.2 e)]
 have hp:∀ l,mayPat keys l=mayPat ks l:=fun l=>by
  have hn:PatNoKey keys l↔PatNoKey ks l:=by
   unfold PatNoKey
   exact ⟨fun ⟨a,h1,h2⟩=>⟨a,h1,h2.imp (fun e=>by rw [←h];exact e) fun e=>⟨e.1,fun e'=>e.2 ((hf _ _).2 e')⟩⟩,fun ⟨a,h1,h2⟩=>⟨a,h1,h2.imp (fun e=>by rw [h];exact e) fun e=>⟨e.1,fun e'=>e.2 ((hf _ _).1 e')⟩⟩⟩
  unfold mayPat
  by_cases hb:PatBad l
  ·rw [if_pos hb,if_pos hb]
  ·rw [if_neg hb,if_neg hb]
   by_cases hk:PatNoKey keys l
   ·rw [if_pos hk,if_pos (hn.1 hk)]
   ·rw [if_neg hk,if_neg fun e=>hk (hn.2 e)]
 have hob:OpsBad keys x↔OpsBad ks x:=by unfold OpsBad;simp only [hs,hp]
 have hok:OpsNoKey keys x↔OpsNoKey ks x:=by unfold OpsNoKey;simp only [hs,hp]
 unfold mayOps
 by_cases hb:OpsBad keys x
 ·rw [if_pos hb,if_pos (hob.1 hb)]
 ·rw [if_neg hb,if_neg fun e=>hb (hob.2 e)]
  by_cases hk:OpsNoKey keys x
  ·rw [if_pos hk,if_pos (hok.1 hk)]
  ·rw [if_neg hk,if_neg fun e=>hk (hok.2 e)]
theorem decB_congr {keys ks:List DKey} (h:∀ id,findK keys id=findK ks id) (b:List Int):decB keys b=decB ks b:=by
 by_cases hx:∃ x,RepM RepO x∧encL x=b∧mayOps keys x≠3∧rof x=x
 ·obtain ⟨x,h1,h2,h3,h4⟩:=hx
  subst h2
  rw [decB_enc h1 h3 h4,decB_enc h1 (by rw [←mayOps_congr h];exact h3) h4,mayOps_congr h]
 ·rw [decB_none fun x h1 h2=>?_,decB_none fun x h1 h2=>?_]
  ·by_cases h3:mayOps ks x=3
   ·exact .inl h3
   ·exact .inr fun h4=>hx ⟨x,h1,h2,by rw [mayOps_congr h];exact h3,h4⟩
  ·by_cases h3:mayOps keys x=3
   ·exact .inl h3
   ·exact .inr fun h4=>hx ⟨x,h1,h2,h3,h4⟩
end Go.Proofs.YtgmpbihbdbmhoaaGreatDoor

namespace Go.Proofs.YtgmpbihbdbmhoaaGreatDoor
open Go Go.K

theorem CodecReads_ok {S S':Nat→Prop} {kv bv:Value} {keys:List DKey} {b:List Int} {w:World} (hk:RKeys S w kv keys) (h:RBytes S' w bv b) (hb:∀ x ∈ b,0≤x∧x < 256) (hT:Tabs w) :
  callK Tryz.prog 4 [kv,bv] (fun v w'=>v=.bool true∧Grow w w') w:=by
 apply S4_ok
 unfold S4
 have kn:∀ {w1},Grow w w1→callK Tryz.prog 7 [] (fun v w'=>v=.bool true∧Grow w w') w1:=fun hg=>callK_mono (known17_ok (hT.grow hg)) fun v w' ⟨e,h⟩=>⟨e,hg.trans h⟩
 have hsh:=h.shape
 obtain ⟨pb,cb,ebv,hmx⟩:=hsh
 refine callK_mono (new_key_ok hk) ?_
 rintro _ w1 ⟨g1,⟨hM,sv,ks,rfl,hp,hpw,hS⟩ | ⟨_,rfl⟩⟩
 rotate_left
 ·refine extK_i (vs:=[_,_]) (by rfl) (extK_i (vs:=[_,_]) (by rfl) ?_)
  refine JoinK_i (fun _ _=>False) (fun _ _ h=>h.elim) ?_
  rw [neK_i]
  exact condK_neg (fun e=>by cases e) fun _=>kn g1
 refine extK_i (vs:=[_,_]) (by rfl) (extK_i (vs:=[_,_]) (by rfl) ?_)
 have hfind:∀ id,findK keys id=findK ks id:=fun id=>(findK_perm hp (dist_of hpw) id).symm
 refine JoinK_i (fun _ W=>W=w1∧b.length≤600) ?_ ?_
 rotate_left
 ·rw [neK_i]
  refine condK_neg (fun _=>?_) fun e=>(e rfl).elim
  subst ebv
  rw [lenK_i,gtK_i]
  exact condK_p (fun _=>kn g1) fun e=>⟨rfl,by omega⟩
 rintro _ _ ⟨rfl,h600⟩ _
 rename World=>w1
 have h1:=h.grow g1 (by decide) fun _ _ h=>h
 refine ⟨#[],by kernel_rfl,?_⟩
 have ga:Grow w1 (w1.alloc (.cells #[] 5)):=Mod.alloc _ _ _
 obtain ⟨iv,w3,hrun,oi,g3',hn3⟩:=append_new (ty:=31) (b:=w1.heap.size) elem_byte (by show (Array.push _ _)[_]?=_;exact Array.getElem?_push_size) (h1.grow ga (by decide) fun _ _ h=>h) (fun _ _ _=>RByte.one) (by omega) (fun _ _ _ _ h=>h)
 refine runK_i hrun ?_
 have g3:=ga.trans g3'
 have g03:=g1.trans g3
 have hi:=OwnR.sl oi
 refine callK_mono (decode_ok (hS.grow g3) hi hb (hT.grow g03) (by omega)) ?_
 rintro _ w4 ⟨g4,xv,rfl,hx⟩
 refine extK_i (vs:=[_,_]) (by rfl) (extK_i (vs:=[_,_]) (by rfl) ?_)
 have g04:=g03.trans g4
 refine callK_mono (rdecode_ok (hk.grow g04 (by decide) fun _ _ h=>h) (h.grow g04 (by decide) fun _ _ h=>h) hb (by omega)) ?_
 rintro _ w5 ⟨g5,yv,rfl,hy⟩
 rw [decB_congr hfind] at hy ⊢
 refine extK_i (vs:=[_,_]) (by rfl) (extK_i (vs:=[_,_]) (by rfl) ?_)
 have g05:=g04.trans g5
 have hx5:=hx.grow g5
 have herr:(decB ks b).2≠0→(decB ks b).1=[]:=decB_err
 generalize decB ks b=d at hx5 hy herr ⊢
 have i5:OwnR w1.heap.size 5 1 RByte w5 iv b:=OwnR.mod oi (g4.trans g5) (fun _ _ h=>h) fun _ _ _ h=>h
 have ilt:∀ z,iv.ownBlock=some z→w1.heap.size≤z∧z < w3.heap.size:=fun z hz=>OwnR.ownB oi z hz
 have s13:=g3.size
 have s01:=g1.size
 have s34:=g4.size
 refine JoinK_i (fun _ W=>Grow w5 W) ?_ ?_
 ·rintro _ w6 g6 _
  have hish:=hi.shape
  obtain ⟨ia,ic,eiv,_⟩:=hish
  have i6:OwnR w1.heap.size 5 1 (fun _ _ _=>True) w6 iv b:=OwnR.any (OwnR.mod (R':=RByte) i5 g6 (fun _ _ h=>h) fun _ _ _ h=>h)
  subst eiv
  rw [lenK_i]
  refine LoopK_i (fun vs W=>∃ i:Nat,i≤b.length∧vs=[.int .i64 i]∧OwnR w1.heap.size 5 1 (fun _ _ _=>True) W (.slice ia b.length ic) b∧Mod (fun z=>(Value.slice ia b.length ic).ownBlock=some z) w6 W) (fun vs _=>b.length - iOf vs 0) ⟨0,Nat.zero_le _,rfl,i6,Mod.refl _ _⟩ ?_
  rintro vs W ⟨i,hil,rfl,oW,mW⟩ _
  simp only [nth_z,List.headD_cons]
  rw [ltK_i]
  refine condK_p (fun hlt=>?_) fun hge=>?_
  ·have hlt':i < b.length:=by omega
   obtain ⟨g',e2,_,hl⟩:=OwnR.live oW hlt' (j:=0) (by decide)
   subst e2
   refine ixK_n hlt' ?_
   have ead:((⟨g',0,none⟩:Addr).add (i * 1))=⟨g',i * 1+0,none⟩:=by rw [addr0];rfl
   rw [addr0] at hl
   rw [ead]
   refine hl.st rfl rfl ?_
   rw [addK_i,loop_step (by omega)]
   refine ⟨⟨i+1,hlt',rfl,OwnR.setAny oW hlt' (by decide) rfl,mW.trans (Mod.setCell _ _ _ rfl)⟩,by rw [iOf0,iOf0];omega⟩
  ·have gW:Grow w W:=(g05.trans g6).next mW fun z hz e=>by have:=(ilt z e).1;omega
   have hxW:=(hx5.grow g6).mod mW (fun z _ hz e=>by have:=(ilt z e).2;omega) fun z _ hz e=>by have:=(ilt z e).2;omega
   have hyW:=(hy.grow g6).mod mW (fun z _ hz e=>by have:=(ilt z e).2;omega) fun z _ hz e=>by have:=(ilt z e).2;omega
   refine callK_mono (rsame_dops hxW hyW) ?_
   rintro _ w9 ⟨rfl,g9⟩
   rw [decide_eq_true rfl]
   exact condK_t (kn (gW.trans g9))
 ·refine callK_mono (rsame_dops hx5 hy) ?_
  rintro _ w6 ⟨rfl,g6⟩
  rw [decide_eq_true rfl,notK_i]
  refine condK_f ?_
  rw [neK_i]
  refine condK_neg (fun _=>?_) fun e=>(e rfl).elim
  refine runK_i (run_str ((OwnR.sl i5).grow g6 (by decide) fun _ _ h=>h) hb) ?_
  refine runK_i (run_str (h.grow (g05.trans g6) (by decide) fun _ _ h=>h) hb) ?_
  rw [sneK_i]
  refine condK_neg (fun _=>?_) fun e=>(e rfl).elim
  rw [neK_i]
  refine condK_neg (fun _=>g6) fun e0=>?_
  have hnil:=herr e0
  rw [hnil] at hx5
  obtain ⟨xa,xc,exv,_⟩:=hx5.shape
  subst exv
  rw [lenK_i,gtK_i]
  exact condK_p (fun e=>by simp at e) fun _=>g6
end Go.Proofs.YtgmpbihbdbmhoaaGreatDoor

namespace Go.K
open Go
variable {H:Type} {enc:TypeId × Value→H} {P:Program} {w:World} {base:Nat} {spare:Nat→Bool} {held:Bool}
theorem SlR.of_trod {α:Type} {t e k:Nat} {R:World→List Value→α→Prop} {fuel:Nat} {cs:List Value} {x:DataW H × List MemPlace} (ht:P.underlying t=some (.slice e)) (hk:P.cellsOf e=k)
  (hel:∀ n cs' y,DataW.trod enc P w base spare held n e cs'=some y→∃ x,R w cs' x) (h:DataW.trod enc P w base spare held fuel t cs=some x) :
  ∃ v l,cs=[v]∧SlR (fun _=>True) k R w v l:=by
 rcases Go.Deep.open_slice ht h with ⟨rfl,_⟩ | ⟨a,len,cap,m,n,D,Pl,rfl,hb,hl,hm,hmm,_,hall⟩
 ·exact ⟨_,[],rfl,SlR.nil⟩
 ·have hlm:len≤m:=by rw [hmm];split <;> omega
  have one:∀ i,i < len→∃ (cs':List Value) (x:α),cs'.length=k∧(∀ j u,cs'[j]?=some u→w.cell? (a.add (i * k+j))=some u)∧R w cs' x:=by
   intro i hi
   obtain ⟨cs',h1,h2⟩:=hall i (by omega)
   obtain ⟨x,hx⟩:=hel n cs' _ h2
   obtain ⟨_,hlen,hc⟩:=World.cells?_some h1
   rw [hk] at hlen hc
   refine ⟨cs',x,hlen,fun j u hu=>?_,hx⟩
   have hj:j < k:=by rw [←hlen];exact (List.getElem?_eq_some_iff.1 hu).1
   have:=hc j hj
   rw [Addr.add_add] at this
   rw [this];exact hu
  have build:∀ q,q≤len→∃ l:List α,l.length=q∧∀ i x,l[i]?=some x→∃ cs':List Value,cs'.length=k∧(∀ j u,cs'[j]?=some u→w.cell? (a.add (i * k+j))=some u)∧R w cs' x:=by
   intro q
   induction q with
   | zero=>exact fun _=>⟨[],rfl,fun i x h=>by simp at h⟩
   | succ q ih=>
    intro hq
    obtain ⟨l,h1,h2⟩:=ih (by omega)
    obtain ⟨cs',x,h3,h4,h5⟩:=one q (by omega)
    refine ⟨l++[x],by simp [h1],fun i y hy=>?_⟩
    by_cases hi:i < q
    ·rw [List.getElem?_append_left (by omega)] at hy;exact h2 i y hy
    ·have:i=q:=by have:=(List.getElem?_eq_some_iff.1 hy).1;simp [h1] at this;omega
     subst this
     rw [List.getElem?_append_right (by omega)] at hy
     simp [h1] at hy;subst hy
     exact ⟨cs',h3,h4,h5⟩
  obtain ⟨l,h1,h2⟩:=build len (Nat.le_refl _)
  subst h1
  refine ⟨_,l,rfl,a,cap,rfl,hl,hm,fun i x hx=>?_⟩
  obtain ⟨cs',h3,h4,h5⟩:=h2 i x hx
  exact ⟨a,cs',rfl,trivial,h3,h4,h5⟩
end Go.K
namespace Go.Proofs.YtgmpbihbdbmhoaaGreatDoor
open Go Go.K
open Go.ChangeShapes Go.Joins
variable {H:Type} {enc:TypeId × Value→H} {w:World} {base:Nat} {spare:Nat→Bool} {held:Bool}
end Go.Proofs.YtgmpbihbdbmhoaaGreatDoor

namespace Go.Proofs.YtgmpbihbdbmhoaaGreatDoor
open Go Go.K
open Go.ChangeShapes Go.Joins
variable {H:Type} {enc:TypeId × Value→H} {w:World} {base:Nat} {spare:Nat→Bool} {held:Bool}
theorem len6 {α:Type} {l:List α} (h:l.length=6):∃ a b c d e f,l=[a,b,c,d,e,f]:=by
 match l,h with | [a,b,c,d,e,f],_=>exact ⟨a,b,c,d,e,f,rfl⟩
theorem bulk_app (l m:List (DataW H)):Rows.uptoBulkAll (l++m)=Rows.uptoBulkAll l+Rows.uptoBulkAll m:=by
 induction l with
 | nil=>simp [Rows.uptoBulkAll]
 | cons d l ih=>simp only [List.cons_append,Rows.uptoBulkAll,ih];omega
theorem SlR.of_trodU {α:Type} {t e k:Nat} {R:World→List Value→α→Prop} {μ:α→Nat} {fuel:Nat} {cs:List Value} {x:DataW H × List MemPlace} (ht:Tryz.prog.underlying t=some (.slice e)) (hk:Tryz.prog.cellsOf e=k)
  (hel:∀ n cs' y,DataW.trod enc Tryz.prog w base spare held n e cs'=some y→∃ x,R w cs' x∧μ x≤Rows.uptoBulk y.1) (h:DataW.trod enc Tryz.prog w base spare held fuel t cs=some x) :
  ∃ v l,cs=[v]∧SlR (fun _=>True) k R w v l∧(l.map μ).sum+1≤Rows.uptoBulk x.1:=by
 rcases Go.Deep.open_slice ht h with ⟨rfl,rfl⟩ | ⟨a,len,cap,m,n,D,Pl,rfl,hb,hl,hm,hmm,rfl,hall⟩
 ·exact ⟨_,[],rfl,SlR.nil,by simp [Rows.uptoBulk]⟩
 ·have hlm:len≤m:=by rw [hmm];split <;> omega
  have one:∀ i,i < len→∃ (cs':List Value) (x:α),cs'.length=k∧(∀ j u,cs'[j]?=some u→w.cell? (a.add (i * k+j))=some u)∧R w cs' x∧μ x≤Rows.uptoBulk (D i):=by
   intro i hi
   obtain ⟨cs',h1,h2⟩:=hall i (by omega)
   obtain ⟨x,hx,hmu⟩:=hel n cs' _ h2
   obtain ⟨_,hlen,hc⟩:=World.cells?_some h1
   rw [hk] at hlen hc
   refine ⟨cs',x,hlen,fun j u hu=>?_,hx,hmu⟩
   have hj:j < k:=by rw [←hlen];exact (List.getElem?_eq_some_iff.1 hu).1
   have:=hc j hj
   rw [Addr.add_add] at this
   rw [this];exact hu
  have build:∀ q,q≤len→∃ l:List α,l.length=q∧(l.map μ).sum≤Rows.uptoBulkAll ((List.range q).map D)∧∀ i x,l[i]?=some x→∃ cs':List Value,cs'.length=k∧(∀ j u,cs'[j]?=some u→w.cell? (a.add (i * k+j))=some u)∧R w cs' x:=by
   intro q
   induction q with
   | zero=>exact fun _=>⟨[],rfl,by simp [Rows.uptoBulkAll],fun i x h=>by simp at h⟩
   | succ q ih=>
    intro hq
    obtain ⟨l,h1,hs,h2⟩:=ih (by omega)
    obtain ⟨cs',x,h3,h4,h5,h6⟩:=one q (by omega)
    refine ⟨l++[x],by simp [h1],?_,fun i y hy=>?_⟩
    ·rw [List.range_succ,List.map_append (f:=D),bulk_app]
     simp only [List.map_append,List.sum_append,List.map_cons,List.map_nil,List.sum_cons,List.sum_nil,Rows.uptoBulkAll]
     omega
    by_cases hi:i < q
    ·rw [List.getElem?_append_left (by omega)] at hy;exact h2 i y hy
    ·have:i=q:=by have:=(List.getElem?_eq_some_iff.1 hy).1;simp [h1] at this;omega
     subst this
     rw [List.getElem?_append_right (by omega)] at hy
     simp [h1] at hy;subst hy
     exact ⟨cs',h3,h4,h5⟩
  obtain ⟨l,h1,hs,h2⟩:=build len (Nat.le_refl _)
  subst h1
  refine ⟨_,l,rfl,⟨a,cap,rfl,hl,hm,fun i x hx=>?_⟩,?_⟩
  ·obtain ⟨cs',h3,h4,h5⟩:=h2 i x hx
   exact ⟨a,cs',rfl,trivial,h3,h4,h5⟩
  ·simp only [Rows.uptoBulk];omega
theorem key_of_trodU {n:Nat} {cs:List Value} {y:DataW H × List MemPlace} (h:DataW.trod enc Tryz.prog w base spare held n 43 cs=some y):∃ x:DKey,RKey w cs x∧1≤Rows.uptoBulk y.1:=by
 have c0:Tryz.prog.cellsOf 43=6:=by kernel_rfl
 have c1:Tryz.prog.cellsOf 3=1:=by kernel_rfl
 have c2:Tryz.prog.cellsOf 5=1:=by kernel_rfl
 have c3:Tryz.prog.cellsOf 4=1:=by kernel_rfl
 obtain ⟨xs,m,_,rfl,hl,hlen,hf⟩:=DataW.trod_struct Tryz.underlying43 h
 match xs,hlen with
 | [y0,y1,y2,y3,y4,y5],_=>
  have h0:DataW.trod enc Tryz.prog w base spare held m 3 ((cs.drop 0).take (Tryz.prog.cellsOf 3))=some y0:=hf 0 _ rfl
  have h1:DataW.trod enc Tryz.prog w base spare held m 4 ((cs.drop 1).take (Tryz.prog.cellsOf 4))=some y1:=hf 1 _ rfl
  have h2:DataW.trod enc Tryz.prog w base spare held m 5 ((cs.drop 2).take (Tryz.prog.cellsOf 5))=some y2:=hf 2 _ rfl
  have h3:DataW.trod enc Tryz.prog w base spare held m 4 ((cs.drop 3).take (Tryz.prog.cellsOf 4))=some y3:=hf 3 _ rfl
  have h4:DataW.trod enc Tryz.prog w base spare held m 4 ((cs.drop 4).take (Tryz.prog.cellsOf 4))=some y4:=hf 4 _ rfl
  have h5:DataW.trod enc Tryz.prog w base spare held m 3 ((cs.drop 5).take (Tryz.prog.cellsOf 3))=some y5:=hf 5 _ rfl
  rw [c0] at hl
  rw [c1] at h0
  rw [c3] at h1
  rw [c2] at h2
  rw [c3] at h3
  rw [c3] at h4
  rw [c1] at h5
  obtain ⟨a0,a1,a2,a3,a4,a5,rfl⟩:=len6 hl
  ·clear hf
   simp only [List.drop_zero,List.take_succ_cons,List.take_zero,List.drop_succ_cons] at h0 h1 h2 h3 h4 h5
   obtain ⟨k0,e0,_,_⟩:=DataW.trod_int Tryz.underlying3 h0
   obtain ⟨k1,e1,_⟩:=DataW.trod_bool Tryz.underlying4 h1
   obtain ⟨k2,e2,_,_⟩:=DataW.trod_int Tryz.underlying5 h2
   obtain ⟨k3,e3,_⟩:=DataW.trod_bool Tryz.underlying4 h3
   obtain ⟨k4,e4,_⟩:=DataW.trod_bool Tryz.underlying4 h4
   obtain ⟨k5,e5,_,_⟩:=DataW.trod_int Tryz.underlying3 h5
   cases e0;cases e1;cases e2;cases e3;cases e4;cases e5
   refine ⟨⟨k0,k1,k2,k3,k4,k5⟩,rfl,?_⟩
   simp only [Rows.uptoBulk]
   omega
theorem keys_of_trodU {n:Nat} {cs:List Value} {y:DataW H × List MemPlace} (h:DataW.trod enc Tryz.prog w base spare held n 22 cs=some y):∃ v l,cs=[v]∧RKeys (fun _=>True) w v l∧l.length+1≤Rows.uptoBulk y.1:=by
 obtain ⟨v,l,e,h1,h2⟩:=SlR.of_trodU (μ:=fun _:DKey=>1) Tryz.underlying22 (by kernel_rfl) (fun _ _ _ h=>key_of_trodU h) h
 refine ⟨v,l,e,h1,?_⟩
 have:(l.map fun _=>1).sum=l.length:=by clear h1 h2;induction l with | nil=>rfl | cons a l ih=>simp only [List.map_cons,List.sum_cons,List.length_cons,ih];omega
 omega
end Go.Proofs.YtgmpbihbdbmhoaaGreatDoor

namespace Go.Proofs.YtgmpbihbdbmhoaaGreatDoor
open Go Go.K
open Go.ChangeShapes Go.Joins
variable {H:Type} {enc:TypeId × Value→H} {w:World} {base:Nat} {spare:Nat→Bool} {held:Bool}
theorem keys_of_trod {n:Nat} {cs:List Value} {y:DataW H × List MemPlace} (h:DataW.trod enc Tryz.prog w base spare held n 22 cs=some y):∃ v l,cs=[v]∧RKeys (fun _=>True) w v l:=by
 obtain ⟨v,l,e,h1,_⟩:=keys_of_trodU h
 exact ⟨v,l,e,h1⟩
end Go.Proofs.YtgmpbihbdbmhoaaGreatDoor

namespace Go.Proofs.YtgmpbihbdbmhoaaGreatDoor
open Go Go.K
open Go.ChangeShapes Go.WideShapes Go.ChangeAt Go.RowKit Go.Joins

def laidL : List (String × DataW Unit) := [("unicode/utf8.acceptRanges", Rows.laid_unicode_utf8_acceptRanges), ("unicode/utf8.first", Rows.laid_unicode_utf8_first)]
theorem first_tab:Rows.laid_unicode_utf8_first=Lib.tabData .u8 (Pinned.utf8FirstZ.map Int.ofNat):=by kernel_rfl
theorem first_at:(List.range 256).all (fun j=>decide (128≤j→(Pinned.utf8FirstZ.map Int.ofNat)[j]?=some (firstT j)))=true:=by decide +kernel
theorem acc_tab:Rows.laid_unicode_utf8_acceptRanges (H:=Unit)=.agg ((List.range 16).map fun i=>.agg ([accLo i,accHi i].map fun z=>.lit (.int .u8 z))):=by kernel_rfl
theorem tabs_of_laid {W:World} (h:laidMetH Tryz.prog laidL W):Tabs W:=by
 rw [MakeChecks.laidMetH_plain _ _ _ (by kernel_rfl)] at h
 have h4:=Lib.laidMet.reads h (.head _)
 have h3:=Lib.laidMet.reads h (.tail _ (.head _))
 have hf:∀ j:Nat,128≤j→j < 256→W.cell? ⟨0,j,none⟩=some (.int .u8 (firstT j)):=by
  intro j hj1 hj2
  obtain ⟨g,t,cs,fuel,p,hg,hty,hvar,hd⟩:=h3
  obtain rfl := Option.some.inj ((show Tryz.prog.globalNamed "unicode/utf8.first" = some 0 by kernel_rfl).symm.trans hg)
  obtain rfl:=Option.some.inj ((show (Tryz.prog.globals[0]?).map (·.type)=some 177 by kernel_rfl).symm.trans hty)
  rw [first_tab] at hd
  have hcs:=Lib.cells_of_tab Tryz.underlying177 Tryz.underlying5 (by kernel_rfl) (by kernel_rfl) hd
  have:=World.var?_cell hg hvar j
  rw [this,←Array.getElem?_toList,hcs]
  have ha:=List.all_eq_true.1 first_at j (List.mem_range.2 hj2)
  rw [decide_eq_true_eq] at ha
  rw [List.getElem?_map,ha hj1]
  rfl
 have hac:∀ j:Nat,j < 16→W.cell? ⟨1,j * 2,none⟩=some (.int .u8 (accLo j))∧W.cell? ⟨1,j * 2+1,none⟩=some (.int .u8 (accHi j)):=by
  intro i hi
  obtain ⟨g,t,cs,fuel,p,hg,hty,hvar,hd⟩:=h4
  obtain rfl := Option.some.inj ((show Tryz.prog.globalNamed "unicode/utf8.acceptRanges" = some 1 by kernel_rfl).symm.trans hg)
  obtain rfl:=Option.some.inj ((show (Tryz.prog.globals[1]?).map (·.type)=some 180 by kernel_rfl).symm.trans hty)
  rw [acc_tab] at hd
  obtain ⟨fuel',d,q,hdi,he⟩:=Lib.array_elem Tryz.underlying180 hd i hi
  simp only [List.getElem?_map,List.getElem?_range hi,Option.map_some,Option.some.injEq] at hdi
  subst hdi
  have c2:Tryz.prog.cellsOf 179=2:=by kernel_rfl
  rw [c2] at he
  have hcs:=Lib.ints_of_struct Tryz.underlying179 (fun j f hj=>by
   match j,hj with
   | 0,hj=>simp at hj;subst hj;exact ⟨Tryz.underlying5,rfl,by kernel_rfl⟩
   | 1,hj=>simp at hj;subst hj;exact ⟨Tryz.underlying5,rfl,by kernel_rfl⟩
   | j+2,hj=>simp at hj) (by rw [c2];rfl) he
  have e0:=congrArg (·[0]?) hcs
  have e1:=congrArg (·[1]?) hcs
  simp at e0 e1
  have w0:=World.var?_cell hg hvar (i * 2)
  have w1:=World.var?_cell hg hvar (i * 2+1)
  rw [w0,w1,←Array.getElem?_toList,←Array.getElem?_toList]
  exact ⟨by simpa using e0,by simpa using e1⟩
 have:=World.block_lt_of_cell? W _ (hac 0 (by decide)).1
 exact ⟨this,hf,hac⟩
noncomputable def laidWorld (os:Os):World:=
 let w0:=World.holding Tryz.prog os ⟨#[],#[],[]⟩
 let put (h:Array Obj) (g:Nat) (cs:Array Value):Array Obj:=h.modify g fun
  | .cells _ t frozen=>.cells cs t frozen
  | o=>o
 let h1:=put w0.heap 0 (Pinned.utf8FirstZ.map fun (z:Nat)=>Value.int .u8 (Int.ofNat z)).toArray
 let h2:=put h1 1 ((List.range 16).flatMap fun i=>[Value.int .u8 (accLo i),Value.int .u8 (accHi i)]).toArray
 { w0 with heap:=h2 }
theorem laidWorld_met (os:Os) (args:Array Value):laidMetH Tryz.prog laidL ((laidWorld os).forCall (fun _ _=>0) ⟨#[],args,[]⟩).memory:=by
 rw [MakeChecks.laidMetH_plain _ _ _ (by kernel_rfl)]
 exact (LaidIn.of_run (l:=laidL) [1,0] 8 (by kernel_rfl) (by kernel_rfl) (by kernel_rfl) (by kernel_rfl)).met

variable {H:Type} {enc:TypeId × Value→H} {w:World} {base:Nat} {spare:Nat→Bool} {held:Bool}
theorem wf_range {k:IntKind} {n:Int} (h:(Lit.int k n).wf=true):k.min≤n∧n≤k.max:=by
 simpa [Lit.wf] using h
end Go.Proofs.YtgmpbihbdbmhoaaGreatDoor

namespace Go.K
open Go
theorem SlR.strip {α:Type} {S:Nat→Prop} {k:Nat} {R:World→List Value→α→Prop} {P:α→Prop} {w:World} {v:Value} {l:List α} (h:SlR S k (fun w r x=>R w r x∧P x) w v l):SlR S k R w v l∧∀ x ∈ l,P x:=by
 obtain ⟨a,c,e,h1,h2,h3⟩:=h
 refine ⟨⟨a,c,e,h1,h2,fun i x hx=>?_⟩,fun x hx=>?_⟩
 ·obtain ⟨p,r,q1,q2,q3,q4,q5⟩:=h3 i x hx
  exact ⟨p,r,q1,q2,q3,q4,q5.1⟩
 ·obtain ⟨i,hi⟩:=List.mem_iff_getElem?.1 hx
  obtain ⟨_,_,_,_,_,_,q5⟩:=h3 i x hi
  exact q5.2
end Go.K
namespace Go.Proofs.YtgmpbihbdbmhoaaGreatDoor
open Go Go.K
open Go.ChangeShapes Go.WideShapes Go.ChangeAt Go.RowKit Go.Joins
variable {H:Type} {enc:TypeId × Value→H} {w:World} {base:Nat} {spare:Nat→Bool} {held:Bool}
end Go.Proofs.YtgmpbihbdbmhoaaGreatDoor

namespace Go.Proofs.YtgmpbihbdbmhoaaGreatDoor
open Go Go.K
open Go.ChangeShapes Go.WideShapes Go.ChangeAt Go.RowKit Go.Joins
variable {H:Type} {enc:TypeId × Value→H} {w:World} {base:Nat} {spare:Nat→Bool} {held:Bool}
theorem wf_u8 {n:Int} (h:(Lit.int .u8 n).wf=true):0≤n∧n < 256:=by
 have hr:=wf_range h
 have e1:IntKind.u8.min=0:=by decide
 have e2:IntKind.u8.max=255:=by decide
 rw [e1,e2] at hr
 exact ⟨hr.1,by omega⟩
theorem byte_of_trod {n:Nat} {cs:List Value} {y:DataW H × List MemPlace} (h:DataW.trod enc Tryz.prog w base spare held n 5 cs=some y):∃ x:Int,RByte w cs x∧(0≤x∧x < 256):=by
 obtain ⟨k,e,_,hw⟩:=DataW.trod_int Tryz.underlying5 h
 have hr:=wf_range hw
 have e1:IntKind.u8.min=0:=by decide
 have e2:IntKind.u8.max=255:=by decide
 rw [e1,e2] at hr
 exact ⟨k,e,hr.1,by omega⟩
theorem bytes_of_trod {n:Nat} {cs:List Value} {y:DataW H × List MemPlace} (h:DataW.trod enc Tryz.prog w base spare held n 31 cs=some y):∃ v l,cs=[v]∧(RBytes (fun _=>True) w v l∧∀ x ∈ l,0≤x∧x < 256):=by
 obtain ⟨v,l,e,hl⟩:=SlR.of_trod (k:=1) (R:=fun (w:World) r (x:Int)=>RByte w r x∧(0≤x∧x < 256)) Tryz.underlying31 (by kernel_rfl) (fun _ _ _ h=>byte_of_trod h) h
 exact ⟨v,l,e,hl.strip⟩
end Go.Proofs.YtgmpbihbdbmhoaaGreatDoor

namespace Go.Proofs.YtgmpbihbdbmhoaaGreatDoor
open Go Go.K
open Go.ChangeShapes Go.WideShapes Go.ChangeAt Go.RowKit
set_option linter.unusedVariables false

theorem ownK:ownKnob Tryz.prog.godebug=none:=by kernel_rfl
theorem laidOut:laidOutB Tryz.prog=true:=by kernel_rfl

set_option maxRecDepth 100000 in
theorem CodecReads_lifted (os:Os) (started:os.Started) (H:Type) (enc:TypeId × Value→H) :
  ReturnsInHanded {} Tryz.checked os 4 .any (fun w args=>(Rows.codecReadsSpec.pre enc Tryz.prog Tryz.f4 [] false w args∧laidMetH Tryz.prog Rows.codecReadsRow.laid w)∧sizedMet enc Tryz.prog Tryz.f4 (OpenSpec.ofChange Rows.codecReadsSpec) false w args)
   (Rows.codecReadsSpec.post enc Tryz.prog Tryz.f4 false true false false):=by
 refine returnsInHanded_of_change_and (C:=Tryz.checked) (X:=fun w _=>laidMetH Tryz.prog Rows.codecReadsRow.laid w) (fun _ _ _ hh h=>h.of_heap hh) ownK started (by kernel_rfl) Tryz.func4
  (ChangeSpec.witness_at (enc:=enc) (C:=Tryz.checked) (os:=os) (X:=fun w _=>laidMetH Tryz.prog Rows.codecReadsRow.laid w) false (laidWorld os) #[.slice none 0 0,.slice none 0 0] 8 rfl (by kernel_rfl) (by kernel_rfl) (by kernel_rfl) (by kernel_rfl) (by kernel_rfl) (laidWorld_met os _)) ?_
 intro W base args ds gs before hval0 hW _ _ hL _
 have hW':=hW
 obtain ⟨p,q,hA0,hV,rfl,hfz,hnd⟩:=hW
 have hA:DataW.TrodAll enc Tryz.prog W 0 (fun _=>true) true Tryz.f4.params.toList args.toList ds p:=hA0
 have hval:∀ (j:Nat) t v,Tryz.f4.params[j]?=some t→args[j]?=some v→Value.okWide Tryz.prog W .any base t v:=hval0
 rw [Tryz.params4] at hA hval
 have htab:Tabs W:=tabs_of_laid hL
 obtain ⟨v0,vs0,d0,ds0,p0,q0,hargs,rfl,rfl,h0,r0⟩:=trodAll_cons hA
 obtain ⟨v1,vs1,d1,ds1,p1,q1,rfl,rfl,rfl,h1,r1⟩:=trodAll_cons r0
 obtain ⟨rfl,rfl,rfl⟩:=trodAll_nil r1
 obtain rfl:args=#[v0,v1]:=by cases args;simp_all
 obtain ⟨rfl,rfl⟩:=trodVars_none hV
 have lt0:∀ x ∈ p0,x.block < W.heap.size:=by obtain ⟨m,hm⟩:=h0;exact DataW.trod_lt m _ _ _ hm
 obtain ⟨fuel0,hf0⟩:=id h0
 obtain ⟨u0,l0,e0,s0⟩:=keys_of_trod hf0
 obtain ⟨a0,n0,c0,rfl⟩:=okWide_slice Tryz.underlying22 (hval 0 22 v0 rfl rfl)
 simp only [Value.cells,List.cons.injEq,and_true] at e0
 subst e0
 have lt1:∀ x ∈ p1,x.block < W.heap.size:=by obtain ⟨m,hm⟩:=h1;exact DataW.trod_lt m _ _ _ hm
 obtain ⟨fuel1,hf1⟩:=id h1
 obtain ⟨u1,l1,e1,s1⟩:=bytes_of_trod hf1
 obtain ⟨a1,n1,c1,rfl⟩:=okWide_slice Tryz.underlying31 (hval 1 31 v1 rfl rfl)
 simp only [Value.cells,List.cons.injEq,and_true] at e1
 subst e1
 clear hA0 hval0
 refine ((CodecReads_ok s0 s1.1 s1.2 htab)).mono fun e W' ⟨v,he,hv,hg⟩=>?_
 subst he;subst hv
 have bel:Below W.heap.size W W':=Mod.below hg (Nat.le_refl _) fun _ h=>h.elim
 exact ⟨_,rfl,_,_,_,[],_,[],hW',trodAll_mk1 (shut_bool Tryz.underlying4 _),(trodAll_cons_mk (Below.trod laidOut (by kernel_rfl) (of_decide_eq_true (by kernel_rfl)) h0 bel lt0) (trodAll_cons_mk (Below.trod laidOut (by kernel_rfl) (of_decide_eq_true (by kernel_rfl)) h1 bel lt1) trodAll_mk0)),rfl,bel.frame _,fun h=>by cases h⟩
theorem CodecReads_said:Rows.CodecReadsSaid:=
 OpenClaim.holds_of_wide 4 Tryz.f4 rfl rfl rfl rfl rfl rfl rfl ⟨rfl,rfl,rfl,rfl,rfl⟩ rfl rfl rfl rfl rfl (by kernel_rfl) Tryz.func4 (by kernel_rfl)
  (of_decide_eq_true (by kernel_rfl)) (by unfold Func.isWrapper;first | (rw [if_pos (by decide +kernel)];kernel_rfl) | (rw [if_neg (by decide +kernel)];exact ⟨rfl,rfl⟩))
  (fun os started H enc _=>CodecReads_lifted os started H enc)
theorem CodecReads_proved:Rows.CodecReadsCardSaid:=
 Claim7.holds_tied_plain_at .later [] [.data,.pinned] true Rows.codecReadsCard.stood.harness false
  CodecReads_said (fun _ h=>by cases h) (by kernel_rfl) (fun _ h=>by cases h) codecReads_row_tie rfl ⟨rfl,rfl⟩ (by kernel_rfl) rfl
  (fun f fn hf hfn=>by
   obtain rfl : f = 4 := Option.some.inj ((show Tryz.prog.funcNamed "rubric/rubriclaw17.CodecReads" = some 4 by kernel_rfl).symm.trans hf) |>.symm
   obtain rfl:fn=Tryz.f4:=(Option.some.inj (Tryz.func4.symm.trans hfn)).symm
   exact ⟨by kernel_rfl,fun j t ht=>by
    rw [Tryz.params4] at ht
    have hm:t ∈ [22,31]:=by simpa using Array.mem_of_getElem? ht
    have hall:([22,31].all fun u=>!Tryz.prog.wantsStandIn u)=true:=by kernel_rfl
    exact (show Tryz.prog.wantsStandIn t=false by simpa using List.all_eq_true.1 hall t hm)⟩)
  (by kernel_rfl)
#print axioms CodecReads_proved
end Go.Proofs.YtgmpbihbdbmhoaaGreatDoor
