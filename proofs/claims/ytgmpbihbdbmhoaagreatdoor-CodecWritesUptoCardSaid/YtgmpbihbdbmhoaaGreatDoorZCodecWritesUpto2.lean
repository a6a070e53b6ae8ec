/- By a program of ours: of each function below the predicate that its code comes to, and that it is sound. No conditions. Copying and comparing rows, for any kind of element; at runes, patches, ops. No conditions but the sizes. Contracts: ops one by one: form, length, what they take and make, how much they have. No conditions. Contracts: the document's runes of bytes, and whether a value may be. No conditions but the size of a text. Pushing one element; contracts: the document's reading of runes. Conditions: the sizes. Plain laws of UTF-8: the document's reading, byte by byte, as the library tells a valid text. No conditions but that bytes are bytes. Plain laws: the text of a set in the table of interned sets; no two sets have the same. Conditions: the numbers lie in their types. -/
import Derived.Test.YtgmpbihbdbmhoaaGreatDoorZCodecWritesUpto1
import Derived.Laws.IdiomStrings
namespace Go.Proofs.YtgmpbihbdbmhoaaGreatDoor
open Go Go.K
def S6 (v0:Value) (K:Cont) (w:World):Prop:=
 LoopK [(.int .i64 0),(.int .i64 0)] (fun vs again w1=>∀ _h:Env,
 lenK v0 fun t9=>
 ltK .i64 (nth vs 1) t9 fun t10=>
 condK t10
 (DrawK w1 (fun C=>
 addK .i64 (nth vs 0) (.int .i64 1) fun t14=>
 ixK 5 v0 (nth vs 1) fun t17=>
 faK 2 t17 fun t18=>
 qld1K C t18 fun t19=>
 lenK t19 fun t20=>
 addK .i64 t14 t20 fun t21=>
 ixK 5 v0 (nth vs 1) fun t24=>
 faK 3 t24 fun t25=>
 qld1K C t25 fun t26=>
 lenK t26 fun t27=>
 addK .i64 t21 t27 fun t28=>
 ixK 5 v0 (nth vs 1) fun t31=>
 faK 4 t31 fun t32=>
 qld1K C t32 fun t33=>
 lenK t33 fun t34=>
 addK .i64 t28 t34 fun t35=>
 ∀ w2:World,C w2→
 LoopK [t35,(.int .i64 0)] (fun vs_1 again_1 w3=>∀ _h_1:Env,
 ixK 5 v0 (nth vs 1) fun t39=>
 faK 3 t39 fun t40=>
 ld1K t40 (fun t41 w4=>
 lenK t41 fun t42=>
 ltK .i64 (nth vs_1 1) t42 fun t43=>
 condK t43
 (ixK 5 v0 (nth vs 1) fun t49=>
 faK 3 t49 fun t50=>
 ld1K t50 (fun t51 w5=>
 ixK 5 t51 (nth vs_1 1) fun t53=>
 faK 1 t53 fun t54=>
 faK 3 t54 fun t55=>
 ld1K t55 (fun t56 w6=>
 slenK t56 fun t57=>
 addK .i64 (nth vs_1 0) t57 fun t58=>
 addK .i64 (nth vs_1 1) (.int .i64 1) fun t45=>
 again_1 [t58,t45] w6) w5) w4)
 (LoopK [(nth vs_1 0),(.int .i64 0)] (fun vs_2 again_2 w7=>∀ _h_2:Env,
 ixK 5 v0 (nth vs 1) fun t62=>
 faK 4 t62 fun t63=>
 ld1K t63 (fun t64 w8=>
 lenK t64 fun t65=>
 ltK .i64 (nth vs_2 1) t65 fun t66=>
 condK t66
 (ixK 5 v0 (nth vs 1) fun t72=>
 faK 4 t72 fun t73=>
 ld1K t73 (fun t74 w9=>
 ixK 6 t74 (nth vs_2 1) fun t76=>
 faK 2 t76 fun t77=>
 faK 3 t77 fun t78=>
 ld1K t78 (fun t79 w10=>
 slenK t79 fun t80=>
 addK .i64 (nth vs_2 0) t80 fun t81=>
 addK .i64 (nth vs_2 1) (.int .i64 1) fun t68=>
 again_2 [t81,t68] w10) w9) w8)
 (addK .i64 (nth vs 1) (.int .i64 1) fun t12=>
 again [(nth vs_2 0),t12] w8)) w7) w4)) w3) w2))
 (K (nth vs 0) w1)) w
theorem S6_eq (v0:Value) (K:Cont) (w:World):S6 v0 K w=D Tryz.prog okf 83 (bodyOf Tryz.f6) (.node [] [] .nil (.node [] [] .nil (.node [] [] (.node [] [] .nil (.node [3,4] [(3,81)] (.node [] [] (.node [] [] .nil (.node [] [] .nil .nil)) (.node [] [] (.node [] [] .draw (.node [] [] (.node [] [] .nil (.node [3,5] [(3,3),(5,5),(36,58)] (.node [] [] (.node [] [] .nil (.node [] [] .nil .nil)) (.node [] [] .nil .nil)) .nil)) (.node [] [] .nil (.node [3,6] [(3,3),(6,6),(59,81)] (.node [] [] (.node [] [] .nil (.node [] [] .nil .nil)) (.node [] [] .nil .nil)) .nil)))) .nil)) .nil)) (.node [] [] .nil .nil)))) (retK Tryz.prog [.tmp 2] K) (nth [v0]) w:=by kernel_rfl
theorem S6_ok {v0:Value} {K:Cont} {w:World} (h:S6 v0 K w):callK Tryz.prog 6 [v0] K w:=
 callK_of (P:=Tryz.prog) (ok:=okf) (n:=83) (fn:=Tryz.f6) (c:=bodyOf Tryz.f6) (rs:=[.tmp 2]) (an:=(.node [] [] .nil (.node [] [] .nil (.node [] [] (.node [] [] .nil (.node [3,4] [(3,81)] (.node [] [] (.node [] [] .nil (.node [] [] .nil .nil)) (.node [] [] (.node [] [] .draw (.node [] [] (.node [] [] .nil (.node [3,5] [(3,3),(5,5),(36,58)] (.node [] [] (.node [] [] .nil (.node [] [] .nil .nil)) (.node [] [] .nil .nil)) .nil)) (.node [] [] .nil (.node [3,6] [(3,3),(6,6),(59,81)] (.node [] [] (.node [] [] .nil (.node [] [] .nil .nil)) (.node [] [] .nil .nil)) .nil)))) .nil)) .nil)) (.node [] [] .nil .nil))))) good mixed Tryz.func6 (by kernel_rfl) (by kernel_rfl) (by kernel_rfl) (by kernel_rfl) (Eq.mp (S6_eq v0 K w) h)

def S21 (v0:Value) (K:Cont) (w:World):Prop:=
 callK Tryz.prog 46 [] (fun t6 w1=>
 lenK v0 fun t8=>
 LoopK [(.int .i64 0)] (fun vs again w2=>∀ _h:Env,
 ltK .i64 (nth vs 0) t8 fun t10=>
 condK t10
 (ixK 5 v0 (nth vs 0) fun t11=>
 ldnK 5 t11 (fun t12 w3=>
 newK 56 [(.int .u8 0),(.int .i64 0),(.slice none 0 0),(.slice none 0 0),(.slice none 0 0)] (fun t5 w4=>
 stnK 5 t5 t12 (fun w5=>
 faK 0 t5 fun t13=>
 ld1K t13 (fun t14 w6=>
 eqK .u8 t14 (.int .u8 1) fun t16=>
 condK t16
 (faK 1 t5 fun t18=>
 ld1K t18 (fun t19 w7=>
 faK 4 t5 fun t20=>
 ld1K t20 (fun t21 w8=>
 callK Tryz.prog 47 [t6,t19,t21] (fun _t22 w9=>
 addK .i64 (nth vs 0) (.int .i64 1) fun t35=>
 again [t35] w9) w8) w7) w6)
 (eqK .u8 t14 (.int .u8 2) fun t24=>
 condK t24
 (faK 2 t5 fun t26=>
 ld1K t26 (fun t27 w10=>
 faK 3 t5 fun t28=>
 ld1K t28 (fun t29 w11=>
 callK Tryz.prog 48 [t6,t27,t29] (fun _t30 w12=>
 addK .i64 (nth vs 0) (.int .i64 1) fun t35_1=>
 again [t35_1] w12) w11) w10) w6)
 (faK 1 t5 fun t32=>
 ld1K t32 (fun t33 w13=>
 callK Tryz.prog 49 [t6,t33] (fun _t34 w14=>
 addK .i64 (nth vs 0) (.int .i64 1) fun t35_2=>
 again [t35_2] w14) w13) w6))) w5) w4) w3) w2)
 (callK Tryz.prog 50 [t6] (fun t37 w15=>
 K t37 w15) w2)) w1) w
theorem S21_eq (v0:Value) (K:Cont) (w:World):S21 v0 K w=D Tryz.prog okf 38 (bodyOf Tryz.f21) (.node [] [] .nil (.node [] [] .nil (.node [] [] .nil (.node [] [] (.node [] [] .nil (.node [9] [(5,5),(9,35)] (.node [] [] .nil (.node [] [] (.node [] [] .nil .nil) (.node [] [] (.node [] [] .nil (.node [] [] (.node [] [] .nil (.node [] [] .nil (.node [] [] (.node [] [] .nil .nil) (.node [] [] .nil (.node [] [] (.node [] [] .nil .nil) .nil))))) .nil)) .nil))) .nil)) (.node [] [] .nil .nil))))) (retK Tryz.prog [.tmp 2] K) (nth [v0]) w:=by kernel_rfl
theorem S21_ok {v0:Value} {K:Cont} {w:World} (h:S21 v0 K w):callK Tryz.prog 21 [v0] K w:=
 callK_of (P:=Tryz.prog) (ok:=okf) (n:=38) (fn:=Tryz.f21) (c:=bodyOf Tryz.f21) (rs:=[.tmp 2]) (an:=(.node [] [] .nil (.node [] [] .nil (.node [] [] .nil (.node [] [] (.node [] [] .nil (.node [9] [(5,5),(9,35)] (.node [] [] .nil (.node [] [] (.node [] [] .nil .nil) (.node [] [] (.node [] [] .nil (.node [] [] (.node [] [] .nil (.node [] [] .nil (.node [] [] (.node [] [] .nil .nil) (.node [] [] .nil (.node [] [] (.node [] [] .nil .nil) .nil))))) .nil)) .nil))) .nil)) (.node [] [] .nil .nil)))))) good mixed Tryz.func21 (by kernel_rfl) (by kernel_rfl) (by kernel_rfl) (by kernel_rfl) (Eq.mp (S21_eq v0 K w) h)

def S8 (v0:Value) (K:Cont) (w:World):Prop:=
 LoopK [(.slice none 0 0),(.int .i64 0)] (fun vs again w1=>∀ _h:Env,
 lenK v0 fun t8=>
 ltK .i64 (nth vs 1) t8 fun t9=>
 condK t9
 (ixK 5 v0 (nth vs 1) fun t14=>
 ldnK 5 t14 (fun t15 w2=>
 newK 56 [(.int .u8 0),(.int .i64 0),(.slice none 0 0),(.slice none 0 0),(.slice none 0 0)] (fun t5 w3=>
 stnK 5 t5 t15 (fun w4=>
 DrawG [5,8,9,12,13,16,18,19] [[],[],[1],[],[3],[],[],[6],[5,6,7],[],[],[10],[5,6,7,8,9,10,11],[],[],[14],[5,6,7,8,9,10,11,12,13,14,15],[1,2,3,4,5,6,7,8,9,10,11,12,13,14,15,16],[1,2,3,4,5,6,7,8,9,10,11,12,13,14,15,16,17],[0,1,2,3,4,5,6,7,8,9,10,11,12,13,14,15,16,17,18],[0,1,2,3,4,5,6,7,8,9,10,11,12,13,14,15,16,17,18,19]] w4.drew (fun A M St=>
 (∀ w5:World,Mod (ButM [5,8,9,12,13,16,18,19] M 5) w4.drew w5→
 faK 0 t5 fun t17=>
 sld1 (St 2) t17 fun _t18=>
 faK 1 t5 fun t19=>
 sld1 (St 4) t19 fun _t20=>
 faK 2 t5 fun t22=>
 sld1 (St 7) t22 fun _t23=>
 faK 3 t5 fun t26=>
 sld1 (St 11) t26 fun _t27=>
 faK 4 t5 fun t30=>
 sld1 (St 15) t30 fun _t31=>
 rowK 21 1 0 [] [] (fun t21 w6=>
 Mod (M 5) w5 w6∧A 5 t21 w6) w5)∧
 (∀ w7:World,Mod (ButM [5,8,9,12,13,16,18,19] M 8) w4.drew w7→
 faK 0 t5 fun t17_1=>
 sld1 (St 2) t17_1 fun _t18_1=>
 faK 1 t5 fun t19_1=>
 sld1 (St 4) t19_1 fun _t20_1=>
 ∀ t21_1:Value,A 5 t21_1 w7→
 faK 2 t5 fun t22_1=>
 sld1 (St 7) t22_1 fun t23_1=>
 faK 3 t5 fun t26_1=>
 sld1 (St 11) t26_1 fun _t27_1=>
 faK 4 t5 fun t30_1=>
 sld1 (St 15) t30_1 fun _t31_1=>
 runK Tryz.prog (Builtin.append_ #[52,52] 52 [t21_1,t23_1].toArray) (fun t24 w8=>
 Mod (M 8) w7 w8∧A 8 t24 w8) w7)∧
 (∀ w9:World,Mod (ButM [5,8,9,12,13,16,18,19] M 9) w4.drew w9→
 faK 0 t5 fun t17_2=>
 sld1 (St 2) t17_2 fun _t18_2=>
 faK 1 t5 fun t19_2=>
 sld1 (St 4) t19_2 fun _t20_2=>
 faK 2 t5 fun t22_2=>
 sld1 (St 7) t22_2 fun _t23_2=>
 faK 3 t5 fun t26_2=>
 sld1 (St 11) t26_2 fun _t27_2=>
 faK 4 t5 fun t30_2=>
 sld1 (St 15) t30_2 fun _t31_2=>
 rowK 61 5 0 [] [] (fun t25 w10=>
 Mod (M 9) w9 w10∧A 9 t25 w10) w9)∧
 (∀ w11:World,Mod (ButM [5,8,9,12,13,16,18,19] M 12) w4.drew w11→
 faK 0 t5 fun t17_3=>
 sld1 (St 2) t17_3 fun _t18_3=>
 faK 1 t5 fun t19_3=>
 sld1 (St 4) t19_3 fun _t20_3=>
 ∀ t21_2:Value,A 5 t21_2 w11→
 faK 2 t5 fun t22_3=>
 sld1 (St 7) t22_3 fun _t23_3=>
 ∀ t24_1:Value,A 8 t24_1 w11→
 ∀ t25_1:Value,A 9 t25_1 w11→
 faK 3 t5 fun t26_3=>
 sld1 (St 11) t26_3 fun t27_3=>
 faK 4 t5 fun t30_3=>
 sld1 (St 15) t30_3 fun _t31_3=>
 runK Tryz.prog (Builtin.append_ #[53,53] 53 [t25_1,t27_3].toArray) (fun t28 w12=>
 Mod (M 12) w11 w12∧A 12 t28 w12) w11)∧
 (∀ w13:World,Mod (ButM [5,8,9,12,13,16,18,19] M 13) w4.drew w13→
 faK 0 t5 fun t17_4=>
 sld1 (St 2) t17_4 fun _t18_4=>
 faK 1 t5 fun t19_4=>
 sld1 (St 4) t19_4 fun _t20_4=>
 faK 2 t5 fun t22_4=>
 sld1 (St 7) t22_4 fun _t23_4=>
 faK 3 t5 fun t26_4=>
 sld1 (St 11) t26_4 fun _t27_4=>
 faK 4 t5 fun t30_4=>
 sld1 (St 15) t30_4 fun _t31_4=>
 rowK 63 6 0 [] [] (fun t29 w14=>
 Mod (M 13) w13 w14∧A 13 t29 w14) w13)∧
 (∀ w15:World,Mod (ButM [5,8,9,12,13,16,18,19] M 16) w4.drew w15→
 faK 0 t5 fun t17_5=>
 sld1 (St 2) t17_5 fun _t18_5=>
 faK 1 t5 fun t19_5=>
 sld1 (St 4) t19_5 fun _t20_5=>
 ∀ t21_3:Value,A 5 t21_3 w15→
 faK 2 t5 fun t22_5=>
 sld1 (St 7) t22_5 fun _t23_5=>
 ∀ t24_2:Value,A 8 t24_2 w15→
 ∀ t25_2:Value,A 9 t25_2 w15→
 faK 3 t5 fun t26_5=>
 sld1 (St 11) t26_5 fun _t27_5=>
 ∀ t28_1:Value,A 12 t28_1 w15→
 ∀ t29_1:Value,A 13 t29_1 w15→
 faK 4 t5 fun t30_5=>
 sld1 (St 15) t30_5 fun t31_5=>
 runK Tryz.prog (Builtin.append_ #[54,54] 54 [t29_1,t31_5].toArray) (fun t32 w16=>
 Mod (M 16) w15 w16∧A 16 t32 w16) w15)∧
 (∀ w17:World,Mod (ButM [5,8,9,12,13,16,18,19] M 18) w4.drew w17→
 faK 0 t5 fun t17_6=>
 sld1 (St 2) t17_6 fun t18_6=>
 faK 1 t5 fun t19_6=>
 sld1 (St 4) t19_6 fun t20_6=>
 ∀ t21_4:Value,A 5 t21_4 w17→
 faK 2 t5 fun t22_6=>
 sld1 (St 7) t22_6 fun _t23_6=>
 ∀ t24_3:Value,A 8 t24_3 w17→
 ∀ t25_3:Value,A 9 t25_3 w17→
 faK 3 t5 fun t26_6=>
 sld1 (St 11) t26_6 fun _t27_6=>
 ∀ t28_2:Value,A 12 t28_2 w17→
 ∀ t29_2:Value,A 13 t29_2 w17→
 faK 4 t5 fun t30_6=>
 sld1 (St 15) t30_6 fun _t31_6=>
 ∀ t32_1:Value,A 16 t32_1 w17→
 buildK [(0,1),(1,1),(2,1),(3,1),(4,1)] [(.int .u8 0),(.int .i64 0),(.slice none 0 0),(.slice none 0 0),(.slice none 0 0)] [(0,t18_6),(1,t20_6),(2,t24_3),(3,t28_2),(4,t32_1)] fun t33=>
 rowK 56 5 1 [(.int .u8 0),(.int .i64 0),(.slice none 0 0),(.slice none 0 0),(.slice none 0 0)] [(0,t33)] (fun t34 w18=>
 Mod (M 18) w17 w18∧A 18 t34 w18) w17)∧
 (∀ w19:World,Mod (ButM [5,8,9,12,13,16,18,19] M 19) w4.drew w19→
 faK 0 t5 fun t17_7=>
 sld1 (St 2) t17_7 fun t18_7=>
 faK 1 t5 fun t19_7=>
 sld1 (St 4) t19_7 fun t20_7=>
 ∀ t21_5:Value,A 5 t21_5 w19→
 faK 2 t5 fun t22_7=>
 sld1 (St 7) t22_7 fun _t23_7=>
 ∀ t24_4:Value,A 8 t24_4 w19→
 ∀ t25_4:Value,A 9 t25_4 w19→
 faK 3 t5 fun t26_7=>
 sld1 (St 11) t26_7 fun _t27_7=>
 ∀ t28_3:Value,A 12 t28_3 w19→
 ∀ t29_3:Value,A 13 t29_3 w19→
 faK 4 t5 fun t30_7=>
 sld1 (St 15) t30_7 fun _t31_7=>
 ∀ t32_2:Value,A 16 t32_2 w19→
 buildK [(0,1),(1,1),(2,1),(3,1),(4,1)] [(.int .u8 0),(.int .i64 0),(.slice none 0 0),(.slice none 0 0),(.slice none 0 0)] [(0,t18_7),(1,t20_7),(2,t24_4),(3,t28_3),(4,t32_2)] fun _t33_1=>
 ∀ t34_1:Value,A 18 t34_1 w19→
 runK Tryz.prog (Builtin.append_ #[23,23] 23 [(nth vs 0),t34_1].toArray) (fun t35 w20=>
 Mod (M 19) w19 w20∧A 19 t35 w20) w19)∧
 (∀ w21:World,Mod (AllM [5,8,9,12,13,16,18,19] M) w4.drew w21→
 faK 0 t5 fun t17_8=>
 sld1 (St 2) t17_8 fun t18_8=>
 faK 1 t5 fun t19_8=>
 sld1 (St 4) t19_8 fun t20_8=>
 ∀ t21_6:Value,A 5 t21_6 w21→
 faK 2 t5 fun t22_8=>
 sld1 (St 7) t22_8 fun _t23_8=>
 ∀ t24_5:Value,A 8 t24_5 w21→
 ∀ t25_5:Value,A 9 t25_5 w21→
 faK 3 t5 fun t26_8=>
 sld1 (St 11) t26_8 fun _t27_8=>
 ∀ t28_4:Value,A 12 t28_4 w21→
 ∀ t29_4:Value,A 13 t29_4 w21→
 faK 4 t5 fun t30_8=>
 sld1 (St 15) t30_8 fun _t31_8=>
 ∀ t32_3:Value,A 16 t32_3 w21→
 buildK [(0,1),(1,1),(2,1),(3,1),(4,1)] [(.int .u8 0),(.int .i64 0),(.slice none 0 0),(.slice none 0 0),(.slice none 0 0)] [(0,t18_8),(1,t20_8),(2,t24_5),(3,t28_4),(4,t32_3)] fun _t33_2=>
 True)∧
 (∀ w22:World,Mod (AllM [5,8,9,12,13,16,18,19] M) w4.drew w22→
 faK 0 t5 fun t17_9=>
 sld1 (St 2) t17_9 fun t18_9=>
 faK 1 t5 fun t19_9=>
 sld1 (St 4) t19_9 fun t20_9=>
 ∀ t21_7:Value,A 5 t21_7 w22→
 faK 2 t5 fun t22_9=>
 sld1 (St 7) t22_9 fun _t23_9=>
 ∀ t24_6:Value,A 8 t24_6 w22→
 ∀ t25_6:Value,A 9 t25_6 w22→
 faK 3 t5 fun t26_9=>
 sld1 (St 11) t26_9 fun _t27_9=>
 ∀ t28_5:Value,A 12 t28_5 w22→
 ∀ t29_5:Value,A 13 t29_5 w22→
 faK 4 t5 fun t30_9=>
 sld1 (St 15) t30_9 fun _t31_9=>
 ∀ t32_4:Value,A 16 t32_4 w22→
 buildK [(0,1),(1,1),(2,1),(3,1),(4,1)] [(.int .u8 0),(.int .i64 0),(.slice none 0 0),(.slice none 0 0),(.slice none 0 0)] [(0,t18_9),(1,t20_9),(2,t24_6),(3,t28_5),(4,t32_4)] fun _t33_3=>
 ∀ t34_2:Value,A 18 t34_2 w22→
 ∀ t35_1:Value,A 19 t35_1 w22→
 addK .i64 (nth vs 1) (.int .i64 1) fun t11=>
 again [t35_1,t11] w22))) w3) w2) w1)
 (K (nth vs 0) w1)) w
theorem S8_eq (v0:Value) (K:Cont) (w:World):S8 v0 K w=D Tryz.prog okf 37 (bodyOf Tryz.f8) (.node [] [] .nil (.node [] [] .nil (.node [] [] (.node [] [] .nil (.node [3,4] [(3,35)] (.node [] [] (.node [] [] .nil (.node [] [] .nil .nil)) (.node [] [] (.node [] [] .nil (.dg [5,8,9,12,13,16,18,19] [[],[],[1],[],[3],[],[],[6],[5,6,7],[],[],[10],[5,6,7,8,9,10,11],[],[],[14],[5,6,7,8,9,10,11,12,13,14,15],[1,2,3,4,5,6,7,8,9,10,11,12,13,14,15,16],[1,2,3,4,5,6,7,8,9,10,11,12,13,14,15,16,17],[0,1,2,3,4,5,6,7,8,9,10,11,12,13,14,15,16,17,18],[0,1,2,3,4,5,6,7,8,9,10,11,12,13,14,15,16,17,18,19]] [[5,8,9,12,13,16]])) .nil)) .nil)) (.node [] [] .nil .nil)))) (retK Tryz.prog [.tmp 2] K) (nth [v0]) w:=by kernel_rfl
theorem S8_ok {v0:Value} {K:Cont} {w:World} (h:S8 v0 K w):callK Tryz.prog 8 [v0] K w:=
 callK_of (P:=Tryz.prog) (ok:=okf) (n:=37) (fn:=Tryz.f8) (c:=bodyOf Tryz.f8) (rs:=[.tmp 2]) (an:=(.node [] [] .nil (.node [] [] .nil (.node [] [] (.node [] [] .nil (.node [3,4] [(3,35)] (.node [] [] (.node [] [] .nil (.node [] [] .nil .nil)) (.node [] [] (.node [] [] .nil (.dg [5,8,9,12,13,16,18,19] [[],[],[1],[],[3],[],[],[6],[5,6,7],[],[],[10],[5,6,7,8,9,10,11],[],[],[14],[5,6,7,8,9,10,11,12,13,14,15],[1,2,3,4,5,6,7,8,9,10,11,12,13,14,15,16],[1,2,3,4,5,6,7,8,9,10,11,12,13,14,15,16,17],[0,1,2,3,4,5,6,7,8,9,10,11,12,13,14,15,16,17,18],[0,1,2,3,4,5,6,7,8,9,10,11,12,13,14,15,16,17,18,19]] [[5,8,9,12,13,16]])) .nil)) .nil)) (.node [] [] .nil .nil))))) good mixed Tryz.func8 (by kernel_rfl) (by kernel_rfl) (by kernel_rfl) (by kernel_rfl) (Eq.mp (S8_eq v0 K w) h)

def S31 (v0:Value) (K:Cont) (w:World):Prop:=
 callK Tryz.prog 21 [v0] (fun t4 w1=>
 callK Tryz.prog 72 [t4,v0] (fun t6 w2=>
 K t6 w2) w1) w
theorem S31_eq (v0:Value) (K:Cont) (w:World):S31 v0 K w=D Tryz.prog okf 7 (bodyOf Tryz.f31) (.node [] [] .nil (.node [] [] .nil .nil)) (retK Tryz.prog [.tmp 2] K) (nth [v0]) w:=by kernel_rfl
theorem S31_ok {v0:Value} {K:Cont} {w:World} (h:S31 v0 K w):callK Tryz.prog 31 [v0] K w:=
 callK_of (P:=Tryz.prog) (ok:=okf) (n:=7) (fn:=Tryz.f31) (c:=bodyOf Tryz.f31) (rs:=[.tmp 2]) (an:=(.node [] [] .nil (.node [] [] .nil .nil))) good mixed Tryz.func31 (by kernel_rfl) (by kernel_rfl) (by kernel_rfl) (by kernel_rfl) (Eq.mp (S31_eq v0 K w) h)

def S11 (v0 v1:Value) (K:Cont) (w:World):Prop:=
 lenK v0 fun t9=>
 lenK v1 fun t11=>
 neK .i64 t9 t11 fun t12=>
 condK t12
 (K (.bool false) w)
 (LoopK [(.int .i64 0)] (fun vs again w1=>∀ _h:Env,
 lenK v0 fun t15=>
 ltK .i64 (nth vs 0) t15 fun t16=>
 condK t16
 (JoinK (fun _vs_1 w2=>∀ _h_1:Env,
 addK .i64 (nth vs 0) (.int .i64 1) fun t18=>
 again [t18] w2) (fun J=>
 JoinK (fun vs_2 w3=>∀ _h_2:Env,
 faK 0 (nth vs_2 0) fun t27=>
 ld1K t27 (fun t28 w4=>
 faK 0 (nth vs_2 1) fun t29=>
 ld1K t29 (fun t30 w5=>
 neK .u8 t28 t30 fun t31=>
 condK t31
 (K (.bool false) w5)
 (faK 1 (nth vs_2 0) fun t33=>
 ld1K t33 (fun t34 w6=>
 faK 1 (nth vs_2 1) fun t35=>
 ld1K t35 (fun t36 w7=>
 neK .i64 t34 t36 fun t37=>
 condK t37
 (K (.bool false) w7)
 (faK 2 (nth vs_2 0) fun t40=>
 ld1K t40 (fun t41 w8=>
 faK 2 (nth vs_2 1) fun t42=>
 ld1K t42 (fun t43 w9=>
 callK Tryz.prog 26 [t41,t43] (fun t44 w10=>
 notK t44 fun t45=>
 condK t45
 (K (.bool false) w10)
 (faK 3 (nth vs_2 0) fun t48=>
 ld1K t48 (fun t49 w11=>
 faK 3 (nth vs_2 1) fun t50=>
 ld1K t50 (fun t51 w12=>
 callK Tryz.prog 27 [t49,t51] (fun t52 w13=>
 notK t52 fun t53=>
 condK t53
 (K (.bool false) w13)
 (faK 4 (nth vs_2 0) fun t56=>
 ld1K t56 (fun t57 w14=>
 faK 4 (nth vs_2 1) fun t58=>
 ld1K t58 (fun t59 w15=>
 callK Tryz.prog 28 [t57,t59] (fun t60 w16=>
 notK t60 fun t61=>
 condK t61
 (K (.bool false) w16)
 (J [] w16)) w15) w14) w13)) w12) w11) w10)) w9) w8) w7)) w6) w5)) w4) w3) (fun J_1=>
 DrawC [8,9,10,11] [[],[],[0,1],[0,1,2],[],[],[4,5],[4,5,6],[],[],[0,1,2,3,8,9],[0,1,2,3,4,5,6,7,8,9,10]] w1.drew (fun M St=>
 ixK 5 v0 (nth vs 0) fun t21=>
 sldn (St 3) 5 t21 fun t22=>
 ixK 5 v1 (nth vs 0) fun t25=>
 sldn (St 7) 5 t25 fun t26=>
 (newK 56 [(.int .u8 0),(.int .i64 0),(.slice none 0 0),(.slice none 0 0),(.slice none 0 0)] (fun t6 w17=>
 Mod (M 8) w1.drew w17∧
 newK 56 [(.int .u8 0),(.int .i64 0),(.slice none 0 0),(.slice none 0 0),(.slice none 0 0)] (fun t7 w18=>
 Mod (M 9) w17 w18∧
 stnK 5 t6 t22 (fun w19=>
 Mod (M 10) w18 w19∧
 stnK 5 t7 t26 (fun w20=>
 Mod (M 11) w19 w20∧
 J_1 [t6,t7] w20) w19) w18) w17) w1.drew)∧
 (newK 56 [(.int .u8 0),(.int .i64 0),(.slice none 0 0),(.slice none 0 0),(.slice none 0 0)] (fun t7_1 w21=>
 Mod (M 9) w1.drew w21∧
 newK 56 [(.int .u8 0),(.int .i64 0),(.slice none 0 0),(.slice none 0 0),(.slice none 0 0)] (fun t6_1 w22=>
 Mod (M 8) w21 w22∧
 stnK 5 t6_1 t22 (fun w23=>
 Mod (M 10) w22 w23∧
 stnK 5 t7_1 t26 (fun w24=>
 Mod (M 11) w23 w24∧
 J_1 [t6_1,t7_1] w24) w23) w22) w21) w1.drew)))))
 (K (.bool true) w1)) w)
theorem S11_eq (v0 v1:Value) (K:Cont) (w:World):S11 v0 v1 K w=D Tryz.prog okf 63 (bodyOf Tryz.f11) (.node [] [] .nil (.node [] [] (.node [] [] .nil (.node [] [] (.node [] [] .nil .nil) .nil)) (.node [] [] (.node [] [] .nil (.node [5] [(4,7),(13,62)] (.node [] [] (.node [] [] .nil (.node [] [] .nil .nil)) (.cut [] [(4,4),(6,7),(19,62)] (.cut [6,7] [(6,7),(19,26)] (.dt [8,9,10,11] [[],[],[0,1],[0,1,2],[],[],[4,5],[4,5,6],[],[],[0,1,2,3,8,9],[0,1,2,3,4,5,6,7,8,9,10]] [] (.op 0 (.op 1 (.op 2 (.op 3 (.op 4 (.op 5 (.op 6 (.op 7 (.br (.op 8 (.op 9 (.op 10 (.op 11 .nil)))) (.op 9 (.op 8 (.op 10 (.op 11 .nil)))))))))))))) (.node [] [] .nil (.node [] [] (.node [] [] .nil .nil) .nil))) .nil)) .nil)) (.node [] [] .nil .nil)))) (retK Tryz.prog [.tmp 4] K) (nth [v0,v1]) w:=by kernel_rfl
theorem S11_ok {v0 v1:Value} {K:Cont} {w:World} (h:S11 v0 v1 K w):callK Tryz.prog 11 [v0,v1] K w:=
 callK_of (P:=Tryz.prog) (ok:=okf) (n:=63) (fn:=Tryz.f11) (c:=bodyOf Tryz.f11) (rs:=[.tmp 4]) (an:=(.node [] [] .nil (.node [] [] (.node [] [] .nil (.node [] [] (.node [] [] .nil .nil) .nil)) (.node [] [] (.node [] [] .nil (.node [5] [(4,7),(13,62)] (.node [] [] (.node [] [] .nil (.node [] [] .nil .nil)) (.cut [] [(4,4),(6,7),(19,62)] (.cut [6,7] [(6,7),(19,26)] (.dt [8,9,10,11] [[],[],[0,1],[0,1,2],[],[],[4,5],[4,5,6],[],[],[0,1,2,3,8,9],[0,1,2,3,4,5,6,7,8,9,10]] [] (.op 0 (.op 1 (.op 2 (.op 3 (.op 4 (.op 5 (.op 6 (.op 7 (.br (.op 8 (.op 9 (.op 10 (.op 11 .nil)))) (.op 9 (.op 8 (.op 10 (.op 11 .nil)))))))))))))) (.node [] [] .nil (.node [] [] (.node [] [] .nil .nil) .nil))) .nil)) .nil)) (.node [] [] .nil .nil))))) good mixed Tryz.func11 (by kernel_rfl) (by kernel_rfl) (by kernel_rfl) (by kernel_rfl) (Eq.mp (S11_eq v0 v1 K w) h)

def S25 (v0:Value) (K:Cont) (w:World):Prop:=
 JoinK (fun vs w1=>∀ _h:Env,
 lenK (nth vs 0) fun t88=>
 subK .i64 t88 (.int .i64 1) fun t89=>
 JoinK (fun vs_1 w2=>∀ _h_1:Env,
 callK Tryz.prog 8 [(nth vs_1 0)] (fun t113 w3=>
 K t113 w3) w2) (fun J_1=>
 geK .i64 t89 (.int .i64 0) fun t91=>
 condK t91
 (ixK 5 (nth vs 0) t89 fun t95=>
 faK 0 t95 fun t96=>
 ld1K t96 (fun t97 w4=>
 eqK .u8 t97 (.int .u8 1) fun t98=>
 condK t98
 (ixK 5 (nth vs 0) t89 fun t103=>
 faK 4 t103 fun t104=>
 ld1K t104 (fun t105 w5=>
 lenK t105 fun t106=>
 eqK .i64 t106 (.int .i64 0) fun t107=>
 condK t107
 (runK Tryz.prog (Instr.sliceAt 23 (nth vs 0) none (some t89) none) (fun t111 w6=>
 J_1 [t111] w6) w5)
 (J_1 [(nth vs 0)] w5)) w4)
 (J_1 [(nth vs 0)] w4)) w1)
 (J_1 [(nth vs 0)] w1))) (fun J=>
 LoopK [(.slice none 0 0),(.int .i64 0),(.int .i64 0)] (fun vs_2 again w9=>∀ _h_2:Env,
 lenK v0 fun t10=>
 leK .i64 (nth vs_2 2) t10 fun t11=>
 condK t11
 (JoinK (fun vs_3 w10=>∀ _h_3:Env,
 addK .i64 (nth vs_2 2) (.int .i64 1) fun t13=>
 again [(nth vs_3 0),(nth vs_3 1),t13] w10) (fun J_2=>
 JoinK (fun _vs_4 w11=>∀ _h_4:Env,
 runK Tryz.prog (Instr.sliceAt 23 v0 (some (nth vs_2 1)) (some (nth vs_2 2)) none) (fun t30 w12=>
 callK Tryz.prog 63 [t30] (fun t31 w13=>
 runK Tryz.prog (Builtin.append_ #[23,23] 23 [(nth vs_2 0),t31].toArray) (fun t32 w14=>
 addK .i64 (nth vs_2 2) (.int .i64 1) fun t34=>
 lenK v0 fun t37=>
 eqK .i64 (nth vs_2 2) t37 fun t38=>
 condK t38
 (J [t32] w14)
 (lenK t32 fun t40=>
 subK .i64 t40 (.int .i64 1) fun t41=>
 JoinK (fun vs_5 w15=>∀ _h_5:Env,
 condK (nth vs_5 0)
 (DrawC [15] [[],[],[],[],[2,3],[2,3,4],[2,3,4,5],[],[],[7,8],[7,8,9],[7,8,9,10],[2,3,4,5,6,7,8,9,10,11],[0,1,2,3,4,5,6,7,8,9,10,11,12],[0,1,2,3,4,5,6,7,8,9,10,11,12,13],[0,1,2,3,4,5,6,7,8,9,10,11,12,13,14]] w15.drew (fun M St=>
 ixK 5 t32 t41 fun t69=>
 faK 1 t69 fun t70=>
 sld1 (St 6) t70 fun t71=>
 ixK 5 v0 (nth vs_2 2) fun t74=>
 faK 1 t74 fun t75=>
 sld1 (St 11) t75 fun t76=>
 addK .i64 t71 t76 fun t77=>
 ixK 5 t32 t41 fun t78=>
 faK 1 t78 fun t79=>
 st1K t79 t77 (fun w16=>
 Mod (M 15) w15.drew w16∧
 J_2 [t32,t34] w16) w15.drew))
 (ixK 5 v0 (nth vs_2 2) fun t83=>
 ldnK 5 t83 (fun t84 w17=>
 rowK 56 5 1 [(.int .u8 0),(.int .i64 0),(.slice none 0 0),(.slice none 0 0),(.slice none 0 0)] [(0,t84)] (fun t85 w18=>
 runK Tryz.prog (Builtin.append_ #[23,23] 23 [t32,t85].toArray) (fun t86 w19=>
 J_2 [t86,t34] w19) w18) w17) w15)) (fun J_4=>
 DrawK w14 (fun C=>
 geK .i64 t41 (.int .i64 0) fun t43=>
 condK t43
 (ixK 5 t32 t41 fun t47=>
 faK 0 t47 fun t48=>
 qld1K C t48 fun t49=>
 eqK .u8 t49 (.int .u8 1) fun t50=>
 condK t50
 (ixK 5 t32 t41 fun t55=>
 faK 4 t55 fun t56=>
 qld1K C t56 fun t57=>
 ixK 5 v0 (nth vs_2 2) fun t60=>
 faK 4 t60 fun t61=>
 qld1K C t61 fun t62=>
 qcallK Tryz.prog C 28 [t57,t62] fun t63=>
 ∀ w20:World,C w20→
 J_4 [t63] w20)
 (∀ w21:World,C w21→
 J_4 [(.bool false)] w21))
 (∀ w22:World,C w22→
 J_4 [(.bool false)] w22))))) w13) w12) w11) (fun J_3=>
 lenK v0 fun t16=>
 ltK .i64 (nth vs_2 2) t16 fun t17=>
 condK t17
 (ixK 5 v0 (nth vs_2 2) fun t21=>
 faK 0 t21 fun t22=>
 ld1K t22 (fun t23 w23=>
 neK .u8 t23 (.int .u8 1) fun t24=>
 condK t24
 (J_2 [(nth vs_2 0),(nth vs_2 1)] w23)
 (J_3 [] w23)) w9)
 (J_3 [] w9))))
 (J [(nth vs_2 0)] w9)) w)
theorem S25_eq (v0:Value) (K:Cont) (w:World):S25 v0 K w=D Tryz.prog okf 114 (bodyOf Tryz.f25) (.node [] [] .nil (.node [] [] .nil (.node [] [] .nil (.cut [3] [(3,6),(8,86)] (.node [] [] .nil (.node [3,4,5] [(3,6),(8,86)] (.node [] [] (.node [] [] .nil (.node [] [] .nil .nil)) (.cut [3,4] [(3,4),(6,6),(14,86)] (.cut [] [(14,25)] (.node [] [] .nil (.node [] [] .nil .nil)) (.node [] [] .nil (.node [] [] .nil (.node [] [] (.node [] [] .nil (.node [] [] .nil .nil)) (.node [] [] .nil (.cut [64] [(42,64)] .draw (.node [] [] (.dc [15] [[],[],[],[],[2,3],[2,3,4],[2,3,4,5],[],[],[7,8],[7,8,9],[7,8,9,10],[2,3,4,5,6,7,8,9,10,11],[0,1,2,3,4,5,6,7,8,9,10,11,12],[0,1,2,3,4,5,6,7,8,9,10,11,12,13],[0,1,2,3,4,5,6,7,8,9,10,11,12,13,14]] []) .nil))))))) .nil)) .nil)) (.node [] [] .nil (.cut [3] [(3,3),(90,111)] (.node [] [] .nil (.node [] [] .nil .nil)) (.node [] [] .nil .nil))))))) (retK Tryz.prog [.tmp 2] K) (nth [v0]) w:=by kernel_rfl
theorem S25_ok {v0:Value} {K:Cont} {w:World} (h:S25 v0 K w):callK Tryz.prog 25 [v0] K w:=
 callK_of (P:=Tryz.prog) (ok:=okf) (n:=114) (fn:=Tryz.f25) (c:=bodyOf Tryz.f25) (rs:=[.tmp 2]) (an:=(.node [] [] .nil (.node [] [] .nil (.node [] [] .nil (.cut [3] [(3,6),(8,86)] (.node [] [] .nil (.node [3,4,5] [(3,6),(8,86)] (.node [] [] (.node [] [] .nil (.node [] [] .nil .nil)) (.cut [3,4] [(3,4),(6,6),(14,86)] (.cut [] [(14,25)] (.node [] [] .nil (.node [] [] .nil .nil)) (.node [] [] .nil (.node [] [] .nil (.node [] [] (.node [] [] .nil (.node [] [] .nil .nil)) (.node [] [] .nil (.cut [64] [(42,64)] .draw (.node [] [] (.dc [15] [[],[],[],[],[2,3],[2,3,4],[2,3,4,5],[],[],[7,8],[7,8,9],[7,8,9,10],[2,3,4,5,6,7,8,9,10,11],[0,1,2,3,4,5,6,7,8,9,10,11,12],[0,1,2,3,4,5,6,7,8,9,10,11,12,13],[0,1,2,3,4,5,6,7,8,9,10,11,12,13,14]] []) .nil))))))) .nil)) .nil)) (.node [] [] .nil (.cut [3] [(3,3),(90,111)] (.node [] [] .nil (.node [] [] .nil .nil)) (.node [] [] .nil .nil)))))))) good mixed Tryz.func25 (by kernel_rfl) (by kernel_rfl) (by kernel_rfl) (by kernel_rfl) (Eq.mp (S25_eq v0 K w) h)

def S38 (v0:Value) (K:Cont) (w:World):Prop:=
 callK Tryz.prog 25 [v0] (fun t4 w1=>
 callK Tryz.prog 11 [t4,v0] (fun t6 w2=>
 K t6 w2) w1) w
theorem S38_eq (v0:Value) (K:Cont) (w:World):S38 v0 K w=D Tryz.prog okf 7 (bodyOf Tryz.f38) (.node [] [] .nil (.node [] [] .nil .nil)) (retK Tryz.prog [.tmp 2] K) (nth [v0]) w:=by kernel_rfl
theorem S38_ok {v0:Value} {K:Cont} {w:World} (h:S38 v0 K w):callK Tryz.prog 38 [v0] K w:=
 callK_of (P:=Tryz.prog) (ok:=okf) (n:=7) (fn:=Tryz.f38) (c:=bodyOf Tryz.f38) (rs:=[.tmp 2]) (an:=(.node [] [] .nil (.node [] [] .nil .nil))) good mixed Tryz.func38 (by kernel_rfl) (by kernel_rfl) (by kernel_rfl) (by kernel_rfl) (Eq.mp (S38_eq v0 K w) h)

def S46 (K:Cont) (w:World):Prop:=
 buildK [(0,1),(1,1),(2,1)] [(.slice none 0 0),(.slice none 0 0),(.int .i64 0)] [] fun t1=>
 boxnK 138 t1 (fun t2 w1=>
 K t2 w1) w
theorem S46_eq (K:Cont) (w:World):S46  K w=D Tryz.prog okf 3 (bodyOf Tryz.f46) (.node [] [] .nil (.node [] [] .nil .nil)) (retK Tryz.prog [.tmp 0] K) (nth []) w:=by kernel_rfl
theorem S46_ok {K:Cont} {w:World} (h:S46  K w):callK Tryz.prog 46 [] K w:=
 callK_of (P:=Tryz.prog) (ok:=okf) (n:=3) (fn:=Tryz.f46) (c:=bodyOf Tryz.f46) (rs:=[.tmp 0]) (an:=(.node [] [] .nil (.node [] [] .nil .nil))) good mixed Tryz.func46 (by kernel_rfl) (by kernel_rfl) (by kernel_rfl) (by kernel_rfl) (Eq.mp (S46_eq  K w) h)

def S47 (v0 v1 v2:Value) (K:Cont) (w:World):Prop:=
 JoinK (fun _vs w1=>∀ _h:Env,
 DrawC [6,7,10] [[],[],[1],[1,2],[1,2,3],[],[5],[1,2,3,4,5,6],[0,1,2,3,4,5,6,7],[0,1,2,3,4,5,6,7,8],[0,1,2,3,4,5,6,7,8,9]] w1.drew (fun M St=>
 nilckK v0 fun t15=>
 faK 0 t15 fun t16=>
 sld1 (St 4) t16 fun t17=>
 callK Tryz.prog 91 [v0] (fun t19 w2=>
 Mod (M 6) w1.drew w2∧
 runK Tryz.prog (Builtin.append_ #[23,23] 23 [t17,t19].toArray) (fun t20 w3=>
 Mod (M 7) w2 w3∧
 nilckK v0 fun t21=>
 faK 0 t21 fun t22=>
 st1K t22 t20 (fun w4=>
 Mod (M 10) w3 w4∧
 nilckK v0 fun t25=>
 faK 1 t25 fun t26=>
 st1K t26 (.slice none 0 0) (fun w5=>
 nilckK v0 fun t27=>
 faK 2 t27 fun t28=>
 st1K t28 (.int .i64 0) (fun w6=>
 nilckK v0 fun t30=>
 faK 0 t30 fun t31=>
 ld1K t31 (fun t32 w7=>
 lenK t32 fun t33=>
 subK .i64 t33 (.int .i64 1) fun t34=>
 JoinK (fun vs_1 w8=>∀ _h_1:Env,
 condK (nth vs_1 0)
 (nilckK v0 fun t61=>
 faK 0 t61 fun t62=>
 ld1K t62 (fun t63 w9=>
 ixK 5 t63 t34 fun t65=>
 faK 1 t65 fun t66=>
 ld1K t66 (fun t67 w10=>
 addK .i64 t67 v1 fun t69=>
 ixK 5 t63 t34 fun t70=>
 faK 1 t70 fun t71=>
 st1K t71 t69 (fun w11=>
 K (.tuple #[]) w11) w10) w9) w8)
 (DrawC [7,9,10,13] [[],[],[1],[1,2],[1,2,3],[],[],[6],[5,6,7],[5,6,7,8],[1,2,3,4,5,6,7,8,9],[0,1,2,3,4,5,6,7,8,9,10],[0,1,2,3,4,5,6,7,8,9,10,11],[0,1,2,3,4,5,6,7,8,9,10,11,12]] w8.drew (fun M_1 St_1=>
 nilckK v0 fun t74=>
 faK 0 t74 fun t75=>
 sld1 (St_1 4) t75 fun t76=>
 callK Tryz.prog 93 [v2] (fun t79 w12=>
 Mod (M_1 7) w8.drew w12∧
 buildK [(0,1),(1,1),(2,1),(3,1),(4,1)] [(.int .u8 0),(.int .i64 0),(.slice none 0 0),(.slice none 0 0),(.slice none 0 0)] [(0,(.int .u8 1)),(1,v1),(4,t79)] fun t80=>
 rowK 56 5 1 [(.int .u8 0),(.int .i64 0),(.slice none 0 0),(.slice none 0 0),(.slice none 0 0)] [(0,t80)] (fun t81 w13=>
 Mod (M_1 9) w12 w13∧
 runK Tryz.prog (Builtin.append_ #[23,23] 23 [t76,t81].toArray) (fun t82 w14=>
 Mod (M_1 10) w13 w14∧
 nilckK v0 fun t83=>
 faK 0 t83 fun t84=>
 st1K t84 t82 (fun w15=>
 Mod (M_1 13) w14 w15∧
 K (.tuple #[]) w15) w14) w13) w12) w8.drew))) (fun J_1=>
 geK .i64 t34 (.int .i64 0) fun t36=>
 condK t36
 (nilckK v0 fun t39=>
 faK 0 t39 fun t40=>
 ld1K t40 (fun t41 w16=>
 ixK 5 t41 t34 fun t43=>
 faK 0 t43 fun t44=>
 ld1K t44 (fun t45 w17=>
 eqK .u8 t45 (.int .u8 1) fun t46=>
 condK t46
 (nilckK v0 fun t50=>
 faK 0 t50 fun t51=>
 ld1K t51 (fun t52 w18=>
 ixK 5 t52 t34 fun t54=>
 faK 4 t54 fun t55=>
 ld1K t55 (fun t56 w19=>
 callK Tryz.prog 92 [t56,v2] (fun t58 w20=>
 J_1 [t58] w20) w19) w18) w17)
 (J_1 [(.bool false)] w17)) w16) w7)
 (J_1 [(.bool false)] w7))) w6) w5) w4) w3) w2) w1.drew)) (fun J=>
 pnilK v0 fun b8=>
 condK (.bool b8)
 (K (.tuple #[]) w)
 (ltK .i64 v1 (.int .i64 1) fun t11=>
 condK t11
 (K (.tuple #[]) w)
 (J [] w)))
theorem S47_eq (v0 v1 v2:Value) (K:Cont) (w:World):S47 v0 v1 v2 K w=D Tryz.prog okf 85 (bodyOf Tryz.f47) (.cut [] [(7,12)] (.node [] [] .nil (.node [] [] .nil .nil)) (.node [] [] (.dc [6,7,10] [[],[],[1],[1,2],[1,2,3],[],[5],[1,2,3,4,5,6],[0,1,2,3,4,5,6,7],[0,1,2,3,4,5,6,7,8],[0,1,2,3,4,5,6,7,8,9]] [[6,7]]) (.node [] [] .nil (.node [] [] .nil (.node [] [] (.cut [59] [(35,59)] .nil (.node [] [] (.node [] [] .nil .nil) .nil)) (.dc [7,9,10,13] [[],[],[1],[1,2],[1,2,3],[],[],[6],[5,6,7],[5,6,7,8],[1,2,3,4,5,6,7,8,9],[0,1,2,3,4,5,6,7,8,9,10],[0,1,2,3,4,5,6,7,8,9,10,11],[0,1,2,3,4,5,6,7,8,9,10,11,12]] [[7],[7,9,10]])))))) (retK Tryz.prog [] K) (nth [v0,v1,v2]) w:=by kernel_rfl
theorem S47_ok {v0 v1 v2:Value} {K:Cont} {w:World} (h:S47 v0 v1 v2 K w):callK Tryz.prog 47 [v0,v1,v2] K w:=
 callK_of (P:=Tryz.prog) (ok:=okf) (n:=85) (fn:=Tryz.f47) (c:=bodyOf Tryz.f47) (rs:=[]) (an:=(.cut [] [(7,12)] (.node [] [] .nil (.node [] [] .nil .nil)) (.node [] [] (.dc [6,7,10] [[],[],[1],[1,2],[1,2,3],[],[5],[1,2,3,4,5,6],[0,1,2,3,4,5,6,7],[0,1,2,3,4,5,6,7,8],[0,1,2,3,4,5,6,7,8,9]] [[6,7]]) (.node [] [] .nil (.node [] [] .nil (.node [] [] (.cut [59] [(35,59)] .nil (.node [] [] (.node [] [] .nil .nil) .nil)) (.dc [7,9,10,13] [[],[],[1],[1,2],[1,2,3],[],[],[6],[5,6,7],[5,6,7,8],[1,2,3,4,5,6,7,8,9],[0,1,2,3,4,5,6,7,8,9,10],[0,1,2,3,4,5,6,7,8,9,10,11],[0,1,2,3,4,5,6,7,8,9,10,11,12]] [[7],[7,9,10]]))))))) good mixed Tryz.func47 (by kernel_rfl) (by kernel_rfl) (by kernel_rfl) (by kernel_rfl) (Eq.mp (S47_eq v0 v1 v2 K w) h)

def S48 (v0 v1 v2:Value) (K:Cont) (w:World):Prop:=
 JoinK (fun _vs w1=>∀ _h:Env,
 nilckK v0 fun t15=>
 faK 1 t15 fun t16=>
 ld1K t16 (fun t17 w2=>
 lenK t17 fun t18=>
 subK .i64 t18 (.int .i64 1) fun t19=>
 JoinK (fun vs_1 w3=>∀ _h_1:Env,
 condK (nth vs_1 0)
 (DrawC [14,17] [[],[0],[0,1],[0,1,2],[],[],[5],[5,6],[5,6,7],[],[5,6,7,8,9],[5,6,7,8,9,10],[5,6,7,8,9,10,11],[],[5,6,7,8,9,10,11,12,13],[0,1,2,3,4,5,6,7,8,9,10,11,12,13,14],[0,1,2,3,4,5,6,7,8,9,10,11,12,13,14,15],[0,1,2,3,4,5,6,7,8,9,10,11,12,13,14,15,16]] w3.drew (fun M St=>
 nilckK v0 fun t35=>
 faK 1 t35 fun t36=>
 sld1 (St 3) t36 fun t37=>
 nilckK v0 fun t40=>
 faK 1 t40 fun t41=>
 sld1 (St 8) t41 fun t42=>
 ixK 5 t42 t19 fun t44=>
 faK 2 t44 fun t45=>
 sld1 (St 12) t45 fun t46=>
 runK Tryz.prog (Builtin.append_ #[52,52] 52 [t46,v1].toArray) (fun t48 w4=>
 Mod (M 14) w3.drew w4∧
 ixK 5 t37 t19 fun t49=>
 faK 2 t49 fun t50=>
 st1K t50 t48 (fun w5=>
 Mod (M 17) w4 w5∧
 K (.tuple #[]) w5) w4) w3.drew))
 (DrawC [6,8,10,11,14] [[],[],[1],[1,2],[1,2,3],[],[5],[],[5,6,7],[5,6,7,8],[5,6,7,8,9],[1,2,3,4,5,6,7,8,9,10],[0,1,2,3,4,5,6,7,8,9,10,11],[0,1,2,3,4,5,6,7,8,9,10,11,12],[0,1,2,3,4,5,6,7,8,9,10,11,12,13]] w3.drew (fun M_1 St_1=>
 nilckK v0 fun t53=>
 faK 1 t53 fun t54=>
 sld1 (St_1 4) t54 fun t55=>
 callK Tryz.prog 95 [v1] (fun t57 w6=>
 Mod (M_1 6) w3.drew w6∧
 callK Tryz.prog 96 [v2] (fun t59 w7=>
 Mod (M_1 8) w6 w7∧
 buildK [(0,1),(1,1),(2,1),(3,1),(4,1)] [(.int .u8 0),(.int .i64 0),(.slice none 0 0),(.slice none 0 0),(.slice none 0 0)] [(0,(.int .u8 2)),(2,t57),(3,t59)] fun t60=>
 rowK 56 5 1 [(.int .u8 0),(.int .i64 0),(.slice none 0 0),(.slice none 0 0),(.slice none 0 0)] [(0,t60)] (fun t61 w8=>
 Mod (M_1 10) w7 w8∧
 runK Tryz.prog (Builtin.append_ #[23,23] 23 [t55,t61].toArray) (fun t62 w9=>
 Mod (M_1 11) w8 w9∧
 nilckK v0 fun t63=>
 faK 1 t63 fun t64=>
 st1K t64 t62 (fun w10=>
 Mod (M_1 14) w9 w10∧
 K (.tuple #[]) w10) w9) w8) w7) w6) w3.drew))) (fun J_1=>
 geK .i64 t19 (.int .i64 0) fun t21=>
 condK t21
 (nilckK v0 fun t24=>
 faK 1 t24 fun t25=>
 ld1K t25 (fun t26 w11=>
 ixK 5 t26 t19 fun t28=>
 faK 3 t28 fun t29=>
 ld1K t29 (fun t30 w12=>
 callK Tryz.prog 94 [t30,v2] (fun t32 w13=>
 J_1 [t32] w13) w12) w11) w2)
 (J_1 [(.bool false)] w2))) w1) (fun J=>
 pnilK v0 fun b8=>
 condK (.bool b8)
 (K (.tuple #[]) w)
 (lenK v1 fun t11=>
 eqK .i64 t11 (.int .i64 0) fun t12=>
 condK t12
 (K (.tuple #[]) w)
 (J [] w)))
theorem S48_eq (v0 v1 v2:Value) (K:Cont) (w:World):S48 v0 v1 v2 K w=D Tryz.prog okf 65 (bodyOf Tryz.f48) (.cut [] [(7,13)] (.node [] [] .nil (.node [] [] .nil .nil)) (.node [] [] .nil (.node [] [] (.cut [33] [(20,33)] .nil (.node [] [] (.node [] [] (.dc [14,17] [[],[0],[0,1],[0,1,2],[],[],[5],[5,6],[5,6,7],[],[5,6,7,8,9],[5,6,7,8,9,10],[5,6,7,8,9,10,11],[],[5,6,7,8,9,10,11,12,13],[0,1,2,3,4,5,6,7,8,9,10,11,12,13,14],[0,1,2,3,4,5,6,7,8,9,10,11,12,13,14,15],[0,1,2,3,4,5,6,7,8,9,10,11,12,13,14,15,16]] [[14]]) .nil) .nil)) (.dc [6,8,10,11,14] [[],[],[1],[1,2],[1,2,3],[],[5],[],[5,6,7],[5,6,7,8],[5,6,7,8,9],[1,2,3,4,5,6,7,8,9,10],[0,1,2,3,4,5,6,7,8,9,10,11],[0,1,2,3,4,5,6,7,8,9,10,11,12],[0,1,2,3,4,5,6,7,8,9,10,11,12,13]] [[6,8],[6,8,10,11]])))) (retK Tryz.prog [] K) (nth [v0,v1,v2]) w:=by kernel_rfl
theorem S48_ok {v0 v1 v2:Value} {K:Cont} {w:World} (h:S48 v0 v1 v2 K w):callK Tryz.prog 48 [v0,v1,v2] K w:=
 callK_of (P:=Tryz.prog) (ok:=okf) (n:=65) (fn:=Tryz.f48) (c:=bodyOf Tryz.f48) (rs:=[]) (an:=(.cut [] [(7,13)] (.node [] [] .nil (.node [] [] .nil .nil)) (.node [] [] .nil (.node [] [] (.cut [33] [(20,33)] .nil (.node [] [] (.node [] [] (.dc [14,17] [[],[0],[0,1],[0,1,2],[],[],[5],[5,6],[5,6,7],[],[5,6,7,8,9],[5,6,7,8,9,10],[5,6,7,8,9,10,11],[],[5,6,7,8,9,10,11,12,13],[0,1,2,3,4,5,6,7,8,9,10,11,12,13,14],[0,1,2,3,4,5,6,7,8,9,10,11,12,13,14,15],[0,1,2,3,4,5,6,7,8,9,10,11,12,13,14,15,16]] [[14]]) .nil) .nil)) (.dc [6,8,10,11,14] [[],[],[1],[1,2],[1,2,3],[],[5],[],[5,6,7],[5,6,7,8],[5,6,7,8,9],[1,2,3,4,5,6,7,8,9,10],[0,1,2,3,4,5,6,7,8,9,10,11],[0,1,2,3,4,5,6,7,8,9,10,11,12],[0,1,2,3,4,5,6,7,8,9,10,11,12,13]] [[6,8],[6,8,10,11]]))))) good mixed Tryz.func48 (by kernel_rfl) (by kernel_rfl) (by kernel_rfl) (by kernel_rfl) (Eq.mp (S48_eq v0 v1 v2 K w) h)

def S49 (v0 v1:Value) (K:Cont) (w:World):Prop:=
 pnilK v0 fun b5=>
 condK (.bool (!b5))
 (nilckK v0 fun t7=>
 faK 2 t7 fun t8=>
 ld1K t8 (fun t9 w1=>
 maxK .i64 v1 (.int .i64 0) fun t11=>
 addK .i64 t9 t11 fun t12=>
 nilckK v0 fun t13=>
 faK 2 t13 fun t14=>
 st1K t14 t12 (fun w2=>
 K (.tuple #[]) w2) w1) w)
 (K (.tuple #[]) w)
theorem S49_eq (v0 v1:Value) (K:Cont) (w:World):S49 v0 v1 K w=D Tryz.prog okf 15 (bodyOf Tryz.f49) (.node [] [] .nil (.node [] [] .nil .nil)) (retK Tryz.prog [] K) (nth [v0,v1]) w:=by kernel_rfl
theorem S49_ok {v0 v1:Value} {K:Cont} {w:World} (h:S49 v0 v1 K w):callK Tryz.prog 49 [v0,v1] K w:=
 callK_of (P:=Tryz.prog) (ok:=okf) (n:=15) (fn:=Tryz.f49) (c:=bodyOf Tryz.f49) (rs:=[]) (an:=(.node [] [] .nil (.node [] [] .nil .nil))) good mixed Tryz.func49 (by kernel_rfl) (by kernel_rfl) (by kernel_rfl) (by kernel_rfl) (Eq.mp (S49_eq v0 v1 K w) h)

def S50 (v0:Value) (K:Cont) (w:World):Prop:=
 pnilK v0 fun b6=>
 condK (.bool b6)
 (K (.slice none 0 0) w)
 (DrawC [5,6,7] [[],[0],[0,1],[0,1,2],[],[4],[0,1,2,3,4,5],[0,1,2,3,4,5,6],[0,1,2,3,4,5,6,7]] w.drew (fun M St=>
 nilckK v0 fun t8=>
 faK 0 t8 fun t9=>
 sld1 (St 3) t9 fun t10=>
 callK Tryz.prog 91 [v0] (fun t12 w1=>
 Mod (M 5) w.drew w1∧
 rowK 23 1 2 [(.slice none 0 0)] [(0,t10),(1,t12)] (fun t13 w2=>
 Mod (M 6) w1 w2∧
 callK Tryz.prog 97 [t13] (fun t14 w3=>
 Mod (M 7) w2 w3∧
 JoinK (fun vs w4=>∀ _h:Env,
 callK Tryz.prog 98 [(nth vs 0)] (fun t41 w5=>
 K t41 w5) w4) (fun J=>
 lenK t14 fun t16=>
 subK .i64 t16 (.int .i64 1) fun t17=>
 geK .i64 t17 (.int .i64 0) fun t19=>
 condK t19
 (ixK 5 t14 t17 fun t23=>
 faK 0 t23 fun t24=>
 ld1K t24 (fun t25 w6=>
 eqK .u8 t25 (.int .u8 1) fun t26=>
 condK t26
 (ixK 5 t14 t17 fun t31=>
 faK 4 t31 fun t32=>
 ld1K t32 (fun t33 w7=>
 lenK t33 fun t34=>
 eqK .i64 t34 (.int .i64 0) fun t35=>
 condK t35
 (runK Tryz.prog (Instr.sliceAt 23 t14 none (some t17) none) (fun t39 w8=>
 J [t39] w8) w7)
 (J [t14] w7)) w6)
 (J [t14] w6)) w3)
 (J [t14] w3))) w2) w1) w.drew))
theorem S50_eq (v0:Value) (K:Cont) (w:World):S50 v0 K w=D Tryz.prog okf 42 (bodyOf Tryz.f50) (.node [] [] .nil (.node [] [] (.node [] [] .nil (.node [] [] (.node [] [] .nil .nil) .nil)) (.node [] [] (.dc [5,6,7] [[],[0],[0,1],[0,1,2],[],[4],[0,1,2,3,4,5],[0,1,2,3,4,5,6],[0,1,2,3,4,5,6,7]] []) (.cut [3] [(3,4),(15,39)] (.node [] [] .nil (.node [] [] .nil (.node [] [] .nil .nil))) (.node [] [] .nil .nil))))) (retK Tryz.prog [.tmp 2] K) (nth [v0]) w:=by kernel_rfl
theorem S50_ok {v0:Value} {K:Cont} {w:World} (h:S50 v0 K w):callK Tryz.prog 50 [v0] K w:=
 callK_of (P:=Tryz.prog) (ok:=okf) (n:=42) (fn:=Tryz.f50) (c:=bodyOf Tryz.f50) (rs:=[.tmp 2]) (an:=(.node [] [] .nil (.node [] [] (.node [] [] .nil (.node [] [] (.node [] [] .nil .nil) .nil)) (.node [] [] (.dc [5,6,7] [[],[0],[0,1],[0,1,2],[],[4],[0,1,2,3,4,5],[0,1,2,3,4,5,6],[0,1,2,3,4,5,6,7]] []) (.cut [3] [(3,4),(15,39)] (.node [] [] .nil (.node [] [] .nil (.node [] [] .nil .nil))) (.node [] [] .nil .nil)))))) good mixed Tryz.func50 (by kernel_rfl) (by kernel_rfl) (by kernel_rfl) (by kernel_rfl) (Eq.mp (S50_eq v0 K w) h)

def S72 (v0 v1:Value) (K:Cont) (w:World):Prop:=
 callK Tryz.prog 120 [v0,v1,(.func (.func 121) #[] #[])] (fun t7 w1=>
 K t7 w1) w
theorem S72_eq (v0 v1:Value) (K:Cont) (w:World):S72 v0 v1 K w=D Tryz.prog okf 8 (bodyOf Tryz.f72) (.node [] [] .nil (.node [] [] .nil .nil)) (retK Tryz.prog [.tmp 4] K) (nth [v0,v1]) w:=by kernel_rfl
theorem S72_ok {v0 v1:Value} {K:Cont} {w:World} (h:S72 v0 v1 K w):callK Tryz.prog 72 [v0,v1] K w:=
 callK_of (P:=Tryz.prog) (ok:=okf) (n:=8) (fn:=Tryz.f72) (c:=bodyOf Tryz.f72) (rs:=[.tmp 4]) (an:=(.node [] [] .nil (.node [] [] .nil .nil))) good mixed Tryz.func72 (by kernel_rfl) (by kernel_rfl) (by kernel_rfl) (by kernel_rfl) (Eq.mp (S72_eq v0 v1 K w) h)

def S23 (v0 v1:Value) (K:Cont) (w:World):Prop:=
 LoopK [(.int .i64 0)] (fun vs again w1=>∀ _h:Env,
 lenK v1 fun t9=>
 ltK .i64 (nth vs 0) t9 fun t10=>
 condK t10
 (JoinK (fun _vs_1 w2=>∀ _h_1:Env,
 addK .i64 (nth vs 0) (.int .i64 1) fun t12=>
 again [t12] w2) (fun J=>
 ixK 5 v1 (nth vs 0) fun t15=>
 ldnK 5 t15 (fun t16 w3=>
 callK Tryz.prog 55 [t16] (fun t17 w4=>
 notK t17 fun t18=>
 condK t18
 (K (.int .i64 3) w4)
 (ixK 5 v1 (nth vs 0) fun t23=>
 faK 3 t23 fun t24=>
 ld1K t24 (fun t25 w5=>
 callK Tryz.prog 56 [v0,t25] (fun t26 w6=>
 eqK .i64 t26 (.int .i64 3) fun t27=>
 condK t27
 (K (.int .i64 3) w6)
 (ixK 5 v1 (nth vs 0) fun t33=>
 faK 4 t33 fun t34=>
 ld1K t34 (fun t35 w7=>
 callK Tryz.prog 57 [v0,t35] (fun t36 w8=>
 eqK .i64 t36 (.int .i64 3) fun t37=>
 condK t37
 (K (.int .i64 3) w8)
 (J [] w8)) w7) w6)) w5) w4)) w3) w1))
 (JoinK (fun _vs_2 w9=>∀ _h_2:Env,
 LoopK [(.int .i64 0)] (fun vs_3 again_1 w10=>∀ _h_3:Env,
 lenK v1 fun t49=>
 ltK .i64 (nth vs_3 0) t49 fun t50=>
 condK t50
 (ixK 5 v1 (nth vs_3 0) fun t56=>
 faK 3 t56 fun t57=>
 ld1K t57 (fun t58 w11=>
 callK Tryz.prog 56 [v0,t58] (fun t59 w12=>
 neK .i64 t59 (.int .i64 0) fun t60=>
 condK t60
 (K (.int .i64 4) w12)
 (ixK 5 v1 (nth vs_3 0) fun t65=>
 faK 4 t65 fun t66=>
 ld1K t66 (fun t67 w13=>
 callK Tryz.prog 57 [v0,t67] (fun t68 w14=>
 neK .i64 t68 (.int .i64 0) fun t69=>
 condK t69
 (K (.int .i64 4) w14)
 (addK .i64 (nth vs_3 0) (.int .i64 1) fun t52_1=>
 again_1 [t52_1] w14)) w13) w12)) w11) w10)
 (K (.int .i64 0) w10)) w9) (fun J_1=>
 callK Tryz.prog 58 [v1] (fun t40 w15=>
 gtK .i64 t40 (.int .i64 536870912) fun t41=>
 condK t41
 (K (.int .i64 3) w15)
 (callK Tryz.prog 59 [v1] (fun t44 w16=>
 gtK .i64 t44 (.int .i64 536870912) fun t45=>
 condK t45
 (K (.int .i64 3) w16)
 (J_1 [] w16)) w15)) w1))) w
theorem S23_eq (v0 v1:Value) (K:Cont) (w:World):S23 v0 v1 K w=D Tryz.prog okf 71 (bodyOf Tryz.f23) (.node [] [] .nil (.node [] [] (.node [] [] .nil (.node [5] [(4,5),(7,38)] (.node [] [] (.node [] [] .nil (.node [] [] .nil .nil)) (.cut [] [(4,4),(13,38)] (.node [] [] .nil (.node [] [] (.node [] [] .nil .nil) .nil)) .nil)) .nil)) (.cut [] [(4,4),(39,46)] (.node [] [] .nil (.node [] [] (.node [] [] .nil .nil) .nil)) (.node [] [] (.node [] [] .nil (.node [6] [(4,4),(6,6),(47,70)] (.node [] [] (.node [] [] .nil (.node [] [] .nil .nil)) (.node [] [] (.node [] [] .nil (.node [] [] (.node [] [] .nil .nil) .nil)) .nil)) .nil)) (.node [] [] .nil .nil))))) (retK Tryz.prog [.tmp 4] K) (nth [v0,v1]) w:=by kernel_rfl
theorem S23_ok {v0 v1:Value} {K:Cont} {w:World} (h:S23 v0 v1 K w):callK Tryz.prog 23 [v0,v1] K w:=
 callK_of (P:=Tryz.prog) (ok:=okf) (n:=71) (fn:=Tryz.f23) (c:=bodyOf Tryz.f23) (rs:=[.tmp 4]) (an:=(.node [] [] .nil (.node [] [] (.node [] [] .nil (.node [5] [(4,5),(7,38)] (.node [] [] (.node [] [] .nil (.node [] [] .nil .nil)) (.cut [] [(4,4),(13,38)] (.node [] [] .nil (.node [] [] (.node [] [] .nil .nil) .nil)) .nil)) .nil)) (.cut [] [(4,4),(39,46)] (.node [] [] .nil (.node [] [] (.node [] [] .nil .nil) .nil)) (.node [] [] (.node [] [] .nil (.node [6] [(4,4),(6,6),(47,70)] (.node [] [] (.node [] [] .nil (.node [] [] .nil .nil)) (.node [] [] (.node [] [] .nil (.node [] [] (.node [] [] .nil .nil) .nil)) .nil)) .nil)) (.node [] [] .nil .nil)))))) good mixed Tryz.func23 (by kernel_rfl) (by kernel_rfl) (by kernel_rfl) (by kernel_rfl) (Eq.mp (S23_eq v0 v1 K w) h)

def S26 (v0 v1:Value) (K:Cont) (w:World):Prop:=
 lenK v0 fun t7=>
 lenK v1 fun t9=>
 neK .i64 t7 t9 fun t10=>
 condK t10
 (K (.bool false) w)
 (LoopK [(.int .i64 0)] (fun vs again w1=>∀ _h:Env,
 lenK v0 fun t13=>
 ltK .i64 (nth vs 0) t13 fun t14=>
 condK t14
 (DrawK w1 (fun C=>
 ixK 1 v0 (nth vs 0) fun t19=>
 qld1K C t19 fun t20=>
 ixK 1 v1 (nth vs 0) fun t23=>
 qld1K C t23 fun t24=>
 neK .i32 t20 t24 fun t25=>
 ∀ w2:World,C w2→
 condK t25
 (K (.bool false) w2)
 (addK .i64 (nth vs 0) (.int .i64 1) fun t16=>
 again [t16] w2)))
 (K (.bool true) w1)) w)
theorem S26_eq (v0 v1:Value) (K:Cont) (w:World):S26 v0 v1 K w=D Tryz.prog okf 26 (bodyOf Tryz.f26) (.node [] [] .nil (.node [] [] (.node [] [] .nil (.node [] [] (.node [] [] .nil .nil) .nil)) (.node [] [] (.node [] [] .nil (.node [5] [(4,5),(11,25)] (.node [] [] (.node [] [] .nil (.node [] [] .nil .nil)) (.node [] [] (.node [] [] .draw (.node [] [] (.node [] [] .nil .nil) .nil)) .nil)) .nil)) (.node [] [] .nil .nil)))) (retK Tryz.prog [.tmp 4] K) (nth [v0,v1]) w:=by kernel_rfl
theorem S26_ok {v0 v1:Value} {K:Cont} {w:World} (h:S26 v0 v1 K w):callK Tryz.prog 26 [v0,v1] K w:=
 callK_of (P:=Tryz.prog) (ok:=okf) (n:=26) (fn:=Tryz.f26) (c:=bodyOf Tryz.f26) (rs:=[.tmp 4]) (an:=(.node [] [] .nil (.node [] [] (.node [] [] .nil (.node [] [] (.node [] [] .nil .nil) .nil)) (.node [] [] (.node [] [] .nil (.node [5] [(4,5),(11,25)] (.node [] [] (.node [] [] .nil (.node [] [] .nil .nil)) (.node [] [] (.node [] [] .draw (.node [] [] (.node [] [] .nil .nil) .nil)) .nil)) .nil)) (.node [] [] .nil .nil))))) good mixed Tryz.func26 (by kernel_rfl) (by kernel_rfl) (by kernel_rfl) (by kernel_rfl) (Eq.mp (S26_eq v0 v1 K w) h)

def S28 (v0 v1:Value) (K:Cont) (w:World):Prop:=
 lenK v0 fun t7=>
 lenK v1 fun t9=>
 neK .i64 t7 t9 fun t10=>
 condK t10
 (K (.bool false) w)
 (LoopK [(.int .i64 0)] (fun vs again w1=>∀ _h:Env,
 lenK v0 fun t13=>
 ltK .i64 (nth vs 0) t13 fun t14=>
 condK t14
 (DrawK w1 (fun C=>
 ixK 6 v0 (nth vs 0) fun t19=>
 qldnK C 6 t19 fun t20=>
 ixK 6 v1 (nth vs 0) fun t23=>
 qldnK C 6 t23 fun t24=>
 qrunK Tryz.prog C (binS .neq 63 (.tmp 20) (.tmp 24) t20 t24) fun t25=>
 ∀ w2:World,C w2→
 condK t25
 (K (.bool false) w2)
 (addK .i64 (nth vs 0) (.int .i64 1) fun t16=>
 again [t16] w2)))
 (K (.bool true) w1)) w)
theorem S28_eq (v0 v1:Value) (K:Cont) (w:World):S28 v0 v1 K w=D Tryz.prog okf 26 (bodyOf Tryz.f28) (.node [] [] .nil (.node [] [] (.node [] [] .nil (.node [] [] (.node [] [] .nil .nil) .nil)) (.node [] [] (.node [] [] .nil (.node [5] [(4,5),(11,25)] (.node [] [] (.node [] [] .nil (.node [] [] .nil .nil)) (.node [] [] (.node [] [] .draw (.node [] [] (.node [] [] .nil .nil) .nil)) .nil)) .nil)) (.node [] [] .nil .nil)))) (retK Tryz.prog [.tmp 4] K) (nth [v0,v1]) w:=by kernel_rfl
theorem S28_ok {v0 v1:Value} {K:Cont} {w:World} (h:S28 v0 v1 K w):callK Tryz.prog 28 [v0,v1] K w:=
 callK_of (P:=Tryz.prog) (ok:=okf) (n:=26) (fn:=Tryz.f28) (c:=bodyOf Tryz.f28) (rs:=[.tmp 4]) (an:=(.node [] [] .nil (.node [] [] (.node [] [] .nil (.node [] [] (.node [] [] .nil .nil) .nil)) (.node [] [] (.node [] [] .nil (.node [5] [(4,5),(11,25)] (.node [] [] (.node [] [] .nil (.node [] [] .nil .nil)) (.node [] [] (.node [] [] .draw (.node [] [] (.node [] [] .nil .nil) .nil)) .nil)) .nil)) (.node [] [] .nil .nil))))) good mixed Tryz.func28 (by kernel_rfl) (by kernel_rfl) (by kernel_rfl) (by kernel_rfl) (Eq.mp (S28_eq v0 v1 K w) h)

def S63 (v0:Value) (K:Cont) (w:World):Prop:=
 LoopK [(.slice none 0 0),(.int .i64 0),(.int .i64 0)] (fun vs again w1=>∀ _h:Env,
 lenK v0 fun t10=>
 ltK .i64 (nth vs 2) t10 fun t11=>
 condK t11
 (JoinK (fun vs_1 w2=>∀ _h_1:Env,
 addK .i64 (nth vs 2) (.int .i64 1) fun t13=>
 again [(nth vs_1 0),(nth vs_1 1),t13] w2) (fun J=>
 ixK 5 v0 (nth vs 2) fun t16=>
 ldnK 5 t16 (fun t17 w3=>
 newK 56 [(.int .u8 0),(.int .i64 0),(.slice none 0 0),(.slice none 0 0),(.slice none 0 0)] (fun t6 w4=>
 stnK 5 t6 t17 (fun w5=>
 faK 0 t6 fun t18=>
 ld1K t18 (fun t19 w6=>
 eqK .u8 t19 (.int .u8 3) fun t20=>
 condK t20
 (faK 1 t6 fun t22=>
 ld1K t22 (fun t23 w7=>
 addK .i64 (nth vs 1) t23 fun t24=>
 J [(nth vs 0),t24] w7) w6)
 (lenK (nth vs 0) fun t26=>
 subK .i64 t26 (.int .i64 1) fun t27=>
 JoinK (fun vs_2 w8=>∀ _h_2:Env,
 condK (nth vs_2 0)
 (DrawC [2,8,11,14] [[],[],[],[],[],[3,4],[3,4,5],[3,4,5,6],[2,3,4,5,6,7],[],[9],[2,3,4,5,6,7,8,9,10],[0,1,2,3,4,5,6,7,8,9,10,11],[0,1,2,3,4,5,6,7,8,9,10,11,12],[0,1,2,3,4,5,6,7,8,9,10,11,12,13]] w8.drew (fun M St=>
 rowK 21 1 0 [] [] (fun t42 w9=>
 Mod (M 2) w8.drew w9∧
 ixK 5 (nth vs 0) t27 fun t45=>
 faK 2 t45 fun t46=>
 sld1 (St 7) t46 fun t47=>
 runK Tryz.prog (Builtin.append_ #[52,52] 52 [t42,t47].toArray) (fun t48 w10=>
 Mod (M 8) w9 w10∧
 faK 2 t6 fun t49=>
 sld1 (St 10) t49 fun t50=>
 runK Tryz.prog (Builtin.append_ #[52,52] 52 [t48,t50].toArray) (fun t51 w11=>
 Mod (M 11) w10 w11∧
 ixK 5 (nth vs 0) t27 fun t52=>
 faK 2 t52 fun t53=>
 st1K t53 t51 (fun w12=>
 Mod (M 14) w11 w12∧
 J [(nth vs 0),(nth vs 1)] w12) w11) w10) w9) w8.drew))
 (ldnK 5 t6 (fun t55 w13=>
 rowK 56 5 1 [(.int .u8 0),(.int .i64 0),(.slice none 0 0),(.slice none 0 0),(.slice none 0 0)] [(0,t55)] (fun t56 w14=>
 runK Tryz.prog (Builtin.append_ #[23,23] 23 [(nth vs 0),t56].toArray) (fun t57 w15=>
 J [t57,(nth vs 1)] w15) w14) w13) w8)) (fun J_1=>
 DrawK w6 (fun C=>
 geK .i64 t27 (.int .i64 0) fun t29=>
 condK t29
 (ixK 5 (nth vs 0) t27 fun t33=>
 faK 3 t33 fun t34=>
 qld1K C t34 fun t35=>
 faK 3 t6 fun t36=>
 qld1K C t36 fun t37=>
 qcallK Tryz.prog C 27 [t35,t37] fun t38=>
 ∀ w16:World,C w16→
 J_1 [t38] w16)
 (∀ w17:World,C w17→
 J_1 [(.bool false)] w17))))) w5) w4) w3) w1))
 (gtK .i64 (nth vs 1) (.int .i64 0) fun t59=>
 condK t59
 (buildK [(0,1),(1,1),(2,1),(3,1),(4,1)] [(.int .u8 0),(.int .i64 0),(.slice none 0 0),(.slice none 0 0),(.slice none 0 0)] [(0,(.int .u8 3)),(1,(nth vs 1))] fun t62=>
 rowK 56 5 1 [(.int .u8 0),(.int .i64 0),(.slice none 0 0),(.slice none 0 0),(.slice none 0 0)] [(0,t62)] (fun t63 w18=>
 runK Tryz.prog (Builtin.append_ #[23,23] 23 [(nth vs 0),t63].toArray) (fun t64 w19=>
 K t64 w19) w18) w1)
 (K (nth vs 0) w1))) w
theorem S63_eq (v0:Value) (K:Cont) (w:World):S63 v0 K w=D Tryz.prog okf 66 (bodyOf Tryz.f63) (.node [] [] .nil (.node [] [] .nil (.node [] [] .nil (.node [] [] (.node [] [] .nil (.node [3,4,5] [(3,57)] (.node [] [] (.node [] [] .nil (.node [] [] .nil .nil)) (.cut [3,4] [(3,4),(6,7),(14,57)] (.node [] [] .nil (.node [] [] (.node [] [] .nil (.node [] [] (.node [] [] .nil .nil) .nil)) (.node [] [] .nil (.cut [39] [(28,39)] .draw (.node [] [] (.dc [2,8,11,14] [[],[],[],[],[],[3,4],[3,4,5],[3,4,5,6],[2,3,4,5,6,7],[],[9],[2,3,4,5,6,7,8,9,10],[0,1,2,3,4,5,6,7,8,9,10,11],[0,1,2,3,4,5,6,7,8,9,10,11,12],[0,1,2,3,4,5,6,7,8,9,10,11,12,13]] [[2,8,11]]) .nil))))) .nil)) .nil)) (.node [] [] (.node [] [] .nil (.node [] [] .nil .nil)) (.node [] [] .nil .nil)))))) (retK Tryz.prog [.tmp 2] K) (nth [v0]) w:=by kernel_rfl
theorem S63_ok {v0:Value} {K:Cont} {w:World} (h:S63 v0 K w):callK Tryz.prog 63 [v0] K w:=
 callK_of (P:=Tryz.prog) (ok:=okf) (n:=66) (fn:=Tryz.f63) (c:=bodyOf Tryz.f63) (rs:=[.tmp 2]) (an:=(.node [] [] .nil (.node [] [] .nil (.node [] [] .nil (.node [] [] (.node [] [] .nil (.node [3,4,5] [(3,57)] (.node [] [] (.node [] [] .nil (.node [] [] .nil .nil)) (.cut [3,4] [(3,4),(6,7),(14,57)] (.node [] [] .nil (.node [] [] (.node [] [] .nil (.node [] [] (.node [] [] .nil .nil) .nil)) (.node [] [] .nil (.cut [39] [(28,39)] .draw (.node [] [] (.dc [2,8,11,14] [[],[],[],[],[],[3,4],[3,4,5],[3,4,5,6],[2,3,4,5,6,7],[],[9],[2,3,4,5,6,7,8,9,10],[0,1,2,3,4,5,6,7,8,9,10,11],[0,1,2,3,4,5,6,7,8,9,10,11,12],[0,1,2,3,4,5,6,7,8,9,10,11,12,13]] [[2,8,11]]) .nil))))) .nil)) .nil)) (.node [] [] (.node [] [] .nil (.node [] [] .nil .nil)) (.node [] [] .nil .nil))))))) good mixed Tryz.func63 (by kernel_rfl) (by kernel_rfl) (by kernel_rfl) (by kernel_rfl) (Eq.mp (S63_eq v0 K w) h)

def S91 (v0:Value) (K:Cont) (w:World):Prop:=
 nilckK v0 fun t5=>
 faK 1 t5 fun t6=>
 ld1K t6 (fun t7 w1=>
 callK Tryz.prog 133 [t7] (fun t8 w2=>
 nilckK v0 fun t10=>
 faK 2 t10 fun t11=>
 ld1K t11 (fun t12 w3=>
 gtK .i64 t12 (.int .i64 0) fun t13=>
 condK t13
 (nilckK v0 fun t16=>
 faK 2 t16 fun t17=>
 ld1K t17 (fun t18 w4=>
 buildK [(0,1),(1,1),(2,1),(3,1),(4,1)] [(.int .u8 0),(.int .i64 0),(.slice none 0 0),(.slice none 0 0),(.slice none 0 0)] [(0,(.int .u8 3)),(1,t18)] fun t19=>
 rowK 56 5 1 [(.int .u8 0),(.int .i64 0),(.slice none 0 0),(.slice none 0 0),(.slice none 0 0)] [(0,t19)] (fun t20 w5=>
 runK Tryz.prog (Builtin.append_ #[23,23] 23 [t8,t20].toArray) (fun t21 w6=>
 K t21 w6) w5) w4) w3)
 (K t8 w3)) w2) w1) w
theorem S91_eq (v0:Value) (K:Cont) (w:World):S91 v0 K w=D Tryz.prog okf 23 (bodyOf Tryz.f91) (.node [] [] .nil (.node [] [] .nil (.node [] [] (.node [] [] .nil (.node [] [] .nil .nil)) (.node [] [] .nil .nil)))) (retK Tryz.prog [.tmp 2] K) (nth [v0]) w:=by kernel_rfl
theorem S91_ok {v0:Value} {K:Cont} {w:World} (h:S91 v0 K w):callK Tryz.prog 91 [v0] K w:=
 callK_of (P:=Tryz.prog) (ok:=okf) (n:=23) (fn:=Tryz.f91) (c:=bodyOf Tryz.f91) (rs:=[.tmp 2]) (an:=(.node [] [] .nil (.node [] [] .nil (.node [] [] (.node [] [] .nil (.node [] [] .nil .nil)) (.node [] [] .nil .nil))))) good mixed Tryz.func91 (by kernel_rfl) (by kernel_rfl) (by kernel_rfl) (by kernel_rfl) (Eq.mp (S91_eq v0 K w) h)

def S92 (v0 v1:Value) (K:Cont) (w:World):Prop:=
 callK Tryz.prog 134 [v0,v1] (fun t7 w1=>
 K t7 w1) w
theorem S92_eq (v0 v1:Value) (K:Cont) (w:World):S92 v0 v1 K w=D Tryz.prog okf 8 (bodyOf Tryz.f92) (.node [] [] .nil (.node [] [] .nil .nil)) (retK Tryz.prog [.tmp 4] K) (nth [v0,v1]) w:=by kernel_rfl
theorem S92_ok {v0 v1:Value} {K:Cont} {w:World} (h:S92 v0 v1 K w):callK Tryz.prog 92 [v0,v1] K w:=
 callK_of (P:=Tryz.prog) (ok:=okf) (n:=8) (fn:=Tryz.f92) (c:=bodyOf Tryz.f92) (rs:=[.tmp 4]) (an:=(.node [] [] .nil (.node [] [] .nil .nil))) good mixed Tryz.func92 (by kernel_rfl) (by kernel_rfl) (by kernel_rfl) (by kernel_rfl) (Eq.mp (S92_eq v0 v1 K w) h)

def S93 (v0:Value) (K:Cont) (w:World):Prop:=
 callK Tryz.prog 135 [v0] (fun t4 w1=>
 K t4 w1) w
theorem S93_eq (v0:Value) (K:Cont) (w:World):S93 v0 K w=D Tryz.prog okf 5 (bodyOf Tryz.f93) (.node [] [] .nil (.node [] [] .nil .nil)) (retK Tryz.prog [.tmp 2] K) (nth [v0]) w:=by kernel_rfl
theorem S93_ok {v0:Value} {K:Cont} {w:World} (h:S93 v0 K w):callK Tryz.prog 93 [v0] K w:=
 callK_of (P:=Tryz.prog) (ok:=okf) (n:=5) (fn:=Tryz.f93) (c:=bodyOf Tryz.f93) (rs:=[.tmp 2]) (an:=(.node [] [] .nil (.node [] [] .nil .nil))) good mixed Tryz.func93 (by kernel_rfl) (by kernel_rfl) (by kernel_rfl) (by kernel_rfl) (Eq.mp (S93_eq v0 K w) h)

def S95 (v0:Value) (K:Cont) (w:World):Prop:=
 snilK v0 fun b4=>
 condK (.bool b4)
 (K (.slice none 0 0) w)
 (rowK 21 1 0 [] [] (fun t5 w1=>
 runK Tryz.prog (Builtin.append_ #[52,52] 52 [t5,v0].toArray) (fun t7 w2=>
 K t7 w2) w1) w)
theorem S95_eq (v0:Value) (K:Cont) (w:World):S95 v0 K w=D Tryz.prog okf 8 (bodyOf Tryz.f95) (.node [] [] .nil (.node [] [] (.node [] [] .nil (.node [] [] (.node [] [] .nil .nil) .nil)) (.node [] [] .nil .nil))) (retK Tryz.prog [.tmp 2] K) (nth [v0]) w:=by kernel_rfl
theorem S95_ok {v0:Value} {K:Cont} {w:World} (h:S95 v0 K w):callK Tryz.prog 95 [v0] K w:=
 callK_of (P:=Tryz.prog) (ok:=okf) (n:=8) (fn:=Tryz.f95) (c:=bodyOf Tryz.f95) (rs:=[.tmp 2]) (an:=(.node [] [] .nil (.node [] [] (.node [] [] .nil (.node [] [] (.node [] [] .nil .nil) .nil)) (.node [] [] .nil .nil)))) good mixed Tryz.func95 (by kernel_rfl) (by kernel_rfl) (by kernel_rfl) (by kernel_rfl) (Eq.mp (S95_eq v0 K w) h)

def S97 (v0:Value) (K:Cont) (w:World):Prop:=
 lenK v0 fun t10=>
 LoopK [(.int .i64 0),(.int .i64 0)] (fun vs again w1=>∀ _h:Env,
 ltK .i64 (nth vs 1) t10 fun t12=>
 condK t12
 (ixK 1 v0 (nth vs 1) fun t13=>
 ld1K t13 (fun t14 w2=>
 lenK t14 fun t17=>
 addK .i64 (nth vs 0) t17 fun t18=>
 ltK .i64 t18 (.int .i64 0) fun t20=>
 condK t20
 (runK Tryz.prog (Instr.makeInterface 9 (.string (ByteArray.mk #[108,101,110,32,111,117,116,32,111,102,32,114,97,110,103,101]))) (fun _t21 w3=>
 False) w2)
 (addK .i64 (nth vs 1) (.int .i64 1) fun t22=>
 again [t18,t22] w2)) w1)
 (callK Tryz.prog 138 [(.slice none 0 0),(nth vs 0)] (fun t24 w4=>
 lenK v0 fun t26=>
 LoopK [t24,(.int .i64 0)] (fun vs_1 again_1 w5=>∀ _h_1:Env,
 ltK .i64 (nth vs_1 1) t26 fun t28=>
 condK t28
 (ixK 1 v0 (nth vs_1 1) fun t29=>
 ld1K t29 (fun t30 w6=>
 runK Tryz.prog (Builtin.append_ #[23,23] 23 [(nth vs_1 0),t30].toArray) (fun t33 w7=>
 addK .i64 (nth vs_1 1) (.int .i64 1) fun t34=>
 again_1 [t33,t34] w7) w6) w5)
 (K (nth vs_1 0) w5)) w4) w1)) w
theorem S97_eq (v0:Value) (K:Cont) (w:World):S97 v0 K w=D Tryz.prog okf 36 (bodyOf Tryz.f97) (.node [] [] .nil (.node [] [] .nil (.node [] [] (.node [] [] .nil (.node [3,11] [(3,3),(5,5),(11,22)] (.node [] [] .nil (.node [] [] (.node [] [] .nil .nil) (.node [] [] (.node [] [] .nil (.node [] [] .nil (.node [] [] .nil (.node [] [] .nil .nil)))) .nil))) .nil)) (.node [] [] .nil (.node [] [] (.node [] [] .nil (.node [6,27] [(6,6),(8,8),(27,34)] (.node [] [] .nil (.node [] [] (.node [] [] .nil .nil) (.node [] [] (.node [] [] .nil .nil) .nil))) .nil)) (.node [] [] .nil .nil)))))) (retK Tryz.prog [.tmp 2] K) (nth [v0]) w:=by kernel_rfl
theorem S97_ok {v0:Value} {K:Cont} {w:World} (h:S97 v0 K w):callK Tryz.prog 97 [v0] K w:=
 callK_of (P:=Tryz.prog) (ok:=okf) (n:=36) (fn:=Tryz.f97) (c:=bodyOf Tryz.f97) (rs:=[.tmp 2]) (an:=(.node [] [] .nil (.node [] [] .nil (.node [] [] (.node [] [] .nil (.node [3,11] [(3,3),(5,5),(11,22)] (.node [] [] .nil (.node [] [] (.node [] [] .nil .nil) (.node [] [] (.node [] [] .nil (.node [] [] .nil (.node [] [] .nil (.node [] [] .nil .nil)))) .nil))) .nil)) (.node [] [] .nil (.node [] [] (.node [] [] .nil (.node [6,27] [(6,6),(8,8),(27,34)] (.node [] [] .nil (.node [] [] (.node [] [] .nil .nil) (.node [] [] (.node [] [] .nil .nil) .nil))) .nil)) (.node [] [] .nil .nil))))))) good mixed Tryz.func97 (by kernel_rfl) (by kernel_rfl) (by kernel_rfl) (by kernel_rfl) (Eq.mp (S97_eq v0 K w) h)

def S98 (v0:Value) (K:Cont) (w:World):Prop:=
 callK Tryz.prog 133 [v0] (fun t6 w1=>
 lenK t6 fun t8=>
 LoopK [(.int .i64 0)] (fun vs again w2=>∀ _h:Env,
 ltK .i64 (nth vs 0) t8 fun t10=>
 condK t10
 (DrawC [11,17,23,26,29,32] [[],[],[],[],[],[],[],[],[6,7],[6,7,8],[6,7,8,9],[6,7,8,9,10],[],[],[12,13],[12,13,14],[12,13,14,15],[6,7,8,9,10,11,12,13,14,15,16],[],[],[18,19],[18,19,20],[18,19,20,21],[6,7,8,9,10,11,12,13,14,15,16,17,18,19,20,21,22],[0,1,6,7,8,9,10,11,12,13,14,15,16,17,18,19,20,21,22,23],[0,1,6,7,8,9,10,11,12,13,14,15,16,17,18,19,20,21,22,23,24],[0,1,6,7,8,9,10,11,12,13,14,15,16,17,18,19,20,21,22,23,24,25],[0,1,2,3,6,7,8,9,10,11,12,13,14,15,16,17,18,19,20,21,22,23,24,25,26],[0,1,2,3,6,7,8,9,10,11,12,13,14,15,16,17,18,19,20,21,22,23,24,25,26,27],[0,1,2,3,6,7,8,9,10,11,12,13,14,15,16,17,18,19,20,21,22,23,24,25,26,27,28],[0,1,2,3,4,5,6,7,8,9,10,11,12,13,14,15,16,17,18,19,20,21,22,23,24,25,26,27,28,29],[0,1,2,3,4,5,6,7,8,9,10,11,12,13,14,15,16,17,18,19,20,21,22,23,24,25,26,27,28,29,30],[0,1,2,3,4,5,6,7,8,9,10,11,12,13,14,15,16,17,18,19,20,21,22,23,24,25,26,27,28,29,30,31]] w2.drew (fun M St=>
 ixK 5 t6 (nth vs 0) fun t20=>
 faK 2 t20 fun t21=>
 sld1 (St 10) t21 fun t22=>
 callK Tryz.prog 95 [t22] (fun t23 w3=>
 Mod (M 11) w2.drew w3∧
 ixK 5 t6 (nth vs 0) fun t26=>
 faK 3 t26 fun t27=>
 sld1 (St 16) t27 fun t28=>
 callK Tryz.prog 96 [t28] (fun t29 w4=>
 Mod (M 17) w3 w4∧
 ixK 5 t6 (nth vs 0) fun t32=>
 faK 4 t32 fun t33=>
 sld1 (St 22) t33 fun t34=>
 callK Tryz.prog 93 [t34] (fun t35 w5=>
 Mod (M 23) w4 w5∧
 ixK 5 t6 (nth vs 0) fun t36=>
 faK 2 t36 fun t37=>
 st1K t37 t23 (fun w6=>
 Mod (M 26) w5 w6∧
 ixK 5 t6 (nth vs 0) fun t38=>
 faK 3 t38 fun t39=>
 st1K t39 t29 (fun w7=>
 Mod (M 29) w6 w7∧
 ixK 5 t6 (nth vs 0) fun t40=>
 faK 4 t40 fun t41=>
 st1K t41 t35 (fun w8=>
 Mod (M 32) w7 w8∧
 addK .i64 (nth vs 0) (.int .i64 1) fun t42=>
 again [t42] w8) w7) w6) w5) w4) w3) w2.drew))
 (K t6 w2)) w1) w
theorem S98_eq (v0:Value) (K:Cont) (w:World):S98 v0 K w=D Tryz.prog okf 44 (bodyOf Tryz.f98) (.node [] [] .nil (.node [] [] .nil (.node [] [] (.node [] [] .nil (.node [9] [(4,4),(9,42)] (.node [] [] .nil (.node [] [] (.node [] [] .nil .nil) (.node [] [] (.node [] [] .nil (.dc [11,17,23,26,29,32] [[],[],[],[],[],[],[],[],[6,7],[6,7,8],[6,7,8,9],[6,7,8,9,10],[],[],[12,13],[12,13,14],[12,13,14,15],[6,7,8,9,10,11,12,13,14,15,16],[],[],[18,19],[18,19,20],[18,19,20,21],[6,7,8,9,10,11,12,13,14,15,16,17,18,19,20,21,22],[0,1,6,7,8,9,10,11,12,13,14,15,16,17,18,19,20,21,22,23],[0,1,6,7,8,9,10,11,12,13,14,15,16,17,18,19,20,21,22,23,24],[0,1,6,7,8,9,10,11,12,13,14,15,16,17,18,19,20,21,22,23,24,25],[0,1,2,3,6,7,8,9,10,11,12,13,14,15,16,17,18,19,20,21,22,23,24,25,26],[0,1,2,3,6,7,8,9,10,11,12,13,14,15,16,17,18,19,20,21,22,23,24,25,26,27],[0,1,2,3,6,7,8,9,10,11,12,13,14,15,16,17,18,19,20,21,22,23,24,25,26,27,28],[0,1,2,3,4,5,6,7,8,9,10,11,12,13,14,15,16,17,18,19,20,21,22,23,24,25,26,27,28,29],[0,1,2,3,4,5,6,7,8,9,10,11,12,13,14,15,16,17,18,19,20,21,22,23,24,25,26,27,28,29,30],[0,1,2,3,4,5,6,7,8,9,10,11,12,13,14,15,16,17,18,19,20,21,22,23,24,25,26,27,28,29,30,31]] [[11,17,23],[11,17,23,26],[11,17,23,26,29]])) .nil))) .nil)) (.node [] [] .nil .nil)))) (retK Tryz.prog [.tmp 2] K) (nth [v0]) w:=by kernel_rfl
theorem S98_ok {v0:Value} {K:Cont} {w:World} (h:S98 v0 K w):callK Tryz.prog 98 [v0] K w:=
 callK_of (P:=Tryz.prog) (ok:=okf) (n:=44) (fn:=Tryz.f98) (c:=bodyOf Tryz.f98) (rs:=[.tmp 2]) (an:=(.node [] [] .nil (.node [] [] .nil (.node [] [] (.node [] [] .nil (.node [9] [(4,4),(9,42)] (.node [] [] .nil (.node [] [] (.node [] [] .nil .nil) (.node [] [] (.node [] [] .nil (.dc [11,17,23,26,29,32] [[],[],[],[],[],[],[],[],[6,7],[6,7,8],[6,7,8,9],[6,7,8,9,10],[],[],[12,13],[12,13,14],[12,13,14,15],[6,7,8,9,10,11,12,13,14,15,16],[],[],[18,19],[18,19,20],[18,19,20,21],[6,7,8,9,10,11,12,13,14,15,16,17,18,19,20,21,22],[0,1,6,7,8,9,10,11,12,13,14,15,16,17,18,19,20,21,22,23],[0,1,6,7,8,9,10,11,12,13,14,15,16,17,18,19,20,21,22,23,24],[0,1,6,7,8,9,10,11,12,13,14,15,16,17,18,19,20,21,22,23,24,25],[0,1,2,3,6,7,8,9,10,11,12,13,14,15,16,17,18,19,20,21,22,23,24,25,26],[0,1,2,3,6,7,8,9,10,11,12,13,14,15,16,17,18,19,20,21,22,23,24,25,26,27],[0,1,2,3,6,7,8,9,10,11,12,13,14,15,16,17,18,19,20,21,22,23,24,25,26,27,28],[0,1,2,3,4,5,6,7,8,9,10,11,12,13,14,15,16,17,18,19,20,21,22,23,24,25,26,27,28,29],[0,1,2,3,4,5,6,7,8,9,10,11,12,13,14,15,16,17,18,19,20,21,22,23,24,25,26,27,28,29,30],[0,1,2,3,4,5,6,7,8,9,10,11,12,13,14,15,16,17,18,19,20,21,22,23,24,25,26,27,28,29,30,31]] [[11,17,23],[11,17,23,26],[11,17,23,26,29]])) .nil))) .nil)) (.node [] [] .nil .nil))))) good mixed Tryz.func98 (by kernel_rfl) (by kernel_rfl) (by kernel_rfl) (by kernel_rfl) (Eq.mp (S98_eq v0 K w) h)

def S120 (v0 v1 v2:Value) (K:Cont) (w:World):Prop:=
 lenK v0 fun t11=>
 lenK v1 fun t13=>
 neK .i64 t11 t13 fun t14=>
 condK t14
 (K (.bool false) w)
 (lenK v0 fun t16=>
 LoopK [(.int .i64 0)] (fun vs again w1=>∀ _h:Env,
 ltK .i64 (nth vs 0) t16 fun t18=>
 condK t18
 (ixK 5 v0 (nth vs 0) fun t20=>
 ldnK 5 t20 (fun t21 w2=>
 newK 56 [(.int .u8 0),(.int .i64 0),(.slice none 0 0),(.slice none 0 0),(.slice none 0 0)] (fun t8 w3=>
 stnK 5 t8 t21 (fun w4=>
 ixK 5 v1 (nth vs 0) fun t24=>
 ldnK 5 t24 (fun t25 w5=>
 newK 56 [(.int .u8 0),(.int .i64 0),(.slice none 0 0),(.slice none 0 0),(.slice none 0 0)] (fun t9 w6=>
 stnK 5 t9 t25 (fun w7=>
 ldnK 5 t8 (fun t27 w8=>
 ldnK 5 t9 (fun t28 w9=>
 callyK Tryz.prog okf v2 [t27,t28] (fun t29 w10=>
 notK t29 fun t30=>
 condK t30
 (K (.bool false) w10)
 (addK .i64 (nth vs 0) (.int .i64 1) fun t31=>
 again [t31] w10)) w9) w8) w7) w6) w5) w4) w3) w2) w1)
 (K (.bool true) w1)) w)
theorem S120_eq (v0 v1 v2:Value) (K:Cont) (w:World):S120 v0 v1 v2 K w=D Tryz.prog okf 32 (bodyOf Tryz.f120) (.node [] [] .nil (.node [] [] (.node [] [] .nil (.node [] [] (.node [] [] .nil .nil) .nil)) (.node [] [] (.node [] [] .nil (.node [17] [(6,9),(17,31)] (.node [] [] .nil (.node [] [] (.node [] [] .nil .nil) (.node [] [] (.node [] [] .nil (.node [] [] .nil (.node [] [] .nil (.node [] [] (.node [] [] .nil .nil) .nil)))) .nil))) .nil)) (.node [] [] .nil .nil)))) (retK Tryz.prog [.tmp 6] K) (nth [v0,v1,v2]) w:=by kernel_rfl
theorem S120_ok {v0 v1 v2:Value} {K:Cont} {w:World} (h:S120 v0 v1 v2 K w):callK Tryz.prog 120 [v0,v1,v2] K w:=
 callK_of (P:=Tryz.prog) (ok:=okf) (n:=32) (fn:=Tryz.f120) (c:=bodyOf Tryz.f120) (rs:=[.tmp 6]) (an:=(.node [] [] .nil (.node [] [] (.node [] [] .nil (.node [] [] (.node [] [] .nil .nil) .nil)) (.node [] [] (.node [] [] .nil (.node [17] [(6,9),(17,31)] (.node [] [] .nil (.node [] [] (.node [] [] .nil .nil) (.node [] [] (.node [] [] .nil (.node [] [] .nil (.node [] [] .nil (.node [] [] (.node [] [] .nil .nil) .nil)))) .nil))) .nil)) (.node [] [] .nil .nil))))) good mixed Tryz.func120 (by kernel_rfl) (by kernel_rfl) (by kernel_rfl) (by kernel_rfl) (Eq.mp (S120_eq v0 v1 v2 K w) h)

def S121 (v0 v1:Value) (K:Cont) (w:World):Prop:=
 boxnK 56 v0 (fun t2 w1=>
 boxnK 56 v1 (fun t3 w2=>
 faK 0 t2 fun t5=>
 ld1K t5 (fun t6 w3=>
 faK 0 t3 fun t7=>
 ld1K t7 (fun t8 w4=>
 eqK .u8 t6 t8 fun t9=>
 condK t9
 (faK 1 t2 fun t11=>
 ld1K t11 (fun t12 w5=>
 faK 1 t3 fun t13=>
 ld1K t13 (fun t14 w6=>
 eqK .i64 t12 t14 fun t15=>
 condK t15
 (faK 2 t2 fun t18=>
 ld1K t18 (fun t19 w7=>
 faK 2 t3 fun t20=>
 ld1K t20 (fun t21 w8=>
 callK Tryz.prog 122 [t19,t21] (fun t22 w9=>
 condK t22
 (faK 3 t2 fun t25=>
 ld1K t25 (fun t26 w10=>
 faK 3 t3 fun t27=>
 ld1K t27 (fun t28 w11=>
 callK Tryz.prog 94 [t26,t28] (fun t29 w12=>
 condK t29
 (faK 4 t2 fun t32=>
 ld1K t32 (fun t33 w13=>
 faK 4 t3 fun t34=>
 ld1K t34 (fun t35 w14=>
 callK Tryz.prog 92 [t33,t35] (fun t36 w15=>
 K t36 w15) w14) w13) w12)
 (K (.bool false) w12)) w11) w10) w9)
 (K (.bool false) w9)) w8) w7) w6)
 (K (.bool false) w6)) w5) w4)
 (K (.bool false) w4)) w3) w2) w1) w
theorem S121_eq (v0 v1:Value) (K:Cont) (w:World):S121 v0 v1 K w=D Tryz.prog okf 38 (bodyOf Tryz.f121) (.node [] [] .nil (.node [] [] .nil .nil)) (retK Tryz.prog [.tmp 4] K) (nth [v0,v1]) w:=by kernel_rfl
theorem S121_ok {v0 v1:Value} {K:Cont} {w:World} (h:S121 v0 v1 K w):callK Tryz.prog 121 [v0,v1] K w:=
 callK_of (P:=Tryz.prog) (ok:=okf) (n:=38) (fn:=Tryz.f121) (c:=bodyOf Tryz.f121) (rs:=[.tmp 4]) (an:=(.node [] [] .nil (.node [] [] .nil .nil))) good mixed Tryz.func121 (by kernel_rfl) (by kernel_rfl) (by kernel_rfl) (by kernel_rfl) (Eq.mp (S121_eq v0 v1 K w) h)

def S122 (v0 v1:Value) (K:Cont) (w:World):Prop:=
 lenK v0 fun t7=>
 lenK v1 fun t9=>
 neK .i64 t7 t9 fun t10=>
 condK t10
 (K (.bool false) w)
 (lenK v0 fun t12=>
 LoopK [(.int .i64 0)] (fun vs again w1=>∀ _h:Env,
 ltK .i64 (nth vs 0) t12 fun t14=>
 condK t14
 (DrawK w1 (fun C=>
 ixK 1 v0 (nth vs 0) fun t18=>
 qld1K C t18 fun t19=>
 ixK 1 v1 (nth vs 0) fun t22=>
 qld1K C t22 fun t23=>
 neK .i32 t19 t23 fun t24=>
 ∀ w2:World,C w2→
 condK t24
 (K (.bool false) w2)
 (addK .i64 (nth vs 0) (.int .i64 1) fun t25=>
 again [t25] w2)))
 (K (.bool true) w1)) w)
theorem S122_eq (v0 v1:Value) (K:Cont) (w:World):S122 v0 v1 K w=D Tryz.prog okf 26 (bodyOf Tryz.f122) (.node [] [] .nil (.node [] [] (.node [] [] .nil (.node [] [] (.node [] [] .nil .nil) .nil)) (.node [] [] (.node [] [] .nil (.node [13] [(4,5),(13,25)] (.node [] [] .nil (.node [] [] (.node [] [] .nil .nil) (.node [] [] (.node [] [] .nil (.node [] [] .draw (.node [] [] (.node [] [] .nil .nil) .nil))) .nil))) .nil)) (.node [] [] .nil .nil)))) (retK Tryz.prog [.tmp 4] K) (nth [v0,v1]) w:=by kernel_rfl
theorem S122_ok {v0 v1:Value} {K:Cont} {w:World} (h:S122 v0 v1 K w):callK Tryz.prog 122 [v0,v1] K w:=
 callK_of (P:=Tryz.prog) (ok:=okf) (n:=26) (fn:=Tryz.f122) (c:=bodyOf Tryz.f122) (rs:=[.tmp 4]) (an:=(.node [] [] .nil (.node [] [] (.node [] [] .nil (.node [] [] (.node [] [] .nil .nil) .nil)) (.node [] [] (.node [] [] .nil (.node [13] [(4,5),(13,25)] (.node [] [] .nil (.node [] [] (.node [] [] .nil .nil) (.node [] [] (.node [] [] .nil (.node [] [] .draw (.node [] [] (.node [] [] .nil .nil) .nil))) .nil))) .nil)) (.node [] [] .nil .nil))))) good mixed Tryz.func122 (by kernel_rfl) (by kernel_rfl) (by kernel_rfl) (by kernel_rfl) (Eq.mp (S122_eq v0 v1 K w) h)

def S55 (v0:Value) (K:Cont) (w:World):Prop:=
 boxnK 56 v0 (fun t1 w1=>
 faK 0 t1 fun t4=>
 ld1K t4 (fun t5 w2=>
 eqK .u8 t5 (.int .u8 1) fun t7=>
 condK t7
 (faK 2 t1 fun t8=>
 ld1K t8 (fun t9 w3=>
 lenK t9 fun t10=>
 eqK .i64 t10 (.int .i64 0) fun t11=>
 condK t11
 (faK 3 t1 fun t13=>
 ld1K t13 (fun t14 w4=>
 lenK t14 fun t15=>
 eqK .i64 t15 (.int .i64 0) fun t16=>
 condK t16
 (faK 1 t1 fun t19=>
 ld1K t19 (fun t20 w5=>
 geK .i64 t20 (.int .i64 1) fun t21=>
 condK t21
 (faK 1 t1 fun t24=>
 ld1K t24 (fun t25 w6=>
 leK .i64 t25 (.int .i64 536870912) fun t26=>
 K t26 w6) w5)
 (K (.bool false) w5)) w4)
 (K (.bool false) w4)) w3)
 (K (.bool false) w3)) w2)
 (eqK .u8 t5 (.int .u8 3) fun t29=>
 condK t29
 (faK 2 t1 fun t30=>
 ld1K t30 (fun t31 w7=>
 lenK t31 fun t32=>
 eqK .i64 t32 (.int .i64 0) fun t33=>
 condK t33
 (faK 3 t1 fun t35=>
 ld1K t35 (fun t36 w8=>
 lenK t36 fun t37=>
 eqK .i64 t37 (.int .i64 0) fun t38=>
 condK t38
 (faK 4 t1 fun t41=>
 ld1K t41 (fun t42 w9=>
 lenK t42 fun t43=>
 eqK .i64 t43 (.int .i64 0) fun t44=>
 condK t44
 (faK 1 t1 fun t47=>
 ld1K t47 (fun t48 w10=>
 geK .i64 t48 (.int .i64 1) fun t49=>
 condK t49
 (faK 1 t1 fun t52=>
 ld1K t52 (fun t53 w11=>
 leK .i64 t53 (.int .i64 536870912) fun t54=>
 K t54 w11) w10)
 (K (.bool false) w10)) w9)
 (K (.bool false) w9)) w8)
 (K (.bool false) w8)) w7)
 (K (.bool false) w7)) w2)
 (eqK .u8 t5 (.int .u8 2) fun t57=>
 condK t57
 (LoopK [(.int .i64 0)] (fun vs again w12=>∀ _h:Env,
 faK 2 t1 fun t59=>
 ld1K t59 (fun t60 w13=>
 lenK t60 fun t61=>
 ltK .i64 (nth vs 0) t61 fun t62=>
 condK t62
 (faK 2 t1 fun t65=>
 ld1K t65 (fun t66 w14=>
 ixK 1 t66 (nth vs 0) fun t68=>
 ld1K t68 (fun t69 w15=>
 callK Tryz.prog 106 [t69] (fun t70 w16=>
 notK t70 fun t71=>
 condK t71
 (K (.bool false) w16)
 (addK .i64 (nth vs 0) (.int .i64 1) fun t64=>
 again [t64] w16)) w15) w14) w13)
 (faK 1 t1 fun t72=>
 ld1K t72 (fun t73 w17=>
 eqK .i64 t73 (.int .i64 0) fun t74=>
 condK t74
 (faK 4 t1 fun t76=>
 ld1K t76 (fun t77 w18=>
 lenK t77 fun t78=>
 eqK .i64 t78 (.int .i64 0) fun t79=>
 condK t79
 (faK 2 t1 fun t82=>
 ld1K t82 (fun t83 w19=>
 lenK t83 fun t84=>
 geK .i64 t84 (.int .i64 1) fun t85=>
 condK t85
 (faK 2 t1 fun t88=>
 ld1K t88 (fun t89 w20=>
 lenK t89 fun t90=>
 leK .i64 t90 (.int .i64 536870912) fun t91=>
 K t91 w20) w19)
 (K (.bool false) w19)) w18)
 (K (.bool false) w18)) w17)
 (K (.bool false) w17)) w13)) w12) w2)
 (K (.bool false) w2)))) w1) w
theorem S55_eq (v0:Value) (K:Cont) (w:World):S55 v0 K w=D Tryz.prog okf 93 (bodyOf Tryz.f55) (.node [] [] .nil (.node [] [] (.node [] [] .nil (.node [] [] .nil (.node [] [] (.node [] [] .nil .nil) (.node [] [] .nil (.node [] [] (.node [] [] .nil .nil) (.node [] [] .nil (.node [] [] (.node [] [] (.node [] [] .nil (.node [3] [(2,3),(58,71)] (.node [] [] (.node [] [] .nil (.node [] [] .nil .nil)) (.node [] [] (.node [] [] .nil (.node [] [] (.node [] [] .nil .nil) .nil)) .nil)) .nil)) (.node [] [] .nil .nil)) .nil))))))) (.node [] [] .nil .nil))) (retK Tryz.prog [.tmp 2] K) (nth [v0]) w:=by kernel_rfl
theorem S55_ok {v0:Value} {K:Cont} {w:World} (h:S55 v0 K w):callK Tryz.prog 55 [v0] K w:=
 callK_of (P:=Tryz.prog) (ok:=okf) (n:=93) (fn:=Tryz.f55) (c:=bodyOf Tryz.f55) (rs:=[.tmp 2]) (an:=(.node [] [] .nil (.node [] [] (.node [] [] .nil (.node [] [] .nil (.node [] [] (.node [] [] .nil .nil) (.node [] [] .nil (.node [] [] (.node [] [] .nil .nil) (.node [] [] .nil (.node [] [] (.node [] [] (.node [] [] .nil (.node [3] [(2,3),(58,71)] (.node [] [] (.node [] [] .nil (.node [] [] .nil .nil)) (.node [] [] (.node [] [] .nil (.node [] [] (.node [] [] .nil .nil) .nil)) .nil)) .nil)) (.node [] [] .nil .nil)) .nil))))))) (.node [] [] .nil .nil)))) good mixed Tryz.func55 (by kernel_rfl) (by kernel_rfl) (by kernel_rfl) (by kernel_rfl) (Eq.mp (S55_eq v0 K w) h)

def S56 (v0 v1:Value) (K:Cont) (w:World):Prop:=
 JoinK (fun _vs w1=>∀ _h:Env,
 LoopK [(.int .i64 0)] (fun vs_1 again w2=>∀ _h_1:Env,
 lenK v1 fun t17=>
 ltK .i64 (nth vs_1 0) t17 fun t18=>
 condK t18
 (ixK 5 v1 (nth vs_1 0) fun t23=>
 faK 1 t23 fun t24=>
 ldnK 4 t24 (fun t25 w3=>
 callK Tryz.prog 108 [t25] (fun t26 w4=>
 notK t26 fun t27=>
 condK t27
 (K (.int .i64 3) w4)
 (addK .i64 (nth vs_1 0) (.int .i64 1) fun t20=>
 again [t20] w4)) w3) w2)
 (LoopK [(.int .i64 0)] (fun vs_2 again_1 w5=>∀ _h_2:Env,
 lenK v1 fun t30=>
 ltK .i64 (nth vs_2 0) t30 fun t31=>
 condK t31
 (DrawC [11] [[],[],[],[1,2],[1,2,3],[1,2,3,4],[],[],[6,7],[6,7,8],[6,7,8,9],[0,1,2,3,4,5,6,7,8,9,10],[0,1,2,3,4,5,6,7,8,9,10,11]] w5.drew (fun M St=>
 ixK 5 v1 (nth vs_2 0) fun t37=>
 faK 0 t37 fun t38=>
 sld1 (St 5) t38 fun t39=>
 ixK 5 v1 (nth vs_2 0) fun t42=>
 faK 1 t42 fun t43=>
 sldn (St 10) 4 t43 fun t44=>
 callK Tryz.prog 109 [v0,t39,t44] (fun t45 w6=>
 Mod (M 11) w5.drew w6∧
 notK t45 fun t46=>
 condK t46
 (K (.int .i64 4) w6)
 (addK .i64 (nth vs_2 0) (.int .i64 1) fun t33=>
 again_1 [t33] w6)) w5.drew))
 (K (.int .i64 0) w5)) w2)) w1) (fun J=>
 callK Tryz.prog 107 [v1] (fun t8 w7=>
 notK t8 fun t9=>
 condK t9
 (K (.int .i64 3) w7)
 (lenK v1 fun t12=>
 gtK .i64 t12 (.int .i64 64) fun t13=>
 condK t13
 (K (.int .i64 3) w7)
 (J [] w7))) w)
theorem S56_eq (v0 v1:Value) (K:Cont) (w:World):S56 v0 v1 K w=D Tryz.prog okf 47 (bodyOf Tryz.f56) (.node [] [] .nil (.cut [] [(4,4),(7,14)] (.node [] [] .nil (.node [] [] (.node [] [] .nil .nil) .nil)) (.node [] [] (.node [] [] .nil (.node [5] [(4,5),(15,27)] (.node [] [] (.node [] [] .nil (.node [] [] .nil .nil)) (.node [] [] (.node [] [] .nil (.node [] [] (.node [] [] .nil .nil) .nil)) .nil)) .nil)) (.node [] [] (.node [] [] .nil (.node [6] [(4,4),(6,6),(28,46)] (.node [] [] (.node [] [] .nil (.node [] [] .nil .nil)) (.node [] [] (.node [] [] (.dc [11] [[],[],[],[1,2],[1,2,3],[1,2,3,4],[],[],[6,7],[6,7,8],[6,7,8,9],[0,1,2,3,4,5,6,7,8,9,10],[0,1,2,3,4,5,6,7,8,9,10,11]] []) (.node [] [] (.node [] [] .nil .nil) .nil)) .nil)) .nil)) (.node [] [] .nil .nil))))) (retK Tryz.prog [.tmp 4] K) (nth [v0,v1]) w:=by kernel_rfl
theorem S56_ok {v0 v1:Value} {K:Cont} {w:World} (h:S56 v0 v1 K w):callK Tryz.prog 56 [v0,v1] K w:=
 callK_of (P:=Tryz.prog) (ok:=okf) (n:=47) (fn:=Tryz.f56) (c:=bodyOf Tryz.f56) (rs:=[.tmp 4]) (an:=(.node [] [] .nil (.cut [] [(4,4),(7,14)] (.node [] [] .nil (.node [] [] (.node [] [] .nil .nil) .nil)) (.node [] [] (.node [] [] .nil (.node [5] [(4,5),(15,27)] (.node [] [] (.node [] [] .nil (.node [] [] .nil .nil)) (.node [] [] (.node [] [] .nil (.node [] [] (.node [] [] .nil .nil) .nil)) .nil)) .nil)) (.node [] [] (.node [] [] .nil (.node [6] [(4,4),(6,6),(28,46)] (.node [] [] (.node [] [] .nil (.node [] [] .nil .nil)) (.node [] [] (.node [] [] (.dc [11] [[],[],[],[1,2],[1,2,3],[1,2,3,4],[],[],[6,7],[6,7,8],[6,7,8,9],[0,1,2,3,4,5,6,7,8,9,10],[0,1,2,3,4,5,6,7,8,9,10,11]] []) (.node [] [] (.node [] [] .nil .nil) .nil)) .nil)) .nil)) (.node [] [] .nil .nil)))))) good mixed Tryz.func56 (by kernel_rfl) (by kernel_rfl) (by kernel_rfl) (by kernel_rfl) (Eq.mp (S56_eq v0 v1 K w) h)

def S57 (v0 v1:Value) (K:Cont) (w:World):Prop:=
 JoinK (fun _vs w1=>∀ _h:Env,
 LoopK [(.int .i64 0)] (fun vs_1 again w2=>∀ _h_1:Env,
 lenK v1 fun t19=>
 ltK .i64 (nth vs_1 0) t19 fun t20=>
 condK t20
 (JoinK (fun _vs_2 w3=>∀ _h_2:Env,
 addK .i64 (nth vs_1 0) (.int .i64 1) fun t22=>
 again [t22] w3) (fun J_1=>
 ixK 6 v1 (nth vs_1 0) fun t25=>
 faK 1 t25 fun t26=>
 ld1K t26 (fun t27 w4=>
 condK t27
 (ixK 6 v1 (nth vs_1 0) fun t31=>
 faK 2 t31 fun t32=>
 ldnK 4 t32 (fun t33 w5=>
 buildK [(0,1),(1,1),(2,1),(3,1)] [(.int .u8 0),(.int .i64 0),(.int .u64 0),(.string (ByteArray.mk #[]))] [] fun t34=>
 runK Tryz.prog (binS .neq 59 (.tmp 33) (.tmp 34) t33 t34) (fun t35 w6=>
 condK t35
 (K (.int .i64 3) w6)
 (ixK 6 v1 (nth vs_1 0) fun t40=>
 faK 1 t40 fun t41=>
 ld1K t41 (fun t42 w7=>
 notK t42 fun t43=>
 condK t43
 (ixK 6 v1 (nth vs_1 0) fun t47=>
 faK 2 t47 fun t48=>
 ldnK 4 t48 (fun t49 w8=>
 callK Tryz.prog 108 [t49] (fun t50 w9=>
 notK t50 fun t51=>
 condK t51
 (K (.int .i64 3) w9)
 (J_1 [] w9)) w8) w7)
 (J_1 [] w7)) w6)) w5) w4)
 (ixK 6 v1 (nth vs_1 0) fun t40_1=>
 faK 1 t40_1 fun t41_1=>
 ld1K t41_1 (fun t42_1 w10=>
 notK t42_1 fun t43_1=>
 condK t43_1
 (ixK 6 v1 (nth vs_1 0) fun t47_1=>
 faK 2 t47_1 fun t48_1=>
 ldnK 4 t48_1 (fun t49_1 w11=>
 callK Tryz.prog 108 [t49_1] (fun t50_1 w12=>
 notK t50_1 fun t51_1=>
 condK t51_1
 (K (.int .i64 3) w12)
 (J_1 [] w12)) w11) w10)
 (J_1 [] w10)) w4)) w2))
 (LoopK [(.int .i64 0)] (fun vs_3 again_1 w13=>∀ _h_3:Env,
 lenK v1 fun t56=>
 ltK .i64 (nth vs_3 0) t56 fun t57=>
 condK t57
 (JoinK (fun _vs_4 w14=>∀ _h_4:Env,
 addK .i64 (nth vs_3 0) (.int .i64 1) fun t59=>
 again_1 [t59] w14) (fun J_2=>
 ixK 6 v1 (nth vs_3 0) fun t64=>
 faK 0 t64 fun t65=>
 ld1K t65 (fun t66 w15=>
 callK Tryz.prog 111 [v0,t66] (fun t67 w16=>
 extK 0 t67 fun t68=>
 extK 1 t67 fun t69=>
 newK 43 [(.int .i64 0),(.bool false),(.int .u8 0),(.bool false),(.bool false),(.int .i64 0)] (fun t7 w17=>
 stnK 6 t7 t68 (fun w18=>
 DrawC [21] [[],[0],[0,1],[0,1,2],[0,1,2],[0,1,2,3,4],[0,1,2,3,4,5],[0,1,2,3,4,5,6],[0,1,2,3,4,5,6,7],[0,1,2,3,4,5,6,7,8],[0,1,2,3,4,5,6,7,8,9],[0,1,2,3,4,5,6,7,8,9],[0,1,2,3,4,5,6,7,8,9],[0,1,2,3,4,5,6,7,8,9,11,12],[0,1,2,3,4,5,6,7,8,9,11,12,13],[0,1,2,3,4,5,6,7,8,9,11,12,13,14],[0,1,2,3,4,5,6,7,8,9],[0,1,2,3,4,5,6,7,8,9],[0,1,2,3,4,5,6,7,8,9,16,17],[0,1,2,3,4,5,6,7,8,9,16,17,18],[0,1,2,3,4,5,6,7,8,9,16,17,18,19],[0,1,2,3,4,5,6,7,8,9,10,11,12,13,14,15,16,17,18,19,20],[0,1,2,3,4,5,6,7,8,9,10,11,12,13,14,15,16,17,18,19,20,21],[0,1,2,3,4,5,6,7,8,9,10,11,12,13,14,15,16,17,18,19,20,21,22],[0,1,2,3,4,5,6,7,8,9,10,11,12,13,14,15,16,17,18,19,20,21,22,23]] w18.drew (fun M St=>
 notK t69 fun t71=>
 condK t71
 (K (.int .i64 4) w18.drew)
 (ixK 6 v1 (nth vs_3 0) fun t75=>
 faK 1 t75 fun t76=>
 sld1 (St 7) t76 fun t77=>
 notK t77 fun t78=>
 condK t78
 (ixK 6 v1 (nth vs_3 0) fun t83=>
 faK 0 t83 fun t84=>
 sld1 (St 15) t84 fun t85=>
 ixK 6 v1 (nth vs_3 0) fun t88=>
 faK 2 t88 fun t89=>
 sldn (St 20) 4 t89 fun t90=>
 callK Tryz.prog 109 [v0,t85,t90] (fun t91 w19=>
 Mod (M 21) w18.drew w19∧
 notK t91 fun t92=>
 condK t92
 (K (.int .i64 4) w19)
 (J_2 [] w19)) w18.drew)
 (J_2 [] w18.drew)))) w17) w16) w15) w13))
 (K (.int .i64 0) w13)) w2)) w1) (fun J=>
 callK Tryz.prog 110 [v1] (fun t10 w20=>
 notK t10 fun t11=>
 condK t11
 (K (.int .i64 3) w20)
 (lenK v1 fun t14=>
 gtK .i64 t14 (.int .i64 64) fun t15=>
 condK t15
 (K (.int .i64 3) w20)
 (J [] w20))) w)
theorem S57_eq (v0 v1:Value) (K:Cont) (w:World):S57 v0 v1 K w=D Tryz.prog okf 95 (bodyOf Tryz.f57) (.node [] [] .nil (.cut [] [(4,4),(9,16)] (.node [] [] .nil (.node [] [] (.node [] [] .nil .nil) .nil)) (.node [] [] (.node [] [] .nil (.node [5] [(4,5),(17,53)] (.node [] [] (.node [] [] .nil (.node [] [] .nil .nil)) (.cut [] [(4,4),(23,53)] (.node [] [] .nil (.node [] [] (.node [] [] .nil .nil) .nil)) .nil)) .nil)) (.node [] [] (.node [] [] .nil (.node [6] [(4,4),(6,8),(54,94)] (.node [] [] (.node [] [] .nil (.node [] [] .nil .nil)) (.cut [] [(4,4),(7,8),(60,94)] (.node [] [] .nil (.node [] [] (.dc [21] [[],[0],[0,1],[0,1,2],[0,1,2],[0,1,2,3,4],[0,1,2,3,4,5],[0,1,2,3,4,5,6],[0,1,2,3,4,5,6,7],[0,1,2,3,4,5,6,7,8],[0,1,2,3,4,5,6,7,8,9],[0,1,2,3,4,5,6,7,8,9],[0,1,2,3,4,5,6,7,8,9],[0,1,2,3,4,5,6,7,8,9,11,12],[0,1,2,3,4,5,6,7,8,9,11,12,13],[0,1,2,3,4,5,6,7,8,9,11,12,13,14],[0,1,2,3,4,5,6,7,8,9],[0,1,2,3,4,5,6,7,8,9],[0,1,2,3,4,5,6,7,8,9,16,17],[0,1,2,3,4,5,6,7,8,9,16,17,18],[0,1,2,3,4,5,6,7,8,9,16,17,18,19],[0,1,2,3,4,5,6,7,8,9,10,11,12,13,14,15,16,17,18,19,20],[0,1,2,3,4,5,6,7,8,9,10,11,12,13,14,15,16,17,18,19,20,21],[0,1,2,3,4,5,6,7,8,9,10,11,12,13,14,15,16,17,18,19,20,21,22],[0,1,2,3,4,5,6,7,8,9,10,11,12,13,14,15,16,17,18,19,20,21,22,23]] []) (.node [] [] (.node [] [] .nil .nil) .nil))) .nil)) .nil)) (.node [] [] .nil .nil))))) (retK Tryz.prog [.tmp 4] K) (nth [v0,v1]) w:=by kernel_rfl
theorem S57_ok {v0 v1:Value} {K:Cont} {w:World} (h:S57 v0 v1 K w):callK Tryz.prog 57 [v0,v1] K w:=
 callK_of (P:=Tryz.prog) (ok:=okf) (n:=95) (fn:=Tryz.f57) (c:=bodyOf Tryz.f57) (rs:=[.tmp 4]) (an:=(.node [] [] .nil (.cut [] [(4,4),(9,16)] (.node [] [] .nil (.node [] [] (.node [] [] .nil .nil) .nil)) (.node [] [] (.node [] [] .nil (.node [5] [(4,5),(17,53)] (.node [] [] (.node [] [] .nil (.node [] [] .nil .nil)) (.cut [] [(4,4),(23,53)] (.node [] [] .nil (.node [] [] (.node [] [] .nil .nil) .nil)) .nil)) .nil)) (.node [] [] (.node [] [] .nil (.node [6] [(4,4),(6,8),(54,94)] (.node [] [] (.node [] [] .nil (.node [] [] .nil .nil)) (.cut [] [(4,4),(7,8),(60,94)] (.node [] [] .nil (.node [] [] (.dc [21] [[],[0],[0,1],[0,1,2],[0,1,2],[0,1,2,3,4],[0,1,2,3,4,5],[0,1,2,3,4,5,6],[0,1,2,3,4,5,6,7],[0,1,2,3,4,5,6,7,8],[0,1,2,3,4,5,6,7,8,9],[0,1,2,3,4,5,6,7,8,9],[0,1,2,3,4,5,6,7,8,9],[0,1,2,3,4,5,6,7,8,9,11,12],[0,1,2,3,4,5,6,7,8,9,11,12,13],[0,1,2,3,4,5,6,7,8,9,11,12,13,14],[0,1,2,3,4,5,6,7,8,9],[0,1,2,3,4,5,6,7,8,9],[0,1,2,3,4,5,6,7,8,9,16,17],[0,1,2,3,4,5,6,7,8,9,16,17,18],[0,1,2,3,4,5,6,7,8,9,16,17,18,19],[0,1,2,3,4,5,6,7,8,9,10,11,12,13,14,15,16,17,18,19,20],[0,1,2,3,4,5,6,7,8,9,10,11,12,13,14,15,16,17,18,19,20,21],[0,1,2,3,4,5,6,7,8,9,10,11,12,13,14,15,16,17,18,19,20,21,22],[0,1,2,3,4,5,6,7,8,9,10,11,12,13,14,15,16,17,18,19,20,21,22,23]] []) (.node [] [] (.node [] [] .nil .nil) .nil))) .nil)) .nil)) (.node [] [] .nil .nil)))))) good mixed Tryz.func57 (by kernel_rfl) (by kernel_rfl) (by kernel_rfl) (by kernel_rfl) (Eq.mp (S57_eq v0 v1 K w) h)

def S58 (v0:Value) (K:Cont) (w:World):Prop:=
 LoopK [(.int .i64 0),(.int .i64 0)] (fun vs again w1=>∀ _h:Env,
 lenK v0 fun t7=>
 ltK .i64 (nth vs 1) t7 fun t8=>
 condK t8
 (ixK 5 v0 (nth vs 1) fun t13=>
 faK 0 t13 fun t14=>
 ld1K t14 (fun t15 w2=>
 neK .u8 t15 (.int .u8 2) fun t16=>
 condK t16
 (ixK 5 v0 (nth vs 1) fun t20=>
 faK 1 t20 fun t21=>
 ld1K t21 (fun t22 w3=>
 addK .i64 (nth vs 0) t22 fun t23=>
 addK .i64 (nth vs 1) (.int .i64 1) fun t10=>
 again [t23,t10] w3) w2)
 (addK .i64 (nth vs 1) (.int .i64 1) fun t10_1=>
 again [(nth vs 0),t10_1] w2)) w1)
 (K (nth vs 0) w1)) w
theorem S58_eq (v0:Value) (K:Cont) (w:World):S58 v0 K w=D Tryz.prog okf 25 (bodyOf Tryz.f58) (.node [] [] .nil (.node [] [] .nil (.node [] [] (.node [] [] .nil (.node [3,4] [(3,23)] (.node [] [] (.node [] [] .nil (.node [] [] .nil .nil)) (.node [] [] (.node [] [] .nil (.node [] [] .nil .nil)) .nil)) .nil)) (.node [] [] .nil .nil)))) (retK Tryz.prog [.tmp 2] K) (nth [v0]) w:=by kernel_rfl
theorem S58_ok {v0:Value} {K:Cont} {w:World} (h:S58 v0 K w):callK Tryz.prog 58 [v0] K w:=
 callK_of (P:=Tryz.prog) (ok:=okf) (n:=25) (fn:=Tryz.f58) (c:=bodyOf Tryz.f58) (rs:=[.tmp 2]) (an:=(.node [] [] .nil (.node [] [] .nil (.node [] [] (.node [] [] .nil (.node [3,4] [(3,23)] (.node [] [] (.node [] [] .nil (.node [] [] .nil .nil)) (.node [] [] (.node [] [] .nil (.node [] [] .nil .nil)) .nil)) .nil)) (.node [] [] .nil .nil))))) good mixed Tryz.func58 (by kernel_rfl) (by kernel_rfl) (by kernel_rfl) (by kernel_rfl) (Eq.mp (S58_eq v0 K w) h)

def S59 (v0:Value) (K:Cont) (w:World):Prop:=
 LoopK [(.int .i64 0),(.int .i64 0)] (fun vs again w1=>∀ _h:Env,
 lenK v0 fun t7=>
 ltK .i64 (nth vs 1) t7 fun t8=>
 condK t8
 (ixK 5 v0 (nth vs 1) fun t13=>
 faK 0 t13 fun t14=>
 ld1K t14 (fun t15 w2=>
 neK .u8 t15 (.int .u8 3) fun t16=>
 condK t16
 (ixK 5 v0 (nth vs 1) fun t20=>
 ldnK 5 t20 (fun t21 w3=>
 callK Tryz.prog 112 [t21] (fun t22 w4=>
 addK .i64 (nth vs 0) t22 fun t23=>
 addK .i64 (nth vs 1) (.int .i64 1) fun t10=>
 again [t23,t10] w4) w3) w2)
 (addK .i64 (nth vs 1) (.int .i64 1) fun t10_1=>
 again [(nth vs 0),t10_1] w2)) w1)
 (K (nth vs 0) w1)) w
theorem S59_eq (v0:Value) (K:Cont) (w:World):S59 v0 K w=D Tryz.prog okf 25 (bodyOf Tryz.f59) (.node [] [] .nil (.node [] [] .nil (.node [] [] (.node [] [] .nil (.node [3,4] [(3,23)] (.node [] [] (.node [] [] .nil (.node [] [] .nil .nil)) (.node [] [] (.node [] [] .nil (.node [] [] .nil .nil)) .nil)) .nil)) (.node [] [] .nil .nil)))) (retK Tryz.prog [.tmp 2] K) (nth [v0]) w:=by kernel_rfl
theorem S59_ok {v0:Value} {K:Cont} {w:World} (h:S59 v0 K w):callK Tryz.prog 59 [v0] K w:=
 callK_of (P:=Tryz.prog) (ok:=okf) (n:=25) (fn:=Tryz.f59) (c:=bodyOf Tryz.f59) (rs:=[.tmp 2]) (an:=(.node [] [] .nil (.node [] [] .nil (.node [] [] (.node [] [] .nil (.node [3,4] [(3,23)] (.node [] [] (.node [] [] .nil (.node [] [] .nil .nil)) (.node [] [] (.node [] [] .nil (.node [] [] .nil .nil)) .nil)) .nil)) (.node [] [] .nil .nil))))) good mixed Tryz.func59 (by kernel_rfl) (by kernel_rfl) (by kernel_rfl) (by kernel_rfl) (Eq.mp (S59_eq v0 K w) h)

def S133 (v0:Value) (K:Cont) (w:World):Prop:=
 snilK v0 fun b4=>
 condK (.bool b4)
 (K (.slice none 0 0) w)
 (rowK 56 5 0 [] [] (fun t5 w1=>
 runK Tryz.prog (Builtin.append_ #[23,23] 23 [t5,v0].toArray) (fun t7 w2=>
 K t7 w2) w1) w)
theorem S133_eq (v0:Value) (K:Cont) (w:World):S133 v0 K w=D Tryz.prog okf 8 (bodyOf Tryz.f133) (.node [] [] .nil (.node [] [] (.node [] [] .nil (.node [] [] (.node [] [] .nil .nil) .nil)) (.node [] [] .nil .nil))) (retK Tryz.prog [.tmp 2] K) (nth [v0]) w:=by kernel_rfl
theorem S133_ok {v0:Value} {K:Cont} {w:World} (h:S133 v0 K w):callK Tryz.prog 133 [v0] K w:=
 callK_of (P:=Tryz.prog) (ok:=okf) (n:=8) (fn:=Tryz.f133) (c:=bodyOf Tryz.f133) (rs:=[.tmp 2]) (an:=(.node [] [] .nil (.node [] [] (.node [] [] .nil (.node [] [] (.node [] [] .nil .nil) .nil)) (.node [] [] .nil .nil)))) good mixed Tryz.func133 (by kernel_rfl) (by kernel_rfl) (by kernel_rfl) (by kernel_rfl) (Eq.mp (S133_eq v0 K w) h)

def S134 (v0 v1:Value) (K:Cont) (w:World):Prop:=
 lenK v0 fun t7=>
 lenK v1 fun t9=>
 neK .i64 t7 t9 fun t10=>
 condK t10
 (K (.bool false) w)
 (lenK v0 fun t12=>
 LoopK [(.int .i64 0)] (fun vs again w1=>∀ _h:Env,
 ltK .i64 (nth vs 0) t12 fun t14=>
 condK t14
 (DrawK w1 (fun C=>
 ixK 6 v0 (nth vs 0) fun t18=>
 qldnK C 6 t18 fun t19=>
 ixK 6 v1 (nth vs 0) fun t22=>
 qldnK C 6 t22 fun t23=>
 qrunK Tryz.prog C (binS .neq 63 (.tmp 19) (.tmp 23) t19 t23) fun t24=>
 ∀ w2:World,C w2→
 condK t24
 (K (.bool false) w2)
 (addK .i64 (nth vs 0) (.int .i64 1) fun t25=>
 again [t25] w2)))
 (K (.bool true) w1)) w)
theorem S134_eq (v0 v1:Value) (K:Cont) (w:World):S134 v0 v1 K w=D Tryz.prog okf 26 (bodyOf Tryz.f134) (.node [] [] .nil (.node [] [] (.node [] [] .nil (.node [] [] (.node [] [] .nil .nil) .nil)) (.node [] [] (.node [] [] .nil (.node [13] [(4,5),(13,25)] (.node [] [] .nil (.node [] [] (.node [] [] .nil .nil) (.node [] [] (.node [] [] .nil (.node [] [] .draw (.node [] [] (.node [] [] .nil .nil) .nil))) .nil))) .nil)) (.node [] [] .nil .nil)))) (retK Tryz.prog [.tmp 4] K) (nth [v0,v1]) w:=by kernel_rfl
theorem S134_ok {v0 v1:Value} {K:Cont} {w:World} (h:S134 v0 v1 K w):callK Tryz.prog 134 [v0,v1] K w:=
 callK_of (P:=Tryz.prog) (ok:=okf) (n:=26) (fn:=Tryz.f134) (c:=bodyOf Tryz.f134) (rs:=[.tmp 4]) (an:=(.node [] [] .nil (.node [] [] (.node [] [] .nil (.node [] [] (.node [] [] .nil .nil) .nil)) (.node [] [] (.node [] [] .nil (.node [13] [(4,5),(13,25)] (.node [] [] .nil (.node [] [] (.node [] [] .nil .nil) (.node [] [] (.node [] [] .nil (.node [] [] .draw (.node [] [] (.node [] [] .nil .nil) .nil))) .nil))) .nil)) (.node [] [] .nil .nil))))) good mixed Tryz.func134 (by kernel_rfl) (by kernel_rfl) (by kernel_rfl) (by kernel_rfl) (Eq.mp (S134_eq v0 v1 K w) h)

def S135 (v0:Value) (K:Cont) (w:World):Prop:=
 snilK v0 fun b4=>
 condK (.bool b4)
 (K (.slice none 0 0) w)
 (rowK 63 6 0 [] [] (fun t5 w1=>
 runK Tryz.prog (Builtin.append_ #[54,54] 54 [t5,v0].toArray) (fun t7 w2=>
 K t7 w2) w1) w)
theorem S135_eq (v0:Value) (K:Cont) (w:World):S135 v0 K w=D Tryz.prog okf 8 (bodyOf Tryz.f135) (.node [] [] .nil (.node [] [] (.node [] [] .nil (.node [] [] (.node [] [] .nil .nil) .nil)) (.node [] [] .nil .nil))) (retK Tryz.prog [.tmp 2] K) (nth [v0]) w:=by kernel_rfl
theorem S135_ok {v0:Value} {K:Cont} {w:World} (h:S135 v0 K w):callK Tryz.prog 135 [v0] K w:=
 callK_of (P:=Tryz.prog) (ok:=okf) (n:=8) (fn:=Tryz.f135) (c:=bodyOf Tryz.f135) (rs:=[.tmp 2]) (an:=(.node [] [] .nil (.node [] [] (.node [] [] .nil (.node [] [] (.node [] [] .nil .nil) .nil)) (.node [] [] .nil .nil)))) good mixed Tryz.func135 (by kernel_rfl) (by kernel_rfl) (by kernel_rfl) (by kernel_rfl) (Eq.mp (S135_eq v0 K w) h)

def S138 (v0 v1:Value) (K:Cont) (w:World):Prop:=
 JoinK (fun _vs w1=>∀ _h:Env,
 runK Tryz.prog (Builtin.cap_ #[23] 3 [v0].toArray) (fun t10 w2=>
 lenK v0 fun t12=>
 subK .i64 t10 t12 fun t13=>
 subK .i64 v1 t13 fun t14=>
 gtK .i64 t14 (.int .i64 0) fun t16=>
 condK t16
 (runK Tryz.prog (Builtin.cap_ #[23] 3 [v0].toArray) (fun t19 w3=>
 runK Tryz.prog (Instr.sliceAt 23 v0 none (some t19) none) (fun t20 w4=>
 runK Tryz.prog (Builtin.append_ #[23,3] 23 [t20,t14].toArray) (fun t22 w5=>
 lenK v0 fun t24=>
 runK Tryz.prog (Instr.sliceAt 23 t22 none (some t24) none) (fun t25 w6=>
 K t25 w6) w5) w4) w3) w2)
 (K v0 w2)) w1) (fun J=>
 ltK .i64 v1 (.int .i64 0) fun t6=>
 condK t6
 (runK Tryz.prog (Instr.makeInterface 9 (.string (ByteArray.mk #[99,97,110,110,111,116,32,98,101,32,110,101,103,97,116,105,118,101]))) (fun _t7 w7=>
 False) w)
 (J [] w))
theorem S138_eq (v0 v1:Value) (K:Cont) (w:World):S138 v0 v1 K w=D Tryz.prog okf 27 (bodyOf Tryz.f138) (.node [] [] .nil (.cut [] [(5,7)] (.node [] [] .nil (.node [] [] .nil .nil)) (.node [] [] (.node [] [] .nil (.node [] [] .nil (.node [] [] .nil .nil))) (.node [] [] .nil .nil)))) (retK Tryz.prog [.tmp 4] K) (nth [v0,v1]) w:=by kernel_rfl
theorem S138_ok {v0 v1:Value} {K:Cont} {w:World} (h:S138 v0 v1 K w):callK Tryz.prog 138 [v0,v1] K w:=
 callK_of (P:=Tryz.prog) (ok:=okf) (n:=27) (fn:=Tryz.f138) (c:=bodyOf Tryz.f138) (rs:=[.tmp 4]) (an:=(.node [] [] .nil (.cut [] [(5,7)] (.node [] [] .nil (.node [] [] .nil .nil)) (.node [] [] (.node [] [] .nil (.node [] [] .nil (.node [] [] .nil .nil))) (.node [] [] .nil .nil))))) good mixed Tryz.func138 (by kernel_rfl) (by kernel_rfl) (by kernel_rfl) (by kernel_rfl) (Eq.mp (S138_eq v0 v1 K w) h)

def S106 (v0:Value) (K:Cont) (w:World):Prop:=
 geK .i32 v0 (.int .i32 0) fun t4=>
 condK t4
 (ltK .i32 v0 (.int .i32 55296) fun t7=>
 condK t7
 (K (.bool true) w)
 (geK .i32 v0 (.int .i32 57344) fun t11=>
 condK t11
 (leK .i32 v0 (.int .i32 1114111) fun t14=>
 K t14 w)
 (K (.bool false) w)))
 (geK .i32 v0 (.int .i32 57344) fun t11_1=>
 condK t11_1
 (leK .i32 v0 (.int .i32 1114111) fun t14_1=>
 K t14_1 w)
 (K (.bool false) w))
theorem S106_eq (v0:Value) (K:Cont) (w:World):S106 v0 K w=D Tryz.prog okf 17 (bodyOf Tryz.f106) (.node [] [] .nil (.node [] [] .nil .nil)) (retK Tryz.prog [.tmp 2] K) (nth [v0]) w:=by kernel_rfl
theorem S106_ok {v0:Value} {K:Cont} {w:World} (h:S106 v0 K w):callK Tryz.prog 106 [v0] K w:=
 callK_of (P:=Tryz.prog) (ok:=okf) (n:=17) (fn:=Tryz.f106) (c:=bodyOf Tryz.f106) (rs:=[.tmp 2]) (an:=(.node [] [] .nil (.node [] [] .nil .nil))) good mixed Tryz.func106 (by kernel_rfl) (by kernel_rfl) (by kernel_rfl) (by kernel_rfl) (Eq.mp (S106_eq v0 K w) h)

def S107 (v0:Value) (K:Cont) (w:World):Prop:=
 LoopK [(.int .i64 1)] (fun vs again w1=>∀ _h:Env,
 lenK v0 fun t6=>
 ltK .i64 (nth vs 0) t6 fun t7=>
 condK t7
 (DrawK w1 (fun C=>
 subK .i64 (nth vs 0) (.int .i64 1) fun t12=>
 ixK 5 v0 t12 fun t13=>
 faK 0 t13 fun t14=>
 qld1K C t14 fun t15=>
 ixK 5 v0 (nth vs 0) fun t18=>
 faK 0 t18 fun t19=>
 qld1K C t19 fun t20=>
 geK .i64 t15 t20 fun t21=>
 ∀ w2:World,C w2→
 condK t21
 (K (.bool false) w2)
 (addK .i64 (nth vs 0) (.int .i64 1) fun t9=>
 again [t9] w2)))
 (K (.bool true) w1)) w
theorem S107_eq (v0:Value) (K:Cont) (w:World):S107 v0 K w=D Tryz.prog okf 22 (bodyOf Tryz.f107) (.node [] [] .nil (.node [] [] (.node [] [] .nil (.node [3] [(2,21)] (.node [] [] (.node [] [] .nil (.node [] [] .nil .nil)) (.node [] [] (.node [] [] .draw (.node [] [] (.node [] [] .nil .nil) .nil)) .nil)) .nil)) (.node [] [] .nil .nil))) (retK Tryz.prog [.tmp 2] K) (nth [v0]) w:=by kernel_rfl
theorem S107_ok {v0:Value} {K:Cont} {w:World} (h:S107 v0 K w):callK Tryz.prog 107 [v0] K w:=
 callK_of (P:=Tryz.prog) (ok:=okf) (n:=22) (fn:=Tryz.f107) (c:=bodyOf Tryz.f107) (rs:=[.tmp 2]) (an:=(.node [] [] .nil (.node [] [] (.node [] [] .nil (.node [3] [(2,21)] (.node [] [] (.node [] [] .nil (.node [] [] .nil .nil)) (.node [] [] (.node [] [] .draw (.node [] [] (.node [] [] .nil .nil) .nil)) .nil)) .nil)) (.node [] [] .nil .nil)))) good mixed Tryz.func107 (by kernel_rfl) (by kernel_rfl) (by kernel_rfl) (by kernel_rfl) (Eq.mp (S107_eq v0 K w) h)

def S108 (v0:Value) (K:Cont) (w:World):Prop:=
 boxnK 59 v0 (fun t1 w1=>
 faK 0 t1 fun t5=>
 ld1K t5 (fun t6 w2=>
 eqK .u8 t6 (.int .u8 1) fun t8=>
 condK t8
 (ldnK 4 t1 (fun t9 w3=>
 faK 1 t1 fun t10=>
 ld1K t10 (fun t11 w4=>
 buildK [(0,1),(1,1),(2,1),(3,1)] [(.int .u8 0),(.int .i64 0),(.int .u64 0),(.string (ByteArray.mk #[]))] [(0,(.int .u8 1)),(1,t11)] fun t12=>
 runK Tryz.prog (binS .eql 59 (.tmp 9) (.tmp 12) t9 t12) (fun t13 w5=>
 condK t13
 (faK 1 t1 fun t15=>
 ld1K t15 (fun t16 w6=>
 eqK .i64 t16 (.int .i64 0) fun t17=>
 condK t17
 (K (.bool true) w6)
 (faK 1 t1 fun t19=>
 ld1K t19 (fun t20 w7=>
 eqK .i64 t20 (.int .i64 1) fun t21=>
 K t21 w7) w6)) w5)
 (K (.bool false) w5)) w4) w3) w2)
 (eqK .u8 t6 (.int .u8 2) fun t25=>
 condK t25
 (ldnK 4 t1 (fun t26 w8=>
 faK 1 t1 fun t27=>
 ld1K t27 (fun t28 w9=>
 buildK [(0,1),(1,1),(2,1),(3,1)] [(.int .u8 0),(.int .i64 0),(.int .u64 0),(.string (ByteArray.mk #[]))] [(0,(.int .u8 2)),(1,t28)] fun t29=>
 runK Tryz.prog (binS .eql 59 (.tmp 26) (.tmp 29) t26 t29) (fun t30 w10=>
 K t30 w10) w9) w8) w2)
 (eqK .u8 t6 (.int .u8 3) fun t32=>
 condK t32
 (ldnK 4 t1 (fun t33 w11=>
 faK 2 t1 fun t34=>
 ld1K t34 (fun t35 w12=>
 buildK [(0,1),(1,1),(2,1),(3,1)] [(.int .u8 0),(.int .i64 0),(.int .u64 0),(.string (ByteArray.mk #[]))] [(0,(.int .u8 3)),(2,t35)] fun t36=>
 runK Tryz.prog (binS .eql 59 (.tmp 33) (.tmp 36) t33 t36) (fun t37 w13=>
 condK t37
 (faK 2 t1 fun t39=>
 ld1K t39 (fun t40 w14=>
 callK Tryz.prog 142 [t40] (fun t41 w15=>
 notK t41 fun t42=>
 condK t42
 (K (.bool true) w15)
 (faK 2 t1 fun t44=>
 ld1K t44 (fun t45 w16=>
 eqK .u64 t45 (.int .u64 9221120237041090560) fun t46=>
 K t46 w16) w15)) w14) w13)
 (K (.bool false) w13)) w12) w11) w2)
 (eqK .u8 t6 (.int .u8 4) fun t50=>
 condK t50
 (faK 3 t1 fun t52=>
 ld1K t52 (fun t53 w17=>
 runK Tryz.prog (convert 9 31 t53) (fun t54 w18=>
 callK Tryz.prog 36 [t54] (fun t55 w19=>
 extK 0 t55 fun _t56=>
 extK 1 t55 fun t57=>
 ldnK 4 t1 (fun t58 w20=>
 faK 3 t1 fun t59=>
 ld1K t59 (fun t60 w21=>
 buildK [(0,1),(1,1),(2,1),(3,1)] [(.int .u8 0),(.int .i64 0),(.int .u64 0),(.string (ByteArray.mk #[]))] [(0,(.int .u8 4)),(3,t60)] fun t61=>
 runK Tryz.prog (binS .eql 59 (.tmp 58) (.tmp 61) t58 t61) (fun t62 w22=>
 condK t62
 (faK 3 t1 fun t64=>
 ld1K t64 (fun t65 w23=>
 slenK t65 fun t66=>
 leK .i64 t66 (.int .i64 64) fun t67=>
 condK t67
 (eqK .i64 t57 (.int .i64 0) fun t71=>
 K t71 w23)
 (K (.bool false) w23)) w22)
 (K (.bool false) w22)) w21) w20) w19) w18) w17) w2)
 (K (.bool false) w2))))) w1) w
theorem S108_eq (v0:Value) (K:Cont) (w:World):S108 v0 K w=D Tryz.prog okf 73 (bodyOf Tryz.f108) (.node [] [] .nil (.node [] [] (.node [] [] .nil (.node [] [] .nil (.node [] [] (.node [] [] .nil .nil) (.node [] [] .nil (.node [] [] (.node [] [] .nil .nil) (.node [] [] .nil (.node [] [] (.node [] [] .nil .nil) (.node [] [] .nil (.node [] [] (.node [] [] .nil (.node [] [] .nil .nil)) .nil))))))))) (.node [] [] .nil .nil))) (retK Tryz.prog [.tmp 2] K) (nth [v0]) w:=by kernel_rfl
theorem S108_ok {v0:Value} {K:Cont} {w:World} (h:S108 v0 K w):callK Tryz.prog 108 [v0] K w:=
 callK_of (P:=Tryz.prog) (ok:=okf) (n:=73) (fn:=Tryz.f108) (c:=bodyOf Tryz.f108) (rs:=[.tmp 2]) (an:=(.node [] [] .nil (.node [] [] (.node [] [] .nil (.node [] [] .nil (.node [] [] (.node [] [] .nil .nil) (.node [] [] .nil (.node [] [] (.node [] [] .nil .nil) (.node [] [] .nil (.node [] [] (.node [] [] .nil .nil) (.node [] [] .nil (.node [] [] (.node [] [] .nil (.node [] [] .nil .nil)) .nil))))))))) (.node [] [] .nil .nil)))) good mixed Tryz.func108 (by kernel_rfl) (by kernel_rfl) (by kernel_rfl) (by kernel_rfl) (Eq.mp (S108_eq v0 K w) h)

def S109 (v0 v1 v2:Value) (K:Cont) (w:World):Prop:=
 boxnK 59 v2 (fun t5 w1=>
 callK Tryz.prog 111 [v0,v1] (fun t12 w2=>
 extK 0 t12 fun t13=>
 extK 1 t12 fun t14=>
 newK 43 [(.int .i64 0),(.bool false),(.int .u8 0),(.bool false),(.bool false),(.int .i64 0)] (fun t7 w3=>
 stnK 6 t7 t13 (fun w4=>
 condK t14
 (ldnK 4 t5 (fun t17 w5=>
 callK Tryz.prog 108 [t17] (fun t18 w6=>
 condK t18
 (faK 0 t5 fun t21=>
 ld1K t21 (fun t22 w7=>
 faK 2 t7 fun t23=>
 ld1K t23 (fun t24 w8=>
 eqK .u8 t22 t24 fun t25=>
 K t25 w8) w7) w6)
 (K (.bool false) w6)) w5) w4)
 (K (.bool false) w4)) w3) w2) w1) w
theorem S109_eq (v0 v1 v2:Value) (K:Cont) (w:World):S109 v0 v1 v2 K w=D Tryz.prog okf 27 (bodyOf Tryz.f109) (.node [] [] .nil (.node [] [] .nil (.node [] [] .nil .nil))) (retK Tryz.prog [.tmp 6] K) (nth [v0,v1,v2]) w:=by kernel_rfl
theorem S109_ok {v0 v1 v2:Value} {K:Cont} {w:World} (h:S109 v0 v1 v2 K w):callK Tryz.prog 109 [v0,v1,v2] K w:=
 callK_of (P:=Tryz.prog) (ok:=okf) (n:=27) (fn:=Tryz.f109) (c:=bodyOf Tryz.f109) (rs:=[.tmp 6]) (an:=(.node [] [] .nil (.node [] [] .nil (.node [] [] .nil .nil)))) good mixed Tryz.func109 (by kernel_rfl) (by kernel_rfl) (by kernel_rfl) (by kernel_rfl) (Eq.mp (S109_eq v0 v1 v2 K w) h)

def S110 (v0:Value) (K:Cont) (w:World):Prop:=
 LoopK [(.int .i64 1)] (fun vs again w1=>∀ _h:Env,
 lenK v0 fun t6=>
 ltK .i64 (nth vs 0) t6 fun t7=>
 condK t7
 (DrawK w1 (fun C=>
 subK .i64 (nth vs 0) (.int .i64 1) fun t12=>
 ixK 6 v0 t12 fun t13=>
 faK 0 t13 fun t14=>
 qld1K C t14 fun t15=>
 ixK 6 v0 (nth vs 0) fun t18=>
 faK 0 t18 fun t19=>
 qld1K C t19 fun t20=>
 geK .i64 t15 t20 fun t21=>
 ∀ w2:World,C w2→
 condK t21
 (K (.bool false) w2)
 (addK .i64 (nth vs 0) (.int .i64 1) fun t9=>
 again [t9] w2)))
 (K (.bool true) w1)) w
theorem S110_eq (v0:Value) (K:Cont) (w:World):S110 v0 K w=D Tryz.prog okf 22 (bodyOf Tryz.f110) (.node [] [] .nil (.node [] [] (.node [] [] .nil (.node [3] [(2,21)] (.node [] [] (.node [] [] .nil (.node [] [] .nil .nil)) (.node [] [] (.node [] [] .draw (.node [] [] (.node [] [] .nil .nil) .nil)) .nil)) .nil)) (.node [] [] .nil .nil))) (retK Tryz.prog [.tmp 2] K) (nth [v0]) w:=by kernel_rfl
theorem S110_ok {v0:Value} {K:Cont} {w:World} (h:S110 v0 K w):callK Tryz.prog 110 [v0] K w:=
 callK_of (P:=Tryz.prog) (ok:=okf) (n:=22) (fn:=Tryz.f110) (c:=bodyOf Tryz.f110) (rs:=[.tmp 2]) (an:=(.node [] [] .nil (.node [] [] (.node [] [] .nil (.node [3] [(2,21)] (.node [] [] (.node [] [] .nil (.node [] [] .nil .nil)) (.node [] [] (.node [] [] .draw (.node [] [] (.node [] [] .nil .nil) .nil)) .nil)) .nil)) (.node [] [] .nil .nil)))) good mixed Tryz.func110 (by kernel_rfl) (by kernel_rfl) (by kernel_rfl) (by kernel_rfl) (Eq.mp (S110_eq v0 K w) h)

def S111 (v0 v1:Value) (K:Cont) (w:World):Prop:=
 newK 43 [(.int .i64 0),(.bool false),(.int .u8 0),(.bool false),(.bool false),(.int .i64 0)] (fun t4 w1=>
 LoopK [(.int .i64 0)] (fun vs again w2=>∀ _h:Env,
 lenK v0 fun t9=>
 ltK .i64 (nth vs 0) t9 fun t10=>
 condK t10
 (ixK 6 v0 (nth vs 0) fun t15=>
 faK 0 t15 fun t16=>
 ld1K t16 (fun t17 w3=>
 eqK .i64 t17 v1 fun t19=>
 condK t19
 (ixK 6 v0 (nth vs 0) fun t22=>
 ldnK 6 t22 (fun t23 w4=>
 stnK 6 t4 t23 (fun w5=>
 ldnK 6 t4 (fun r0 w6=>
 K (.tuple #[r0,(.bool true)]) w6) w5) w4) w3)
 (addK .i64 (nth vs 0) (.int .i64 1) fun t12=>
 again [t12] w3)) w2)
 (buildK [(0,1),(1,1),(2,1),(3,1),(4,1),(5,1)] [(.int .i64 0),(.bool false),(.int .u8 0),(.bool false),(.bool false),(.int .i64 0)] [] fun t24=>
 stnK 6 t4 t24 (fun w7=>
 ldnK 6 t4 (fun r0_1 w8=>
 K (.tuple #[r0_1,(.bool false)]) w8) w7) w2)) w1) w
theorem S111_eq (v0 v1:Value) (K:Cont) (w:World):S111 v0 v1 K w=D Tryz.prog okf 25 (bodyOf Tryz.f111) (.node [] [] .nil (.node [] [] (.node [] [] .nil (.node [6] [(5,23)] (.node [] [] (.node [] [] .nil (.node [] [] .nil .nil)) (.node [] [] (.node [] [] .nil (.node [] [] (.node [] [] .nil .nil) .nil)) .nil)) .nil)) (.node [] [] .nil .nil))) (retK Tryz.prog [.cell 4 43,.tmp 5] K) (nth [v0,v1]) w:=by kernel_rfl
theorem S111_ok {v0 v1:Value} {K:Cont} {w:World} (h:S111 v0 v1 K w):callK Tryz.prog 111 [v0,v1] K w:=
 callK_of (P:=Tryz.prog) (ok:=okf) (n:=25) (fn:=Tryz.f111) (c:=bodyOf Tryz.f111) (rs:=[.cell 4 43,.tmp 5]) (an:=(.node [] [] .nil (.node [] [] (.node [] [] .nil (.node [6] [(5,23)] (.node [] [] (.node [] [] .nil (.node [] [] .nil .nil)) (.node [] [] (.node [] [] .nil (.node [] [] (.node [] [] .nil .nil) .nil)) .nil)) .nil)) (.node [] [] .nil .nil)))) good mixed Tryz.func111 (by kernel_rfl) (by kernel_rfl) (by kernel_rfl) (by kernel_rfl) (Eq.mp (S111_eq v0 v1 K w) h)

def S112 (v0:Value) (K:Cont) (w:World):Prop:=
 boxnK 56 v0 (fun t1 w1=>
 faK 0 t1 fun t3=>
 ld1K t3 (fun t4 w2=>
 eqK .u8 t4 (.int .u8 2) fun t5=>
 condK t5
 (faK 2 t1 fun t6=>
 ld1K t6 (fun t7 w3=>
 lenK t7 fun t8=>
 K t8 w3) w2)
 (faK 1 t1 fun t9=>
 ld1K t9 (fun t10 w4=>
 K t10 w4) w2)) w1) w
theorem S112_eq (v0:Value) (K:Cont) (w:World):S112 v0 K w=D Tryz.prog okf 11 (bodyOf Tryz.f112) (.node [] [] .nil (.node [] [] (.node [] [] .nil (.node [] [] (.node [] [] .nil .nil) .nil)) (.node [] [] .nil .nil))) (retK Tryz.prog [.tmp 2] K) (nth [v0]) w:=by kernel_rfl
theorem S112_ok {v0:Value} {K:Cont} {w:World} (h:S112 v0 K w):callK Tryz.prog 112 [v0] K w:=
 callK_of (P:=Tryz.prog) (ok:=okf) (n:=11) (fn:=Tryz.f112) (c:=bodyOf Tryz.f112) (rs:=[.tmp 2]) (an:=(.node [] [] .nil (.node [] [] (.node [] [] .nil (.node [] [] (.node [] [] .nil .nil) .nil)) (.node [] [] .nil .nil)))) good mixed Tryz.func112 (by kernel_rfl) (by kernel_rfl) (by kernel_rfl) (by kernel_rfl) (Eq.mp (S112_eq v0 K w) h)

def S142 (v0:Value) (K:Cont) (w:World):Prop:=
 runK Tryz.prog (binS .rem 57 (.tmp 3) (.const (.int .u64 9223372036854775808)) v0 (.int .u64 9223372036854775808)) (fun t4 w1=>
 gtK .u64 t4 (.int .u64 9218868437227405312) fun t5=>
 K t5 w1) w
theorem S142_eq (v0:Value) (K:Cont) (w:World):S142 v0 K w=D Tryz.prog okf 6 (bodyOf Tryz.f142) (.node [] [] .nil (.node [] [] .nil .nil)) (retK Tryz.prog [.tmp 2] K) (nth [v0]) w:=by kernel_rfl
theorem S142_ok {v0:Value} {K:Cont} {w:World} (h:S142 v0 K w):callK Tryz.prog 142 [v0] K w:=
 callK_of (P:=Tryz.prog) (ok:=okf) (n:=6) (fn:=Tryz.f142) (c:=bodyOf Tryz.f142) (rs:=[.tmp 2]) (an:=(.node [] [] .nil (.node [] [] .nil .nil))) good mixed Tryz.func142 (by kernel_rfl) (by kernel_rfl) (by kernel_rfl) (by kernel_rfl) (Eq.mp (S142_eq v0 K w) h)

def S36 (v0:Value) (K:Cont) (w:World):Prop:=
 LoopK [(.slice none 0 0),(.int .i64 0)] (fun vs again w1=>∀ _h:Env,
 lenK v0 fun t10=>
 ltK .i64 (nth vs 1) t10 fun t11=>
 condK t11
 (runK Tryz.prog (Instr.sliceAt 31 v0 (some (nth vs 1)) none none) (fun t15 w2=>
 callK Tryz.prog 75 [t15] (fun t16 w3=>
 extK 0 t16 fun t17=>
 extK 1 t16 fun t18=>
 eqK .i64 t18 (.int .i64 0) fun t20=>
 condK t20
 (K (.tuple #[(.slice none 0 0),(.int .i64 3)]) w3)
 (rowK 21 1 1 [(.int .i32 0)] [(0,t17)] (fun t23 w4=>
 runK Tryz.prog (Builtin.append_ #[52,52] 52 [(nth vs 0),t23].toArray) (fun t24 w5=>
 addK .i64 (nth vs 1) t18 fun t27=>
 again [t24,t27] w5) w4) w3)) w2) w1)
 (K (.tuple #[(nth vs 0),(.int .i64 0)]) w1)) w
theorem S36_eq (v0:Value) (K:Cont) (w:World):S36 v0 K w=D Tryz.prog okf 29 (bodyOf Tryz.f36) (.node [] [] .nil (.node [] [] .nil (.node [] [] (.node [] [] .nil (.node [4,5] [(2,27)] (.node [] [] (.node [] [] .nil (.node [] [] .nil .nil)) (.node [] [] .nil (.node [] [] (.node [] [] .nil (.node [] [] (.node [] [] .nil .nil) .nil)) (.node [] [] .nil .nil)))) .nil)) (.node [] [] .nil .nil)))) (retK Tryz.prog [.tmp 2,.tmp 3] K) (nth [v0]) w:=by kernel_rfl
theorem S36_ok {v0:Value} {K:Cont} {w:World} (h:S36 v0 K w):callK Tryz.prog 36 [v0] K w:=
 callK_of (P:=Tryz.prog) (ok:=okf) (n:=29) (fn:=Tryz.f36) (c:=bodyOf Tryz.f36) (rs:=[.tmp 2,.tmp 3]) (an:=(.node [] [] .nil (.node [] [] .nil (.node [] [] (.node [] [] .nil (.node [4,5] [(2,27)] (.node [] [] (.node [] [] .nil (.node [] [] .nil .nil)) (.node [] [] .nil (.node [] [] (.node [] [] .nil (.node [] [] (.node [] [] .nil .nil) .nil)) (.node [] [] .nil .nil)))) .nil)) (.node [] [] .nil .nil))))) good mixed Tryz.func36 (by kernel_rfl) (by kernel_rfl) (by kernel_rfl) (by kernel_rfl) (Eq.mp (S36_eq v0 K w) h)

def S75 (v0:Value) (K:Cont) (w:World):Prop:=
 ixK 1 v0 (.int .i64 0) fun t8=>
 ld1K t8 (fun t9 w1=>
 runK Tryz.prog (convert 5 21 t9) (fun t10 w2=>
 JoinK (fun vs w3=>∀ _h:Env,
 lenK v0 fun t47=>
 ltK .i64 t47 (nth vs 0) fun t49=>
 condK t49
 (K (.tuple #[(.int .i32 0),(.int .i64 0)]) w3)
 (LoopK [(nth vs 1),(.int .i64 1)] (fun vs_1 again w4=>∀ _h_1:Env,
 ltK .i64 (nth vs_1 1) (nth vs 0) fun t52=>
 condK t52
 (JoinK (fun _vs_2 w5=>∀ _h_2:Env,
 mulK .i32 (nth vs_1 0) (.int .i32 64) fun t68=>
 ixK 1 v0 (nth vs_1 1) fun t71=>
 ld1K t71 (fun t72 w6=>
 runK Tryz.prog (convert 5 21 t72) (fun t73 w7=>
 addK .i32 t68 t73 fun t74=>
 subK .i32 t74 (.int .i32 128) fun t75=>
 addK .i64 (nth vs_1 1) (.int .i64 1) fun t54=>
 again [t75,t54] w7) w6) w5) (fun J_1=>
 ixK 1 v0 (nth vs_1 1) fun t57=>
 ld1K t57 (fun t58 w8=>
 ltK .u8 t58 (.int .u8 128) fun t59=>
 condK t59
 (K (.tuple #[(.int .i32 0),(.int .i64 0)]) w8)
 (ixK 1 v0 (nth vs_1 1) fun t63=>
 ld1K t63 (fun t64 w9=>
 gtK .u8 t64 (.int .u8 191) fun t65=>
 condK t65
 (K (.tuple #[(.int .i32 0),(.int .i64 0)]) w9)
 (J_1 [] w9)) w8)) w4))
 (callK Tryz.prog 106 [(nth vs_1 0)] (fun t77 w10=>
 notK t77 fun t78=>
 condK t78
 (K (.tuple #[(.int .i32 0),(.int .i64 0)]) w10)
 (callK Tryz.prog 114 [(nth vs_1 0)] (fun t81 w11=>
 lenK t81 fun t82=>
 neK .i64 t82 (nth vs 0) fun t84=>
 condK t84
 (K (.tuple #[(.int .i32 0),(.int .i64 0)]) w11)
 (K (.tuple #[(nth vs_1 0),(nth vs 0)]) w11)) w10)) w4)) w3)) (fun J=>
 ixK 1 v0 (.int .i64 0) fun t13=>
 ld1K t13 (fun t14 w12=>
 geK .u8 t14 (.int .u8 240) fun t15=>
 condK t15
 (ixK 1 v0 (.int .i64 0) fun t17=>
 ld1K t17 (fun t18 w13=>
 runK Tryz.prog (convert 5 21 t18) (fun t19 w14=>
 subK .i32 t19 (.int .i32 240) fun t20=>
 J [(.int .i64 4),t20] w14) w13) w12)
 (ixK 1 v0 (.int .i64 0) fun t23=>
 ld1K t23 (fun t24 w15=>
 geK .u8 t24 (.int .u8 224) fun t25=>
 condK t25
 (ixK 1 v0 (.int .i64 0) fun t27=>
 ld1K t27 (fun t28 w16=>
 runK Tryz.prog (convert 5 21 t28) (fun t29 w17=>
 subK .i32 t29 (.int .i32 224) fun t30=>
 J [(.int .i64 3),t30] w17) w16) w15)
 (ixK 1 v0 (.int .i64 0) fun t33=>
 ld1K t33 (fun t34 w18=>
 geK .u8 t34 (.int .u8 192) fun t35=>
 condK t35
 (ixK 1 v0 (.int .i64 0) fun t37=>
 ld1K t37 (fun t38 w19=>
 runK Tryz.prog (convert 5 21 t38) (fun t39 w20=>
 subK .i32 t39 (.int .i32 192) fun t40=>
 J [(.int .i64 2),t40] w20) w19) w18)
 (ixK 1 v0 (.int .i64 0) fun t43=>
 ld1K t43 (fun t44 w21=>
 geK .u8 t44 (.int .u8 128) fun t45=>
 condK t45
 (K (.tuple #[(.int .i32 0),(.int .i64 0)]) w21)
 (J [(.int .i64 1),t10] w21)) w18)) w15)) w12)) w2)) w1) w
theorem S75_eq (v0:Value) (K:Cont) (w:World):S75 v0 K w=D Tryz.prog okf 88 (bodyOf Tryz.f75) (.node [] [] .nil (.node [] [] .nil (.node [] [] .nil (.cut [4,5] [(2,5),(11,45)] (.node [] [] .nil (.node [] [] (.node [] [] .nil .nil) (.node [] [] .nil (.node [] [] (.node [] [] .nil .nil) (.node [] [] .nil (.node [] [] (.node [] [] .nil .nil) (.node [] [] .nil (.node [] [] (.node [] [] .nil .nil) .nil)))))))) (.node [] [] (.node [] [] .nil (.node [] [] (.node [] [] .nil .nil) .nil)) (.node [] [] (.node [] [] .nil (.node [5,6] [(2,3),(5,6),(50,75)] (.node [] [] (.node [] [] .nil (.node [] [] .nil .nil)) (.node [] [] (.cut [] [(2,3),(55,66)] (.node [] [] .nil (.node [] [] (.node [] [] .nil .nil) .nil)) .nil) .nil)) .nil)) (.node [] [] (.node [] [] .nil (.node [] [] (.node [] [] .nil .nil) .nil)) (.node [] [] .nil .nil)))))))) (retK Tryz.prog [.tmp 2,.tmp 3] K) (nth [v0]) w:=by kernel_rfl
theorem S75_ok {v0:Value} {K:Cont} {w:World} (h:S75 v0 K w):callK Tryz.prog 75 [v0] K w:=
 callK_of (P:=Tryz.prog) (ok:=okf) (n:=88) (fn:=Tryz.f75) (c:=bodyOf Tryz.f75) (rs:=[.tmp 2,.tmp 3]) (an:=(.node [] [] .nil (.node [] [] .nil (.node [] [] .nil (.cut [4,5] [(2,5),(11,45)] (.node [] [] .nil (.node [] [] (.node [] [] .nil .nil) (.node [] [] .nil (.node [] [] (.node [] [] .nil .nil) (.node [] [] .nil (.node [] [] (.node [] [] .nil .nil) (.node [] [] .nil (.node [] [] (.node [] [] .nil .nil) .nil)))))))) (.node [] [] (.node [] [] .nil (.node [] [] (.node [] [] .nil .nil) .nil)) (.node [] [] (.node [] [] .nil (.node [5,6] [(2,3),(5,6),(50,75)] (.node [] [] (.node [] [] .nil (.node [] [] .nil .nil)) (.node [] [] (.cut [] [(2,3),(55,66)] (.node [] [] .nil (.node [] [] (.node [] [] .nil .nil) .nil)) .nil) .nil)) .nil)) (.node [] [] (.node [] [] .nil (.node [] [] (.node [] [] .nil .nil) .nil)) (.node [] [] .nil .nil))))))))) good mixed Tryz.func75 (by kernel_rfl) (by kernel_rfl) (by kernel_rfl) (by kernel_rfl) (Eq.mp (S75_eq v0 K w) h)

def S114 (v0:Value) (K:Cont) (w:World):Prop:=
 ltK .i32 v0 (.int .i32 128) fun t5=>
 condK t5
 (runK Tryz.prog (convert 21 5 v0) (fun t7 w1=>
 rowK 5 1 1 [(.int .u8 0)] [(0,t7)] (fun t8 w2=>
 K t8 w2) w1) w)
 (ltK .i32 v0 (.int .i32 2048) fun t11=>
 condK t11
 (runK Tryz.prog (binS .quo 21 (.tmp 12) (.const (.int .i32 64)) v0 (.int .i32 64)) (fun t13 w3=>
 addK .i32 (.int .i32 192) t13 fun t14=>
 runK Tryz.prog (convert 21 5 t14) (fun t15 w4=>
 callK Tryz.prog 143 [v0] (fun t17 w5=>
 rowK 5 1 2 [(.int .u8 0)] [(0,t15),(1,t17)] (fun t18 w6=>
 K t18 w6) w5) w4) w3) w)
 (ltK .i32 v0 (.int .i32 65536) fun t21=>
 condK t21
 (runK Tryz.prog (binS .quo 21 (.tmp 22) (.const (.int .i32 4096)) v0 (.int .i32 4096)) (fun t23 w7=>
 addK .i32 (.int .i32 224) t23 fun t24=>
 runK Tryz.prog (convert 21 5 t24) (fun t25 w8=>
 runK Tryz.prog (binS .quo 21 (.tmp 26) (.const (.int .i32 64)) v0 (.int .i32 64)) (fun t27 w9=>
 callK Tryz.prog 143 [t27] (fun t28 w10=>
 callK Tryz.prog 143 [v0] (fun t30 w11=>
 rowK 5 1 3 [(.int .u8 0)] [(0,t25),(1,t28),(2,t30)] (fun t31 w12=>
 K t31 w12) w11) w10) w9) w8) w7) w)
 (runK Tryz.prog (binS .quo 21 (.tmp 32) (.const (.int .i32 262144)) v0 (.int .i32 262144)) (fun t33 w13=>
 addK .i32 (.int .i32 240) t33 fun t34=>
 runK Tryz.prog (convert 21 5 t34) (fun t35 w14=>
 runK Tryz.prog (binS .quo 21 (.tmp 36) (.const (.int .i32 4096)) v0 (.int .i32 4096)) (fun t37 w15=>
 callK Tryz.prog 143 [t37] (fun t38 w16=>
 runK Tryz.prog (binS .quo 21 (.tmp 39) (.const (.int .i32 64)) v0 (.int .i32 64)) (fun t40 w17=>
 callK Tryz.prog 143 [t40] (fun t41 w18=>
 callK Tryz.prog 143 [v0] (fun t43 w19=>
 rowK 5 1 4 [(.int .u8 0)] [(0,t35),(1,t38),(2,t41),(3,t43)] (fun t44 w20=>
 K t44 w20) w19) w18) w17) w16) w15) w14) w13) w)))
theorem S114_eq (v0:Value) (K:Cont) (w:World):S114 v0 K w=D Tryz.prog okf 45 (bodyOf Tryz.f114) (.node [] [] .nil (.node [] [] (.node [] [] .nil (.node [] [] (.node [] [] .nil .nil) (.node [] [] .nil (.node [] [] (.node [] [] .nil .nil) (.node [] [] .nil (.node [] [] (.node [] [] .nil .nil) .nil)))))) (.node [] [] .nil .nil))) (retK Tryz.prog [.tmp 2] K) (nth [v0]) w:=by kernel_rfl
theorem S114_ok {v0:Value} {K:Cont} {w:World} (h:S114 v0 K w):callK Tryz.prog 114 [v0] K w:=
 callK_of (P:=Tryz.prog) (ok:=okf) (n:=45) (fn:=Tryz.f114) (c:=bodyOf Tryz.f114) (rs:=[.tmp 2]) (an:=(.node [] [] .nil (.node [] [] (.node [] [] .nil (.node [] [] (.node [] [] .nil .nil) (.node [] [] .nil (.node [] [] (.node [] [] .nil .nil) (.node [] [] .nil (.node [] [] (.node [] [] .nil .nil) .nil)))))) (.node [] [] .nil .nil)))) good mixed Tryz.func114 (by kernel_rfl) (by kernel_rfl) (by kernel_rfl) (by kernel_rfl) (Eq.mp (S114_eq v0 K w) h)

def S143 (v0:Value) (K:Cont) (w:World):Prop:=
 runK Tryz.prog (binS .rem 21 (.tmp 3) (.const (.int .i32 64)) v0 (.int .i32 64)) (fun t4 w1=>
 addK .i32 (.int .i32 128) t4 fun t5=>
 runK Tryz.prog (convert 21 5 t5) (fun t6 w2=>
 K t6 w2) w1) w
theorem S143_eq (v0:Value) (K:Cont) (w:World):S143 v0 K w=D Tryz.prog okf 7 (bodyOf Tryz.f143) (.node [] [] .nil (.node [] [] .nil .nil)) (retK Tryz.prog [.tmp 2] K) (nth [v0]) w:=by kernel_rfl
theorem S143_ok {v0:Value} {K:Cont} {w:World} (h:S143 v0 K w):callK Tryz.prog 143 [v0] K w:=
 callK_of (P:=Tryz.prog) (ok:=okf) (n:=7) (fn:=Tryz.f143) (c:=bodyOf Tryz.f143) (rs:=[.tmp 2]) (an:=(.node [] [] .nil (.node [] [] .nil .nil))) good mixed Tryz.func143 (by kernel_rfl) (by kernel_rfl) (by kernel_rfl) (by kernel_rfl) (Eq.mp (S143_eq v0 K w) h)

end Go.Proofs.YtgmpbihbdbmhoaaGreatDoor

namespace Go.K
open Go
theorem clone_g {α:Type} {P:Program} {t e k bytes:Nat} {R:World→List Value→α→Prop} {S:Nat→Prop} {w:World} {v:Value} {l:List α} {K:Cont} (hE:ElemOK P t e k bytes) (h:SlR S k R w v l) (hl:l.length * bytes≤140737488355328)
  (hone:∀ w r y,R w r y→∀ u ∈ r,u.oneCell'=true) (hR:∀ w1 w2 r y,w.heap.size≤w1.heap.size→Mod (fun b=>w.heap.size≤b) w1 w2→R w1 r y→R w2 r y)
  (hK:∀ v' w',OwnR w.heap.size e k R w' v' l→Grow w w'→K v' w') :
  snilK v fun b4=>condK (.bool b4) (K (.slice none 0 0) w) (rowK e k 0 [] [] (fun t5 w1=>runK P (Builtin.append_ #[t,t] t [t5,v].toArray) (fun t7 w2=>K t7 w2) w1) w):=by
 obtain ⟨a,c,rfl,hm⟩:=h.shape
 have hk:=hE
 obtain ⟨_,_,_,_,_,_,_,_,hk0⟩:=hk
 cases a with
 | none=>
  simp only [KS]
  have:l=[]:=by
   cases l with
   | nil=>rfl
   | cons x l=>obtain ⟨p,r,e,_⟩:=h.get (i:=0) (by simp);cases e
  subst this
  exact hK _ _ OwnR.nil (Mod.refl _ _)
 | some p=>
  simp only [KS]
  refine rowK_empty ?_
  have hg:Grow w (w.alloc (.cells #[] e)):=Mod.alloc _ _ _
  have ho:OwnR w.heap.size e k R (w.alloc (.cells #[] e)) (.slice (some ⟨w.heap.size,0,none⟩) 0 0) ([]:List α):=OwnR.made (Nat.le_refl _)
  obtain ⟨v',w',h1,h2,h3,h4⟩:=OwnR.append (ty:=t) hE ho ((h.old hk0).grow hg hk0 fun r x hx=>hR _ _ _ _ (Nat.le_refl _) hg.mod hx) (fun _ _=>hone _ _ _) (by simpa using hl) (by simp) (by simpa using hm) (fun w' hg' r y hy=>hR _ _ _ _ hg.size ((Mod.of_grownBy hg').mono fun b _ e=>by simp only [Value.ownBlock,Option.some.injEq] at e;omega) hy)
  refine runK_i h1 (hK _ _ ?_ (hg.next (Mod.of_grownBy h3) ?_))
  ·refine h2.base fun g hg'=>?_
   rcases h4 g hg' with h | h
   ·cases h;exact Nat.le_refl _
   ·simp only [World.size_alloc] at h;omega
  ·intro b hb e;simp only [Value.ownBlock,Option.some.injEq] at e;omega
theorem condK_neg {p:Prop} [Decidable p] {A B:Prop} (h1:p→B) (h2:¬ p→A):condK (.bool (!decide p)) A B:=by
 by_cases h:p
 ·rw [decide_eq_true h];exact h1 h
 ·rw [decide_eq_false h];exact h2 h
theorem eq_loop {α:Type} [DecidableEq α] {P:Program} {k:Nat} {R R':World→List Value→α→Prop} {S S':Nat→Prop} {w:World} {a b:Option Addr} {ca cb:Nat} {l m:List α} {K:Cont} {bin:Value→Value→Sem Value}
  (ha:SlR S k R w (.slice a l.length ca) l) (hb:SlR S' k R' w (.slice b m.length cb) m) (hlen:l.length=m.length) (hm:l.length≤maxLen)
  (hbin:∀ r r' x y w1,R w r x→R' w r' y→(bin (.agg r.toArray) (.agg r'.toArray)).run P w1=.ok (.bool (!decide (x=y))) w1)
  (hK:∀ w',Grow w w'→K (.bool (decide (l=m))) w') :
  LoopK [(.int .i64 0)] (fun vs again w1=>∀ _:Env,ltK .i64 (nth vs 0) (.int .i64 l.length) fun t14=>condK t14
   (DrawK w1 (fun C=>ixK k (.slice a l.length ca) (nth vs 0) fun t18=>qldnK C k t18 fun t19=>ixK k (.slice b m.length cb) (nth vs 0) fun t22=>qldnK C k t22 fun t23=>qrunK P C (bin t19 t23) fun t24=>
    ∀ w2:World,C w2→condK t24 (K (.bool false) w2) (addK .i64 (nth vs 0) (.int .i64 1) fun t25=>again [t25] w2)))
   (K (.bool true) w1)) w:=by
 simp only [maxLen] at hm
 refine LoopK_i (fun vs w'=>∃ k:Nat,k≤l.length∧vs=[.int .i64 k]∧Grow w w'∧l.take k=m.take k) (fun vs _=>l.length - iOf vs 0) ⟨0,Nat.zero_le _,rfl,Mod.refl _ _,rfl⟩ ?_
 rintro vs w1 ⟨q,hq,rfl,hg,ht⟩ h
 simp only [KS]
 by_cases hlt:q < l.length
 ·rw [if_pos (show (q:Int) < l.length by omega)]
  refine ⟨fun w2=>Grow w1 w2,Mod.drew _ _,?_⟩
  obtain ⟨p,r,rfl,_,hr,hc,hx⟩:=ha.get hlt
  obtain ⟨p',r',rfl,_,hr',hc',hx'⟩:=hb.get (show q < m.length by omega)
  refine ixK_n hlt (qldnK_i hr (fun w2 h2 j u hu=>?_) ?_)
  ·rw [Addr.add_add];exact h2.cell (hg.cell (hc j u hu) (fun h=>h)) (fun h=>h)
  refine ixK_n (by omega) (qldnK_i hr' (fun w2 h2 j u hu=>?_) ?_)
  ·rw [Addr.add_add];exact h2.cell (hg.cell (hc' j u hu) (fun h=>h)) (fun h=>h)
  refine ⟨_,fun w2 _=>hbin _ _ _ _ w2 hx hx',fun w2 h2=>?_⟩
  simp only [KS]
  by_cases he:l[q]=m[q]
  ·rw [if_neg (fun h=>h he)]
   refine ⟨⟨q+1,by omega,by rw [wrap64 (by omega) (by omega)];rfl,hg.trans h2,?_⟩,?_⟩
   ·rw [List.take_add_one,List.take_add_one,ht]
    simp [hlt,show q < m.length by omega,he]
   ·simp only [iOf,nth,List.headD_cons];rw [wrap64 (by omega) (by omega)];omega
  ·rw [if_pos he]
   have:decide (l=m)=false:=by rw [decide_eq_false_iff_not];intro e;subst e;exact he rfl
   rw [←this];exact hK _ (hg.trans h2)
 ·rw [if_neg (show ¬ (q:Int) < l.length by omega)]
  have:q=l.length:=by omega
  subst this
  rw [List.take_length,hlen,List.take_length] at ht
  have:decide (l=m)=true:=by rw [decide_eq_true_eq];exact ht
  rw [←this];exact hK _ hg
theorem eq_loop1 {q:IntKind} {R:World→List Value→Int→Prop} {S S':Nat→Prop} {w:World} {a b:Option Addr} {ca cb:Nat} {l m:List Int} {K:Cont}
  (ha:SlR S 1 R w (.slice a l.length ca) l) (hb:SlR S' 1 R w (.slice b m.length cb) m) (hlen:l.length=m.length) (hm:l.length≤maxLen)
  (hRi:∀ r x,R w r x→r=[.int q x])
  (hK:∀ w',Grow w w'→K (.bool (decide (l=m))) w') :
  LoopK [(.int .i64 0)] (fun vs again w1=>∀ _:Env,ltK .i64 (nth vs 0) (.int .i64 l.length) fun t14=>condK t14
   (DrawK w1 (fun C=>ixK 1 (.slice a l.length ca) (nth vs 0) fun t18=>qld1K C t18 fun t19=>ixK 1 (.slice b m.length cb) (nth vs 0) fun t22=>qld1K C t22 fun t23=>neK q t19 t23 fun t24=>
    ∀ w2:World,C w2→condK t24 (K (.bool false) w2) (addK .i64 (nth vs 0) (.int .i64 1) fun t25=>again [t25] w2)))
   (K (.bool true) w1)) w:=by
 simp only [maxLen] at hm
 refine LoopK_i (fun vs w'=>∃ k:Nat,k≤l.length∧vs=[.int .i64 k]∧Grow w w'∧l.take k=m.take k) (fun vs _=>l.length - iOf vs 0) ⟨0,Nat.zero_le _,rfl,Mod.refl _ _,rfl⟩ ?_
 rintro vs w1 ⟨i,hi,rfl,hg,ht⟩ h
 simp only [KS]
 by_cases hlt:i < l.length
 ·rw [if_pos (show (i:Int) < l.length by omega)]
  refine ⟨fun w2=>Grow w1 w2,Mod.drew _ _,?_⟩
  obtain ⟨p,r,rfl,_,hr,hc,hx⟩:=ha.get hlt
  obtain ⟨p',r',rfl,_,hr',hc',hx'⟩:=hb.get (show i < m.length by omega)
  obtain rfl:=hRi _ _ hx
  obtain rfl:=hRi _ _ hx'
  refine ixK_n hlt (qld1K_i (v:=.int q l[i]) (fun w2 h2=>h2.cell (hg.cell (hc 0 _ rfl) fun h=>h) fun h=>h) ?_)
  refine ixK_n (by omega) (qld1K_i (v:=.int q m[i]) (fun w2 h2=>h2.cell (hg.cell (hc' 0 _ rfl) fun h=>h) fun h=>h) ?_)
  simp only [KS]
  intro w2 h2
  by_cases he:l[i]=m[i]
  ·rw [if_neg (fun h=>h he)]
   refine ⟨⟨i+1,by omega,by rw [wrap64 (by omega) (by omega)];rfl,hg.trans h2,?_⟩,?_⟩
   ·rw [List.take_add_one,List.take_add_one,ht]
    simp [hlt,show i < m.length by omega,he]
   ·simp only [iOf,nth,List.headD_cons];rw [wrap64 (by omega) (by omega)];omega
  ·rw [if_pos he]
   have:decide (l=m)=false:=by rw [decide_eq_false_iff_not];intro e;subst e;exact he rfl
   rw [←this];exact hK _ (hg.trans h2)
 ·rw [if_neg (show ¬ (i:Int) < l.length by omega)]
  have:i=l.length:=by omega
  subst this
  rw [List.take_length,hlen,List.take_length] at ht
  have:decide (l=m)=true:=by rw [decide_eq_true_eq];exact ht
  rw [←this];exact hK _ hg
end Go.K
namespace Go.Proofs.YtgmpbihbdbmhoaaGreatDoor
open Go Go.K
theorem clone_run {S:Nat→Prop} {v:Value} {l:List Int} {w:World} (h:SlR S 1 RRune w v l) (hl:l.length * 4≤140737488355328) :
  callK Tryz.prog 95 [v] (fun v' w'=>OwnR w.heap.size 21 1 RRune w' v' l∧Grow w w') w:=by
 apply S95_ok
 unfold S95
 exact clone_g elem_rune h hl (fun _ _ _=>RRune.one) (fun _ _ _ _ _ _ h=>h) fun v' w' h1 h2=>And.intro h1 h2
theorem clone_pat {S:Nat→Prop} {v:Value} {l:List Chg} {w:World} (h:SlR S 6 RChg w v l) (hl:l.length * 56≤140737488355328) :
  callK Tryz.prog 135 [v] (fun v' w'=>OwnR w.heap.size 63 6 RChg w' v' l∧Grow w w') w:=by
 apply S135_ok
 unfold S135
 exact clone_g elem_chg h hl (fun _ _ _=>RChg.one) (fun _ _ _ _ _ _ h=>h) fun v' w' h1 h2=>And.intro h1 h2
theorem RDops.old {S D:Nat→Prop} {w:World} {v:Value} {l:List Dop} (h:RDops S D w v l):RDops (fun b=>S b∧b < w.heap.size) (fun b=>D b∧b < w.heap.size) w v l:=
 SlR.sub h (fun b hb h=>⟨h,hb⟩) (by decide) fun r x hx=>hx.mod (Mod.refl (fun _=>False) _) (fun _ _ _ h=>h) fun b hb h=>⟨h,hb⟩
theorem clone_dops {S D:Nat→Prop} {v:Value} {l:List Dop} {w:World} (h:RDops S D w v l) (hl:l.length * 88≤140737488355328) :
  callK Tryz.prog 133 [v] (fun v' w'=>OwnR w.heap.size 56 5 (RDop fun b=>D b∧b < w.heap.size) w' v' l∧Grow w w') w:=by
 apply S133_ok
 unfold S133
 exact clone_g elem_dop h.old hl (fun _ _ _=>RDop.one) (fun w1 w2 r y hz hm hy=>hy.mod hm (fun b _ hd hb=>by omega) fun _ _ h=>h) fun v' w' h1 h2=>And.intro h1 h2
theorem copy_pat {S:Nat→Prop} {v:Value} {l:List Chg} {w:World} (h:RPat S w v l) (hl:l.length * 56≤140737488355328) :
  callK Tryz.prog 93 [v] (fun v' w'=>OwnR w.heap.size 63 6 RChg w' v' l∧Grow w w') w:=by
 apply S93_ok
 exact clone_pat h hl
theorem eq_run {S S':Nat→Prop} {a b:Value} {l m:List Int} {w:World} (ha:SlR S 1 RRune w a l) (hb:SlR S' 1 RRune w b m) :
  callK Tryz.prog 122 [a,b] (fun v w'=>v=.bool (decide (l=m))∧Grow w w') w:=by
 apply S122_ok
 unfold S122
 obtain ⟨pa,ca,rfl,hla⟩:=ha.shape
 obtain ⟨pb,cb,rfl,hlb⟩:=hb.shape
 simp only [lenK_i]
 rw [neK_i]
 refine condK_neg (fun hlen=>?_) fun hlen=>?_
 ·exact eq_loop1 (K:=fun v w'=>v=.bool (decide (l=m))∧Grow w w') ha hb (by omega) hla (fun _ _ h=>h) fun _ hg=>⟨rfl,hg⟩
 ·refine ⟨?_,Mod.refl _ _⟩
  congr 1;symm
  rw [decide_eq_false_iff_not]
  intro e;exact hlen (by rw [e])
theorem rsame_run {S S':Nat→Prop} {a b:Value} {l m:List Int} {w:World} (ha:SlR S 1 RRune w a l) (hb:SlR S' 1 RRune w b m) :
  callK Tryz.prog 26 [a,b] (fun v w'=>v=.bool (decide (l=m))∧Grow w w') w:=by
 apply S26_ok
 unfold S26
 obtain ⟨pa,ca,rfl,hla⟩:=ha.shape
 obtain ⟨pb,cb,rfl,hlb⟩:=hb.shape
 simp only [lenK_i]
 rw [neK_i]
 refine condK_neg (fun hlen=>?_) fun hlen=>?_
 ·exact eq_loop1 (K:=fun v w'=>v=.bool (decide (l=m))∧Grow w w') ha hb (by omega) hla (fun _ _ h=>h) fun _ hg=>⟨rfl,hg⟩
 ·refine ⟨?_,Mod.refl _ _⟩
  congr 1;symm
  rw [decide_eq_false_iff_not]
  intro e;exact hlen (by rw [e])
theorem eq_pat {S S':Nat→Prop} {a b:Value} {l m:List Chg} {w:World} (ha:SlR S 6 RChg w a l) (hb:SlR S' 6 RChg w b m) :
  callK Tryz.prog 134 [a,b] (fun v w'=>v=.bool (decide (l=m))∧Grow w w') w:=by
 apply S134_ok
 unfold S134
 obtain ⟨pa,ca,rfl,hla⟩:=ha.shape
 obtain ⟨pb,cb,rfl,hlb⟩:=hb.shape
 simp only [lenK_i]
 rw [neK_i]
 refine condK_neg (fun hlen=>?_) fun hlen=>?_
 ·exact eq_loop (K:=fun v w'=>v=.bool (decide (l=m))∧Grow w w') (bin:=fun x y=>binS .neq 63 _ _ x y) ha hb (by omega) hla (fun r r' x y w1 hx hy=>by subst hx;subst hy;exact run_ne_chg _ _ _ _ w1) fun _ hg=>⟨rfl,hg⟩
 ·refine ⟨?_,Mod.refl _ _⟩
  congr 1;symm
  rw [decide_eq_false_iff_not]
  intro e;exact hlen (by rw [e])
theorem rsame_pat {S S':Nat→Prop} {a b:Value} {l m:List Chg} {w:World} (ha:SlR S 6 RChg w a l) (hb:SlR S' 6 RChg w b m) :
  callK Tryz.prog 28 [a,b] (fun v w'=>v=.bool (decide (l=m))∧Grow w w') w:=by
 apply S28_ok
 unfold S28
 obtain ⟨pa,ca,rfl,hla⟩:=ha.shape
 obtain ⟨pb,cb,rfl,hlb⟩:=hb.shape
 simp only [lenK_i]
 rw [neK_i]
 refine condK_neg (fun hlen=>?_) fun hlen=>?_
 ·exact eq_loop (K:=fun v w'=>v=.bool (decide (l=m))∧Grow w w') (bin:=fun x y=>binS .neq 63 _ _ x y) ha hb (by omega) hla (fun r r' x y w1 hx hy=>by subst hx;subst hy;exact run_ne_chg _ _ _ _ w1) fun _ hg=>⟨rfl,hg⟩
 ·refine ⟨?_,Mod.refl _ _⟩
  congr 1;symm
  rw [decide_eq_false_iff_not]
  intro e;exact hlen (by rw [e])
theorem same_pat {S S':Nat→Prop} {a b:Value} {l m:List Chg} {w:World} (ha:RPat S w a l) (hb:RPat S' w b m) :
  callK Tryz.prog 92 [a,b] (fun v w'=>v=.bool (decide (l=m))∧Grow w w') w:=by
 apply S92_ok
 exact eq_pat ha hb
end Go.Proofs.YtgmpbihbdbmhoaaGreatDoor

namespace Go.K
open Go
theorem boxn_i {t:TypeId} {vs:List Value} {K:Cont} {w:World} (h:∀ b w1,b=w.heap.size→w1.heap.size=w.heap.size+1→Grow w w1→(∀ j v,vs[j]?=some v→w1.cell? ((⟨b,0,none⟩:Addr).add j)=some v)→(∀ j,j < vs.length→Live w1 ((⟨b,0,none⟩:Addr).add j))→K (.pointer (some ⟨b,0,none⟩)) w1):boxnK t (.agg vs.toArray) K w:=by
 refine ⟨vs,rfl,?_⟩
 refine h w.heap.size _ rfl (by simp) (Mod.alloc _ _ _) (fun j v hv=>cell_box hv) fun j hj=>?_
 have hadd:(⟨w.heap.size,0,none⟩:Addr).add j=⟨w.heap.size,j,none⟩:=by unfold Addr.add;split <;> simp_all
 rw [hadd]
 refine ⟨?_,World.frozen?_alloc_new ..⟩
 rw [World.cell?_alloc_new];simp [hj]
theorem newst_i {t:TypeId} {zs vs:List Value} {K:Value→World→Prop} {w:World} (hl:zs.length=vs.length) (h1:∀ v ∈ vs,v.oneCell'=true) (h:∀ b w1,b=w.heap.size→w1.heap.size=w.heap.size+1→Grow w w1→(∀ j v,vs[j]?=some v→w1.cell? ((⟨b,0,none⟩:Addr).add j)=some v)→(∀ j,j < vs.length→Live w1 ((⟨b,0,none⟩:Addr).add j))→K (.pointer (some ⟨b,0,none⟩)) w1) :
  newK t zs (fun t5 w3=>stnK vs.length t5 (.agg vs.toArray) (fun w4=>K t5 w4) w3) w:=by
 refine newK_i (stnew hl h1 ?_)
 obtain ⟨vs',e,h2⟩:=boxn_i (t:=t) (K:=K) (w:=w) h
 have:vs=vs':=by
  have:=congrArg Value.cells e
  simpa [Value.cells] using this
 subst this
 exact h2
theorem newst_n {t:TypeId} {n:Nat} {zs vs:List Value} {K:Value→World→Prop} {w:World} (hn:vs.length=n) (hl:zs.length=n) (h1:∀ v ∈ vs,v.oneCell'=true) (h:∀ b w1,b=w.heap.size→w1.heap.size=w.heap.size+1→Grow w w1→(∀ j v,vs[j]?=some v→w1.cell? ((⟨b,0,none⟩:Addr).add j)=some v)→(∀ j,j < vs.length→Live w1 ((⟨b,0,none⟩:Addr).add j))→K (.pointer (some ⟨b,0,none⟩)) w1) :
  newK t zs (fun t5 w3=>stnK n t5 (.agg vs.toArray) (fun w4=>K t5 w4) w3) w:=by
 subst hn;exact newst_i hl h1 h
theorem callyK_f {P:Program} {ok:Nat→Bool} {g:Nat} {args:List Value} {K:Cont} {w:World} (hok:ok g=true) (h:callK P g args K w):callyK P ok (.func (.func g) #[] #[]) args K w:=.inl ⟨g,[],[],rfl,hok,by simpa using h⟩
theorem sld1_i {St:Addr→Value→Prop} {a:Addr} {v:Value} {k:Value→Prop} (h:St a v) (hk:k v):sld1 St (.pointer (some a)) k:=⟨a,v,rfl,h,hk⟩
theorem sldn_i {St:Addr→Value→Prop} {m:Nat} {a:Addr} {vs:List Value} {k:Value→Prop} (hl:vs.length=m) (h:∀ j v,vs[j]?=some v→St (a.add j) v) (hk:k (.agg vs.toArray)):sldn St m (.pointer (some a)) k:=⟨a,vs,rfl,hl,h,hk⟩
theorem drawK_i {w:World} {F:(World→Prop)→Prop} (C:World→Prop) (h0:C w.drew) (h:F C):DrawK w F:=⟨C,h0,h⟩
theorem drawC_i {eff:List Nat} {AN:List (List Nat)} {w0:World} {F:(Nat→Nat→Prop)→(Nat→Addr→Value→Prop)→Prop} (M:Nat→Nat→Prop) (h:F M (StI eff AN M w0)):DrawC eff AN w0 F:=⟨M,h⟩
theorem setL_over {b:Nat}:∀ (vs:List Value) (i:Nat) (W:World),(∀ j,i≤j→j < i+vs.length→Live W ((⟨b,0,none⟩:Addr).add j))→
  Mod (fun x=>x=b) W (setL W ⟨b,0,none⟩ i vs)∧(∀ j u,vs[j]?=some u→(setL W ⟨b,0,none⟩ i vs).cell? ((⟨b,0,none⟩:Addr).add (i+j))=some u)∧(∀ j,j < i→(setL W ⟨b,0,none⟩ i vs).cell? ((⟨b,0,none⟩:Addr).add j)=W.cell? ((⟨b,0,none⟩:Addr).add j))∧(∀ a,Live W a→Live (setL W ⟨b,0,none⟩ i vs) a):=by
 intro vs
 induction vs with
 | nil=>intro i W _;exact ⟨Mod.refl _ _,fun j u hu=>by simp at hu,fun _ _=>rfl,fun _ h=>h⟩
 | cons x vs ih=>
  intro i W hl
  simp only [setL]
  obtain ⟨i1,i2,i3,i4⟩:=ih (i+1) (W.setCell ((⟨b,0,none⟩:Addr).add i) x) (fun j h1 h2=>(hl j (by omega) (by simp;omega)).set _ _)
  refine ⟨(Mod.setCell _ _ _ (by rw [addr0])).trans i1,fun j u hu=>?_,fun j hj=>?_,fun a ha=>i4 a (ha.set _ _)⟩
  ·cases j with
   | zero=>
    simp at hu;subst hu
    obtain ⟨u',hu'⟩:=Option.isSome_iff_exists.1 (hl i (Nat.le_refl _) (by simp)).1
    exact (i3 i (by omega)).trans (World.cell?_setCell_same _ _ _ hu')
   | succ j=>
    have:=i2 j u (by simpa using hu)
    rw [show i+(j+1)=i+1+j by omega];exact this
  ·rw [i3 j (by omega),World.cell?_setCell_other _ _ _ _ (by rw [addr0,addr0];intro e;simp only [Addr.mk.injEq] at e;omega)]
theorem stn_over {b n:Nat} {vs:List Value} {K:World→Prop} {W:World} (hn:vs.length=n) (h1:∀ v ∈ vs,v.oneCell'=true) (hl:∀ j,j < n→Live W ((⟨b,0,none⟩:Addr).add j))
  (hK:∀ W',Mod (fun x=>x=b) W W'→(∀ j u,vs[j]?=some u→W'.cell? ((⟨b,0,none⟩:Addr).add j)=some u)→(∀ a,Live W a→Live W' a)→K W'):stnK n (.pointer (some ⟨b,0,none⟩)) (.agg vs.toArray) K W:=by
 obtain ⟨q1,q2,_,q4⟩:=setL_over (b:=b) vs 0 W (fun j _ hj=>hl j (by omega))
 exact ⟨_,vs,rfl,rfl,hn,h1,fun j hj=>hl j hj,hK _ q1 (fun j u hu=>by have:=q2 j u hu;rwa [Nat.zero_add] at this) q4⟩
theorem newz_i {t:TypeId} {zs:List Value} {K:Cont} {w:World} (h:∀ b w1,b=w.heap.size→w1.heap.size=w.heap.size+1→Grow w w1→(∀ j v,zs[j]?=some v→w1.cell? ((⟨b,0,none⟩:Addr).add j)=some v)→(∀ j,j < zs.length→Live w1 ((⟨b,0,none⟩:Addr).add j))→K (.pointer (some ⟨b,0,none⟩)) w1):newK t zs K w:=by
 refine newK_i ?_
 obtain ⟨vs',e,h2⟩:=boxn_i (t:=t) (vs:=zs) (K:=K) (w:=w) h
 have:zs=vs':=by have:=congrArg Value.cells e;simpa [Value.cells] using this
 subst this
 exact h2
theorem wrap_range (x:Int):-9223372036854775808≤IntKind.i64.wrap x∧IntKind.i64.wrap x≤9223372036854775807:=by
 have e1:(2:Int) ^ IntKind.i64.bits=18446744073709551616:=by decide
 have e2:(2:Int) ^ (IntKind.i64.bits - 1)=9223372036854775808:=by decide
 simp only [IntKind.wrap,e1,e2,IntKind.signed,Bool.true_and,decide_eq_true_eq]
 split <;> omega
theorem loop_step {n:Nat} (h:(n:Int)+1≤9223372036854775807):Value.int .i64 (IntKind.i64.wrap ((n:Int)+1))=.int .i64 ((n+1:Nat):Int):=by
 rw [wrap64 (by omega) (by omega)];rfl
theorem iOf0 {q:IntKind} {n:Int} {r:List Value}:iOf (.int q n :: r) 0=n.toNat:=rfl
theorem iOf1 {a:Value} {q:IntKind} {n:Int} {r:List Value}:iOf (a :: .int q n :: r) 1=n.toNat:=rfl
theorem iOf2 {a b:Value} {q:IntKind} {n:Int} {r:List Value}:iOf (a :: b :: .int q n :: r) 2=n.toNat:=rfl
end Go.K
namespace Go.Proofs.YtgmpbihbdbmhoaaGreatDoor
open Go Go.K

def MayR (r:Int):Prop:=0≤r∧r < 55296∨57344≤r∧r≤1114111
instance (r:Int):Decidable (MayR r):=by unfold MayR;infer_instance
theorem mayr_ok {r:Int} {w:World}:callK Tryz.prog 106 [.int .i32 r] (fun v w'=>v=.bool (decide (MayR r))∧w'=w) w:=by
 apply S106_ok
 unfold S106
 have key:∀ b:Bool,(b=true↔MayR r)→Value.bool b=.bool (decide (MayR r))∧w=w:=fun b h=>⟨by congr 1;rw [Bool.eq_iff_iff,h,decide_eq_true_eq],rfl⟩
 rw [geK_i]
 refine condK_p (fun h0=>?_) fun h0=>?_
 ·rw [ltK_i]
  refine condK_p (fun h1=>?_) fun h1=>?_
  ·exact key true (by simp only [true_iff];exact .inl ⟨h0,h1⟩)
  ·rw [geK_i]
   refine condK_p (fun h2=>?_) fun h2=>?_
   ·rw [leK_i]
    exact key _ (by rw [decide_eq_true_eq];exact ⟨fun h=>.inr ⟨h2,h⟩,fun h=>by rcases h with h | h <;> omega⟩)
   ·exact key false (by simp only [Bool.false_eq_true,false_iff];rintro (h | h) <;> omega)
 ·rw [geK_i]
  refine condK_p (fun h2=>?_) fun h2=>?_
  ·rw [leK_i]
   exact key _ (by rw [decide_eq_true_eq];exact ⟨fun h=>.inr ⟨h2,h⟩,fun h=>by rcases h with h | h <;> omega⟩)
  ·exact key false (by simp only [Bool.false_eq_true,false_iff];rintro (h | h) <;> omega)

def FormO (o:Dop):Prop:=(o.kind=1∧o.runes=[]∧o.set=[]∧1≤o.n∧o.n≤536870912)∨(o.kind=3∧o.runes=[]∧o.set=[]∧o.patch=[]∧1≤o.n∧o.n≤536870912)∨
 (o.kind=2∧(∀ r ∈ o.runes,MayR r)∧o.n=0∧o.patch=[]∧1≤o.runes.length∧o.runes.length≤536870912)
instance (o:Dop):Decidable (FormO o):=by unfold FormO;infer_instance
theorem len0 {α:Type} {l:List α}:((l.length:Int)=0)↔l=[]:=by
 constructor
 ·intro h;exact List.eq_nil_of_length_eq_zero (by omega)
 ·rintro rfl;rfl
theorem form_ok {D:Nat→Prop} {r:List Value} {o:Dop} {w:World} (h:RDop D w r o) :
  callK Tryz.prog 55 [.agg r.toArray] (fun v w'=>v=.bool (decide (FormO o))∧Grow w w') w:=by
 apply S55_ok
 unfold S55
 obtain ⟨rv,sv,pv,rfl,h1,h2,h3⟩:=h
 refine boxn_i fun b w1 _ hz g hc _=>?_
 have h1':=h1.grow g (by decide) fun _ _ h=>h
 obtain ⟨a1,c1,rfl,m1⟩:=h1.shape
 obtain ⟨a2,c2,rfl,m2⟩:=h2.shape
 obtain ⟨a3,c3,rfl,m3⟩:=h3.shape
 have l0:=hc 0 _ rfl
 have l1:=hc 1 _ rfl
 have l2:=hc 2 _ rfl
 have l3:=hc 3 _ rfl
 have l4:=hc 4 _ rfl
 simp only [maxLen] at m1
 have key:∀ (b:Bool) w',Grow w w'→(b=true↔FormO o)→Value.bool b=.bool (decide (FormO o))∧Grow w w':=fun b w' g h=>⟨by congr 1;rw [Bool.eq_iff_iff,h,decide_eq_true_eq],g⟩
 have no:∀ w',Grow w w'→¬ FormO o→Value.bool false=.bool (decide (FormO o))∧Grow w w':=fun w' g h=>key false w' g (by simp only [Bool.false_eq_true,false_iff];exact h)
 simp only [faK_i]
 refine ld1K_i l0 ?_
 rw [eqK_i]
 refine condK_p (fun k1=>?_) fun k1=>?_
 ·refine ld1K_i l2 ?_
  rw [lenK_i,eqK_i]
  refine condK_p (fun e1=>?_) fun e1=>no _ g ?_
  ·refine ld1K_i l3 ?_
   rw [lenK_i,eqK_i]
   refine condK_p (fun e2=>?_) fun e2=>no _ g ?_
   ·refine ld1K_i l1 ?_
    rw [geK_i]
    refine condK_p (fun e3=>?_) fun e3=>no _ g ?_
    ·refine ld1K_i l1 ?_
     rw [leK_i]
     refine key _ _ g ?_
     rw [decide_eq_true_eq]
     refine ⟨fun h=>.inl ⟨k1,len0.1 e1,len0.1 e2,e3,h⟩,fun h=>?_⟩
     rcases h with h | h | h
     ·exact h.2.2.2.2
     ·omega
     ·omega
    ·rintro (h | h | h)
     ·exact e3 h.2.2.2.1
     ·omega
     ·omega
   ·rintro (h | h | h)
    ·exact e2 (len0.2 h.2.2.1)
    ·omega
    ·omega
  ·rintro (h | h | h)
   ·exact e1 (len0.2 h.2.1)
   ·omega
   ·omega
 ·rw [eqK_i]
  refine condK_p (fun k3=>?_) fun k3=>?_
  ·refine ld1K_i l2 ?_
   rw [lenK_i,eqK_i]
   refine condK_p (fun e1=>?_) fun e1=>no _ g ?_
   ·refine ld1K_i l3 ?_
    rw [lenK_i,eqK_i]
    refine condK_p (fun e2=>?_) fun e2=>no _ g ?_
    ·refine ld1K_i l4 ?_
     rw [lenK_i,eqK_i]
     refine condK_p (fun e4=>?_) fun e4=>no _ g ?_
     ·refine ld1K_i l1 ?_
      rw [geK_i]
      refine condK_p (fun e3=>?_) fun e3=>no _ g ?_
      ·refine ld1K_i l1 ?_
       rw [leK_i]
       refine key _ _ g ?_
       rw [decide_eq_true_eq]
       refine ⟨fun h=>.inr (.inl ⟨k3,len0.1 e1,len0.1 e2,len0.1 e4,e3,h⟩),fun h=>?_⟩
       rcases h with h | h | h
       ·omega
       ·exact h.2.2.2.2.2
       ·omega
      ·rintro (h | h | h)
       ·omega
       ·exact e3 h.2.2.2.2.1
       ·omega
     ·rintro (h | h | h)
      ·omega
      ·exact e4 (len0.2 h.2.2.2.1)
      ·omega
    ·rintro (h | h | h)
     ·omega
     ·exact e2 (len0.2 h.2.2.1)
     ·omega
   ·rintro (h | h | h)
    ·omega
    ·exact e1 (len0.2 h.2.1)
    ·omega
  ·rw [eqK_i]
   refine condK_p (fun k2=>?_) fun k2=>no _ g ?_
   ·refine LoopK_i (fun vs w2=>∃ i:Nat,i≤o.runes.length∧vs=[.int .i64 i]∧w2=w1∧∀ r ∈ o.runes.take i,MayR r) (fun vs _=>o.runes.length - iOf vs 0) ⟨0,Nat.zero_le _,rfl,rfl,by simp⟩ ?_
    rintro vs _ ⟨i,hi,rfl,rfl,hr⟩ _
    rename World=>w1
    refine ld1K_i l2 ?_
    rw [lenK_i,nth_z,List.headD_cons,ltK_i]
    refine condK_p (fun hlt=>?_) fun hge=>?_
    ·have hlt':i < o.runes.length:=by omega
     refine ld1K_i l2 ?_
     obtain ⟨p,r,rfl,_,hrl,hcl,rfl⟩:=h1'.get hlt'
     refine ixK_n hlt' (ld1K_i (hcl 0 _ rfl) ?_)
     refine callK_mono mayr_ok ?_
     rintro v2 w2 ⟨rfl,rfl⟩
     rw [notK_i]
     refine condK_neg (fun hm=>?_) fun hm=>no _ g ?_
     ·rw [addK_i,loop_step (by omega)]
      refine ⟨⟨i+1,hlt',rfl,rfl,fun r hr'=>?_⟩,by rw [iOf0,iOf0];omega⟩
      rw [List.take_add_one,List.getElem?_eq_getElem hlt'] at hr'
      rcases List.mem_append.1 hr' with hr' | hr'
      ·exact hr r hr'
      ·simp at hr';subst hr';exact hm
     ·rintro (h | h | h)
      ·omega
      ·omega
      ·exact hm (h.2.1 _ (by simp))
    ·have:i=o.runes.length:=by omega
     subst this
     rw [List.take_length] at hr
     refine ld1K_i l1 ?_
     rw [eqK_i]
     refine condK_p (fun e3=>?_) fun e3=>no _ g ?_
     ·refine ld1K_i l4 ?_
      rw [lenK_i,eqK_i]
      refine condK_p (fun e4=>?_) fun e4=>no _ g ?_
      ·refine ld1K_i l2 ?_
       rw [lenK_i,geK_i]
       refine condK_p (fun e5=>?_) fun e5=>no _ g ?_
       ·refine ld1K_i l2 ?_
        rw [lenK_i,leK_i]
        refine key _ _ g ?_
        rw [decide_eq_true_eq]
        refine ⟨fun h=>.inr (.inr ⟨k2,hr,e3,len0.1 e4,by omega,by omega⟩),fun h=>?_⟩
        rcases h with h | h | h
        ·omega
        ·omega
        ·have:=h.2.2.2.2.2;omega
       ·rintro (h | h | h)
        ·omega
        ·omega
        ·have:=h.2.2.2.2.1;omega
      ·rintro (h | h | h)
       ·omega
       ·omega
       ·exact e4 (len0.2 h.2.2.2.1)
     ·rintro (h | h | h)
      ·omega
      ·omega
      ·exact e3 h.2.2.1
   ·rintro (h | h | h) <;> omega
def lenO (o:Dop):Int:=if o.kind=2 then o.runes.length else o.n
theorem len_ok {D:Nat→Prop} {r:List Value} {o:Dop} {w:World} (h:RDop D w r o) :
  callK Tryz.prog 112 [.agg r.toArray] (fun v w'=>v=.int .i64 (lenO o)∧Grow w w') w:=by
 apply S112_ok
 unfold S112
 obtain ⟨rv,sv,pv,rfl,h1,h2,h3⟩:=h
 refine boxn_i fun b w1 _ hz g hc _=>?_
 obtain ⟨a1,c1,rfl,m1⟩:=h1.shape
 simp only [faK_i]
 refine ld1K_i (hc 0 _ rfl) ?_
 rw [eqK_i]
 refine condK_p (fun k1=>?_) fun k1=>?_
 ·refine ld1K_i (hc 2 _ rfl) ?_
  rw [lenK_i]
  exact ⟨by rw [lenO,if_pos k1],g⟩
 ·refine ld1K_i (hc 1 _ rfl) ?_
  exact ⟨by rw [lenO,if_neg k1],g⟩
def sumW (f:Dop→Int) (x:List Dop):Int:=x.foldl (fun s o=>IntKind.i64.wrap (s+f o)) 0
theorem sumW_take {f:Dop→Int} {x:List Dop} {k:Nat} (h:k < x.length):sumW f (x.take (k+1))=IntKind.i64.wrap (sumW f (x.take k)+f x[k]):=by
 rw [List.take_add_one,List.getElem?_eq_getElem h]
 simp only [sumW,List.foldl_append,Option.toList,List.foldl_cons,List.foldl_nil]
def takesF (o:Dop):Int:=if o.kind=2 then 0 else o.n
def makesF (o:Dop):Int:=if o.kind=3 then 0 else lenO o
theorem sumW_small {f:Dop→Int} {m:Int} (hm:0≤m) (x:List Dop) (h:∀ o ∈ x,0≤f o∧f o≤m) (hb:x.length * m≤4611686018427387904):sumW f x=(x.map f).sum∧0≤sumW f x∧sumW f x≤x.length * m:=by
 induction x using rev_ind with
 | h0=>exact ⟨rfl,by simp [sumW],by simp [sumW]⟩
 | h1 x o ih=>
  have hx:∀ o ∈ x,0≤f o∧f o≤m:=fun o ho=>h o (by simp [ho])
  have ho:=h o (by simp)
  have e:((x++[o]).length:Int) * m=x.length * m+m:=by simp [Int.add_mul]
  rw [e] at hb
  obtain ⟨i1,i2,i3⟩:=ih hx (by omega)
  have e2:sumW f (x++[o])=IntKind.i64.wrap (sumW f x+f o):=by simp [sumW]
  rw [e2,wrap64 (by omega) (by omega),e]
  refine ⟨by rw [i1];simp,by omega,by omega⟩
theorem takes_ok {S D:Nat→Prop} {v:Value} {x:List Dop} {w:World} (h:RDops S D w v x) :
  callK Tryz.prog 58 [v] (fun v' w'=>v'=.int .i64 (sumW takesF x)∧Grow w w') w:=by
 apply S58_ok
 unfold S58
 obtain ⟨a,c,rfl,hm⟩:=h.shape
 simp only [maxLen] at hm
 refine LoopK_i (fun vs w1=>∃ k:Nat,k≤x.length∧vs=[.int .i64 (sumW takesF (x.take k)),.int .i64 k]∧w1=w∧∀ q≤k,True) (fun vs _=>x.length - iOf vs 1) ⟨0,Nat.zero_le _,rfl,rfl,fun _ _=>trivial⟩ ?_
 rintro vs _ ⟨k,hk,rfl,rfl,_⟩ _
 rename World=>w
 rw [lenK_i]
 simp only [nth_s,nth_z,List.headD_cons,List.tail_cons]
 rw [ltK_i]
 refine condK_p (fun hlt=>?_) fun hge=>?_
 ·have hlt':k < x.length:=by omega
  obtain ⟨p,r,rfl,hS,hr,hc,rv,sv,pv,rfl,h1,h2,h3⟩:=h.get hlt'
  have wr:∀ z,sumW takesF (x.take k)=z→-9223372036854775808≤z∧z≤9223372036854775807:=by
   rintro z rfl
   by_cases h0:k=0
   ·subst h0;simp [sumW]
   ·obtain ⟨k',rfl⟩:∃ k',k=k'+1:=⟨k - 1,by omega⟩
    rw [sumW_take (by omega)]
    exact wrap_range _
  refine ixK_n hlt' ?_
  simp only [faK_i,Addr.add_add]
  refine ld1K_i (hc 0 _ rfl) ?_
  rw [neK_i]
  refine condK_neg (fun e=>?_) fun e=>?_
  ·rw [addK_i,loop_step (by omega)]
   refine ⟨⟨k+1,hlt',?_,rfl,fun _ _=>trivial⟩,by rw [iOf1,iOf1];omega⟩
   rw [sumW_take hlt',takesF,if_pos e,Int.add_zero,wrap64 (wr _ rfl).1 (wr _ rfl).2]
  ·refine ixK_n hlt' ?_
   simp only [faK_i,Addr.add_add]
   refine ld1K_i (hc 1 _ rfl) ?_
   rw [addK_i,addK_i,loop_step (by omega)]
   refine ⟨⟨k+1,hlt',?_,rfl,fun _ _=>trivial⟩,by rw [iOf1,iOf1];omega⟩
   rw [sumW_take hlt',takesF,if_neg e]
 ·have:k=x.length:=by omega
  subst this
  rw [List.take_length]
  exact ⟨rfl,Mod.refl _ _⟩
theorem makes_ok {S D:Nat→Prop} {v:Value} {x:List Dop} {w:World} (h:RDops S D w v x) :
  callK Tryz.prog 59 [v] (fun v' w'=>v'=.int .i64 (sumW makesF x)∧Grow w w') w:=by
 apply S59_ok
 unfold S59
 obtain ⟨a,c,rfl,hm⟩:=h.shape
 simp only [maxLen] at hm
 refine LoopK_i (fun vs w1=>∃ k:Nat,k≤x.length∧vs=[.int .i64 (sumW makesF (x.take k)),.int .i64 k]∧Grow w w1) (fun vs _=>x.length - iOf vs 1) ⟨0,Nat.zero_le _,rfl,Mod.refl _ _⟩ ?_
 rintro vs w1 ⟨k,hk,rfl,hg⟩ _
 rw [lenK_i]
 simp only [nth_s,nth_z,List.headD_cons,List.tail_cons]
 rw [ltK_i]
 refine condK_p (fun hlt=>?_) fun hge=>?_
 ·have hlt':k < x.length:=by omega
  obtain ⟨p,r,rfl,hS,hr,hc,ho⟩:=(RDops.grow h hg).get hlt'
  have hc0:w1.cell? (p.add (k * 5+0))=some (.int .u8 x[k].kind):=by obtain ⟨rv,sv,pv,rfl,_⟩:=ho;exact hc 0 _ rfl
  have wr:∀ z,sumW makesF (x.take k)=z→-9223372036854775808≤z∧z≤9223372036854775807:=by
   rintro z rfl
   by_cases h0:k=0
   ·subst h0;simp [sumW]
   ·obtain ⟨k',rfl⟩:∃ k',k=k'+1:=⟨k - 1,by omega⟩
    rw [sumW_take (by omega)]
    exact wrap_range _
  refine ixK_n hlt' ?_
  simp only [faK_i,Addr.add_add]
  refine ld1K_i hc0 ?_
  rw [neK_i]
  refine condK_neg (fun e=>?_) fun e=>?_
  ·rw [addK_i,loop_step (by omega)]
   refine ⟨⟨k+1,hlt',?_,hg⟩,by rw [iOf1,iOf1];omega⟩
   rw [sumW_take hlt',makesF,if_pos e,Int.add_zero,wrap64 (wr _ rfl).1 (wr _ rfl).2]
  ·refine ixK_n hlt' (ldnK_i hr (fun j u hu=>by rw [Addr.add_add];exact hc j u hu) ?_)
   refine callK_mono (len_ok ho) ?_
   rintro v2 w2 ⟨rfl,g2⟩
   rw [addK_i,addK_i,loop_step (by omega)]
   refine ⟨⟨k+1,hlt',?_,hg.trans g2⟩,by rw [iOf1,iOf1];omega⟩
   rw [sumW_take hlt',makesF,if_neg e]
 ·have:k=x.length:=by omega
  subst this
  rw [List.take_length]
  exact ⟨rfl,hg⟩
end Go.Proofs.YtgmpbihbdbmhoaaGreatDoor

namespace Go.K
open Go
theorem rem_i {P:Program} {t:TypeId} {xo yo:Operand} {k:IntKind} {a b:Int} {K:Cont} {w:World} (hb:b≠0) (h:K (.int k (a.tmod b)) w):runK P (binS .rem t xo yo (.int k a) (.int k b)) K w:=by
 refine ⟨_,_,?_,h⟩
 simp [binS,eqGuard_rem,binOp_rem,Op.intDiv,hb]
theorem quo_i {P:Program} {t:TypeId} {xo yo:Operand} {k:IntKind} {a b:Int} {K:Cont} {w:World} (hb:b≠0) (h:K (.int k (k.wrap (a.tdiv b))) w):runK P (binS .quo t xo yo (.int k a) (.int k b)) K w:=by
 refine ⟨_,_,?_,h⟩
 simp [binS,eqGuard_quo,binOp_quo,Op.intDiv,hb]
theorem conv_i {P:Program} {s d:TypeId} {q k:IntKind} {n:Int} {K:Cont} {w:World} (hs:(P.underlying s).isSome=true) (hd:P.underlying d=some (.int k)) (h:K (.int k (k.wrap n)) w):runK P (convert s d (.int q n)) K w:=by
 refine ⟨_,_,?_,h⟩
 obtain ⟨e,he⟩:=Option.isSome_iff_exists.mp hs
 simp [convert,run_underlying he,run_underlying hd,Conv.intToInt]
theorem slice_lo {α:Type} {P:Program} {t e k:Nat} {i:TypeInfo} {R:World→List Value→α→Prop} {S:Nat→Prop} {w:World} {a:Option Addr} {n c:Nat} {l:List α} {j:Nat} {K:Cont} (ht:P.underlying t=some (.slice e)) (hi:P.info? e=some i) (hk:i.size=k)
  (h:SlR S k R w (.slice a n c) l) (hj:j≤l.length) (hK:∀ v',SlR S k R w v' (l.drop j)→K v' w):runK P (Instr.sliceAt t (.slice a n c) (some (.int .i64 j)) none none) K w:=by
 obtain ⟨a',c',e1,h1,h2,h3⟩:=h
 cases e1
 have hel:P.elem t=e:=by simp [Program.elem,ht]
 refine ⟨sliced a j l.length c k,w,?_,hK _ ?_⟩
 ·rw [run_sliceAt_slice _ _ _ _ _ _ (by rw [hel];exact ht),run_slice_l _ _ _ _ _ (by rw [hel];exact ht) _ _ (by omega) (by omega),hel]
  simp [sizeOf,typeInfo,hi,hk]
 ·unfold sliced
  refine ⟨_,_,by rw [List.length_drop],by rw [List.length_drop];omega,by omega,fun q x hx=>?_⟩
  rw [List.getElem?_drop] at hx
  obtain ⟨p,r,rfl,hS,hr,hc,hR⟩:=h3 _ x hx
  have hlt:=(List.getElem?_eq_some_iff.1 hx).1
  rw [if_neg (by omega)]
  refine ⟨p.add (j * k),r,rfl,by rw [add_block];exact hS,hr,fun m u hu=>?_,hR⟩
  rw [Addr.add_add,←Nat.add_assoc,←Nat.add_mul]
  exact hc m u hu
theorem slice_hi {α:Type} {P:Program} {t e k:Nat} {i:TypeInfo} {R:World→List Value→α→Prop} {S:Nat→Prop} {w:World} {a:Option Addr} {n c:Nat} {l:List α} {j:Nat} {K:Cont} (ht:P.underlying t=some (.slice e)) (hi:P.info? e=some i) (hk:i.size=k)
  (h:SlR S k R w (.slice a n c) l) (hj:j≤l.length) (hK:∀ v',SlR S k R w v' (l.take j)→K v' w):runK P (Instr.sliceAt t (.slice a n c) none (some (.int .i64 j)) none) K w:=by
 obtain ⟨a',c',e1,h1,h2,h3⟩:=h
 cases e1
 have hel:P.elem t=e:=by simp [Program.elem,ht]
 refine ⟨sliced a 0 j c k,w,?_,hK _ ?_⟩
 ·rw [run_sliceAt_slice _ _ _ _ _ _ (by rw [hel];exact ht),run_slice_h _ _ _ _ _ (by rw [hel];exact ht) _ _ (by omega) (by omega),hel]
  simp [sizeOf,typeInfo,hi,hk]
 ·unfold sliced
  have hl:(l.take j).length=j:=by simp;omega
  refine ⟨_,_,by rw [hl,Nat.sub_zero],by rw [hl];omega,by omega,fun q x hx=>?_⟩
  rw [List.getElem?_take] at hx
  split at hx
  ·obtain ⟨p,r,rfl,hS,hr,hc,hR⟩:=h3 _ x hx
   rw [if_neg (by omega)]
   refine ⟨p.add (0 * k),r,rfl,by rw [add_block];exact hS,hr,fun m u hu=>?_,hR⟩
   rw [Addr.add_add,Nat.zero_mul,Nat.zero_add]
   exact hc m u hu
  ·cases hx
end Go.K
namespace Go.Proofs.YtgmpbihbdbmhoaaGreatDoor
open Go Go.K
abbrev RByte:World→List Value→Int→Prop:=fun _ r x=>r=[.int .u8 x]
abbrev RBytes (S:Nat→Prop) (w:World) (v:Value) (l:List Int):Prop:=SlR S 1 RByte w v l
def bytesL (s:ByteArray):List Int:=s.data.toList.map fun b=>(b.toNat:Int)
theorem conv_i32 {n:Int} {K:Cont} {w:World} (h:K (.int .i32 (IntKind.i32.wrap n)) w):runK Tryz.prog (convert 5 21 (.int .u8 n)) K w:=conv_i (by kernel_rfl) (by kernel_rfl) h
theorem conv_u8 {n:Int} {K:Cont} {w:World} (h:K (.int .u8 (IntKind.u8.wrap n)) w):runK Tryz.prog (convert 21 5 (.int .i32 n)) K w:=conv_i (by kernel_rfl) (by kernel_rfl) h
theorem six_ok {r:Int} {w:World}:callK Tryz.prog 143 [.int .i32 r] (fun v w'=>(∃ n,v=.int .u8 n)∧w'=w) w:=by
 apply S143_ok
 unfold S143
 refine rem_i (by decide) ?_
 rw [addK_i]
 exact conv_u8 ⟨⟨_,rfl⟩,rfl⟩
def oneLen (r:Int):Nat:=if r < 128 then 1 else if r < 2048 then 2 else if r < 65536 then 3 else 4
theorem rowK_i {e k len:Nat} {zero:List Value} {parts:List (Nat × Value)} {cs:List Value} {K:Cont} {w:World} (hf:Instr.fill (fun i=>some (i * k,k)) ((Array.range (len * k)).map (zero.toArray[· % zero.toArray.size]!)) parts=some cs.toArray) (h:K (.slice (some ⟨w.heap.size,0,none⟩) len len) (w.alloc (.cells cs.toArray e))):rowK e k len zero parts K w:=⟨_,hf,h⟩
theorem row1_i {q:IntKind} {e:Nat} {z a:Int} {K:Cont} {w:World} (h:∀ w',Grow w w'→w'.heap.size=w.heap.size+1→(∀ j v,[Value.int q a][j]?=some v→w'.cell? ((⟨w.heap.size,0,none⟩:Addr).add j)=some v)→K (.slice (some ⟨w.heap.size,0,none⟩) 1 1) w'):rowK e 1 1 [.int q z] [(0,.int q a)] K w:=
 rowK_i (cs:=[.int q a]) (by kernel_rfl) (h _ (Mod.alloc _ _ _) (by simp) fun j v hv=>cell_box hv)
theorem row2_i {q:IntKind} {e:Nat} {z a b:Int} {K:Cont} {w:World} (h:∀ w',Grow w w'→w'.heap.size=w.heap.size+1→(∀ j v,[Value.int q a,.int q b][j]?=some v→w'.cell? ((⟨w.heap.size,0,none⟩:Addr).add j)=some v)→K (.slice (some ⟨w.heap.size,0,none⟩) 2 2) w'):rowK e 1 2 [.int q z] [(0,.int q a),(1,.int q b)] K w:=
 rowK_i (cs:=[.int q a,.int q b]) (by kernel_rfl) (h _ (Mod.alloc _ _ _) (by simp) fun j v hv=>cell_box hv)
theorem row3_i {q:IntKind} {e:Nat} {z a b c:Int} {K:Cont} {w:World} (h:∀ w',Grow w w'→w'.heap.size=w.heap.size+1→(∀ j v,[Value.int q a,.int q b,.int q c][j]?=some v→w'.cell? ((⟨w.heap.size,0,none⟩:Addr).add j)=some v)→K (.slice (some ⟨w.heap.size,0,none⟩) 3 3) w'):rowK e 1 3 [.int q z] [(0,.int q a),(1,.int q b),(2,.int q c)] K w:=
 rowK_i (cs:=[.int q a,.int q b,.int q c]) (by kernel_rfl) (h _ (Mod.alloc _ _ _) (by simp) fun j v hv=>cell_box hv)
theorem row4_i {q:IntKind} {e:Nat} {z a b c d:Int} {K:Cont} {w:World} (h:∀ w',Grow w w'→w'.heap.size=w.heap.size+1→(∀ j v,[Value.int q a,.int q b,.int q c,.int q d][j]?=some v→w'.cell? ((⟨w.heap.size,0,none⟩:Addr).add j)=some v)→K (.slice (some ⟨w.heap.size,0,none⟩) 4 4) w'):rowK e 1 4 [.int q z] [(0,.int q a),(1,.int q b),(2,.int q c),(3,.int q d)] K w:=
 rowK_i (cs:=[.int q a,.int q b,.int q c,.int q d]) (by kernel_rfl) (h _ (Mod.alloc _ _ _) (by simp) fun j v hv=>cell_box hv)
theorem one_ok {r:Int} {w:World}:callK Tryz.prog 114 [.int .i32 r] (fun v w'=>(∃ a c,v=.slice a (oneLen r) c)∧Grow w w') w:=by
 apply S114_ok
 unfold S114
 rw [ltK_i]
 refine condK_p (fun h1=>?_) fun h1=>?_
 ·exact conv_u8 (row1_i fun w' g _ _=>⟨⟨_,_,by rw [oneLen,if_pos h1]⟩,g⟩)
 rw [ltK_i]
 refine condK_p (fun h2=>?_) fun h2=>?_
 ·refine quo_i (by decide) ?_
  rw [addK_i]
  refine conv_u8 (callK_mono six_ok ?_)
  rintro v1 w1 ⟨⟨n1,rfl⟩,rfl⟩
  exact row2_i fun w' g _ _=>⟨⟨_,_,by rw [oneLen,if_neg h1,if_pos h2]⟩,g⟩
 rw [ltK_i]
 refine condK_p (fun h3=>?_) fun h3=>?_
 ·refine quo_i (by decide) ?_
  rw [addK_i]
  refine conv_u8 (quo_i (by decide) (callK_mono six_ok ?_))
  rintro v1 w1 ⟨⟨n1,rfl⟩,rfl⟩
  refine callK_mono six_ok ?_
  rintro v2 w2 ⟨⟨n2,rfl⟩,rfl⟩
  exact row3_i fun w' g _ _=>⟨⟨_,_,by rw [oneLen,if_neg h1,if_neg h2,if_pos h3]⟩,g⟩
 ·refine quo_i (by decide) ?_
  rw [addK_i]
  refine conv_u8 (quo_i (by decide) (callK_mono six_ok ?_))
  rintro v1 w1 ⟨⟨n1,rfl⟩,rfl⟩
  refine quo_i (by decide) (callK_mono six_ok ?_)
  rintro v2 w2 ⟨⟨n2,rfl⟩,rfl⟩
  refine callK_mono six_ok ?_
  rintro v3 w3 ⟨⟨n3,rfl⟩,rfl⟩
  exact row4_i fun w' g _ _=>⟨⟨_,_,by rw [oneLen,if_neg h1,if_neg h2,if_neg h3]⟩,g⟩
def nextHead (b0:Int):Option (Nat × Int):=
 if 240≤b0 then some (4,IntKind.i32.wrap (IntKind.i32.wrap b0 - 240)) else if 224≤b0 then some (3,IntKind.i32.wrap (IntKind.i32.wrap b0 - 224)) else if 192≤b0 then some (2,IntKind.i32.wrap (IntKind.i32.wrap b0 - 192))
 else if 128≤b0 then none else some (1,IntKind.i32.wrap b0)
def contB (b:List Int):Nat→Nat→Int→Option Int
 | 0,_,r=>some r
 | k+1,i,r=>match b[i]? with
  | some c=>if c < 128∨191 < c then none else contB b k (i+1) (IntKind.i32.wrap (IntKind.i32.wrap (IntKind.i32.wrap (r * 64)+IntKind.i32.wrap c) - 128))
  | none=>none
def nextB (b:List Int):Int × Nat:=match nextHead (b.headD 0) with
 | none=>(0,0)
 | some (n,r)=>if b.length < n then (0,0) else match contB b (n - 1) 1 r with
  | none=>(0,0)
  | some r=>if MayR r∧oneLen r=n then (r,n) else (0,0)
theorem nextHead_n {b0 r:Int} {n:Nat} (h:nextHead b0=some (n,r)):1≤n∧n≤4:=by
 unfold nextHead at h
 split at h
 ·cases h;omega
 split at h
 ·cases h;omega
 split at h
 ·cases h;omega
 split at h
 ·cases h
 ·cases h;omega
theorem nextB_len (b:List Int):(nextB b).2≤b.length∧(nextB b).2≤4:=by
 unfold nextB
 split
 ·exact ⟨Nat.zero_le _,Nat.zero_le _⟩
 ·rename_i n r h
  have:=nextHead_n h
  split
  ·exact ⟨Nat.zero_le _,Nat.zero_le _⟩
  ·split
   ·exact ⟨Nat.zero_le _,Nat.zero_le _⟩
   ·split <;> simp only <;> omega
theorem next_ok {S:Nat→Prop} {v:Value} {b:List Int} {w:World} (h:RBytes S w v b) (hb:b≠[]) :
  callK Tryz.prog 75 [v] (fun v' w'=>v'=.tuple #[.int .i32 (nextB b).1,.int .i64 (nextB b).2]∧Grow w w') w:=by
 apply S75_ok
 unfold S75
 obtain ⟨a,c,rfl,hm⟩:=h.shape
 simp only [maxLen] at hm
 have hpos:0 < b.length:=List.length_pos_iff.2 hb
 obtain ⟨p,r0,rfl,_,hr0,hc0,rfl⟩:=h.get hpos
 have hb0:b[0]=b.headD 0:=by cases b with | nil=>simp at hpos | cons x b=>rfl
 rw [hb0] at hc0
 have hc0':=hc0 0 _ rfl
 generalize e0:b.headD 0=b0 at *
 refine ixK_n (j:=0) hpos (ld1K_i hc0' (conv_i32 ?_))
 have fin:∀ {x:Int × Nat} {w':World},x=nextB b→Grow w w'→Value.tuple #[.int .i32 x.1,.int .i64 x.2]=.tuple #[.int .i32 (nextB b).1,.int .i64 (nextB b).2]∧Grow w w':=by rintro x w' rfl g;exact ⟨rfl,g⟩
 refine JoinK_i (fun vs w1=>∃ (n:Nat) (r:Int),nextHead b0=some (n,r)∧vs=[.int .i64 n,.int .i32 r]∧w1=w) ?_ ?_
 ·rintro vs _ ⟨n,r,hh,rfl,rfl⟩ _
  rename World=>w
  have hn:=nextHead_n hh
  simp only [nth_s,nth_z,List.headD_cons,List.tail_cons]
  rw [lenK_i,ltK_i]
  refine condK_p (fun hl=>?_) fun hl=>?_
  ·exact fin (x:=(0,0)) (by unfold nextB;rw [e0,hh];simp only;rw [if_pos (by omega)]) (Mod.refl _ _)
  have hl':n≤b.length:=by omega
  refine LoopK_i (fun vs w1=>∃ (i:Nat) (r':Int),1≤i∧i≤n∧vs=[.int .i32 r',.int .i64 i]∧w1=w∧contB b (n - 1) 1 r=contB b (n - i) i r') (fun vs _=>n - iOf vs 1) ⟨1,r,Nat.le_refl _,hn.1,rfl,rfl,rfl⟩ ?_
  rintro vs _ ⟨i,r',hi1,hi2,rfl,rfl,hcont⟩ _
  rename World=>w
  simp only [nth_s,nth_z,List.headD_cons,List.tail_cons]
  rw [ltK_i]
  refine condK_p (fun hlt=>?_) fun hge=>?_
  ·have hlt':i < n:=by omega
   obtain ⟨_,r1,e1,_,hr1,hc1,rfl⟩:=h.get (show i < b.length by omega)
   cases e1
   have hc1':=hc1 0 _ rfl
   have hbi:b[i]?=some b[i]:=by simp
   obtain ⟨k,hk⟩:∃ k,n - i=k+1:=⟨n - i - 1,by omega⟩
   refine JoinK_i (fun vs w1=>w1=w∧¬ (b[i] < 128∨191 < b[i])) ?_ ?_
   ·rintro vs _ ⟨rfl,hok⟩ _
    rename World=>w
    rw [mulK_i]
    refine ixK_n (show i < b.length by omega) (ld1K_i hc1' (conv_i32 ?_))
    rw [addK_i,subK_i,addK_i,loop_step (by omega)]
    refine ⟨⟨i+1,_,by omega,by omega,rfl,rfl,?_⟩,by rw [iOf1,iOf1];omega⟩
    rw [hcont,hk]
    simp only [contB,hbi,if_neg hok]
    congr 1;omega
   ·refine ixK_n (show i < b.length by omega) (ld1K_i hc1' ?_)
    have bad:(b[i] < 128∨191 < b[i])→(0,0)=nextB b:=by
     intro hx
     unfold nextB
     rw [e0,hh]
     simp only
     rw [if_neg (by omega),hcont,hk]
     simp only [contB,hbi,if_pos hx]
    rw [ltK_i]
    refine condK_p (fun hx=>?_) fun hx=>?_
    ·exact fin (bad (.inl hx)) (Mod.refl _ _)
    ·refine ixK_n (show i < b.length by omega) (ld1K_i hc1' ?_)
     rw [gtK_i]
     refine condK_p (fun hy=>?_) fun hy=>?_
     ·exact fin (bad (.inr hy)) (Mod.refl _ _)
     ·exact ⟨rfl,by omega⟩
  ·have:i=n:=by omega
   subst this
   rw [Nat.sub_self] at hcont
   simp only [contB] at hcont
   have hnx:nextB b=if MayR r'∧oneLen r'=i then (r',i) else (0,0):=by
    unfold nextB
    rw [e0,hh]
    simp only
    rw [if_neg (by omega),hcont]
   refine callK_mono mayr_ok ?_
   rintro v2 w2 ⟨rfl,rfl⟩
   rw [notK_i]
   refine condK_neg (fun hmr=>?_) fun hmr=>?_
   ·refine callK_mono one_ok ?_
    rintro v3 w3 ⟨⟨a3,c3,rfl⟩,g3⟩
    rw [lenK_i,neK_i]
    refine condK_neg (fun hon=>?_) fun hon=>?_
    ·exact fin (x:=(r',i)) (by rw [hnx,if_pos ⟨hmr,by omega⟩]) g3
    ·exact fin (x:=(0,0)) (by rw [hnx,if_neg (by rintro ⟨_,e⟩;exact hon (by omega))]) g3
   ·exact fin (x:=(0,0)) (by rw [hnx,if_neg (by rintro ⟨e,_⟩;exact hmr e)]) (Mod.refl _ _)
 ·refine ixK_n (j:=0) hpos (ld1K_i hc0' ?_)
  rw [geK_i]
  refine condK_p (fun h1=>?_) fun h1=>?_
  ·refine ixK_n (j:=0) hpos (ld1K_i hc0' (conv_i32 ?_))
   rw [subK_i]
   exact ⟨4,_,by unfold nextHead;rw [if_pos h1],rfl,rfl⟩
  refine ixK_n (j:=0) hpos (ld1K_i hc0' ?_)
  rw [geK_i]
  refine condK_p (fun h2=>?_) fun h2=>?_
  ·refine ixK_n (j:=0) hpos (ld1K_i hc0' (conv_i32 ?_))
   rw [subK_i]
   exact ⟨3,_,by unfold nextHead;rw [if_neg h1,if_pos h2],rfl,rfl⟩
  refine ixK_n (j:=0) hpos (ld1K_i hc0' ?_)
  rw [geK_i]
  refine condK_p (fun h3=>?_) fun h3=>?_
  ·refine ixK_n (j:=0) hpos (ld1K_i hc0' (conv_i32 ?_))
   rw [subK_i]
   exact ⟨2,_,by unfold nextHead;rw [if_neg h1,if_neg h2,if_pos h3],rfl,rfl⟩
  refine ixK_n (j:=0) hpos (ld1K_i hc0' ?_)
  rw [geK_i]
  refine condK_p (fun h4=>?_) fun h4=>?_
  ·exact fin (x:=(0,0)) (by unfold nextB nextHead;rw [e0,if_neg h1,if_neg h2,if_neg h3,if_pos h4]) (Mod.refl _ _)
  ·exact ⟨1,_,by unfold nextHead;rw [if_neg h1,if_neg h2,if_neg h3,if_neg h4],rfl,rfl⟩
end Go.Proofs.YtgmpbihbdbmhoaaGreatDoor

namespace Go.K
open Go
theorem push_g2 {α:Type} {P:Program} {t e k bytes B:Nat} {R:World→List Value→α→Prop} {w:World} {v:Value} {l:List α} {x:α} {zero:List Value} {parts:List (Nat × Value)} {cs:List Value} {K:Cont} (hE:ElemOK P t e k bytes) (h:OwnR B e k R w v l) (hB:B≤w.heap.size)
  (hf:Instr.fill (fun i=>some (i * k,k)) ((Array.range (1 * k)).map (zero.toArray[· % zero.toArray.size]!)) parts=some cs.toArray) (hcs:cs.length=k) (hx:R w cs x) (hone:∀ w r y,R w r y→∀ u ∈ r,u.oneCell'=true)
  (hR:∀ w1 w2 r y,w.heap.size≤w1.heap.size→Mod (fun b=>v.ownBlock=some b∨w.heap.size≤b) w1 w2→R w1 r y→R w2 r y) (hlen:(l.length+1) * bytes≤140737488355328) (hlm:l.length+1≤maxLen)
  {Q1:World→Prop} {Q2:World→World→Prop} (hQ1:∀ w1,Grow w w1→Q1 w1)
  (hK:∀ w1 v' w',OwnR B e k R w' v' (l++[x])→Mod (fun b=>v.ownBlock=some b) w1 w'→Mod (fun b=>v.ownBlock=some b) w w'→(∀ g,v'.ownBlock=some g→v.ownBlock=some g∨w.heap.size≤g)→Q2 w1 w'∧K v' w') :
  rowK e k 1 zero parts (fun s w1=>Q1 w1∧runK P (Builtin.append_ #[t,t] t [v,s].toArray) (fun v' w'=>Q2 w1 w'∧K v' w') w1) w:=by
 refine ⟨_,hf,?_⟩
 have hg:Grow w (w.alloc (.cells cs.toArray e)):=Mod.alloc _ _ _
 have hc:∀ j u,cs[j]?=some u→(w.alloc (.cells cs.toArray e)).cell? ((⟨w.heap.size,0,none⟩:Addr).add j)=some u:=fun j u hu=>cell_box hu
 have hz:(w.alloc (.cells cs.toArray e)).heap.size=w.heap.size+1:=by simp
 generalize w.alloc (.cells cs.toArray e)=w1 at hg hc hz ⊢
 have h':OwnR B e k R w1 v l:=OwnR.mod h hg (fun _ _ h=>h) fun r y _ hy=>hR _ _ _ _ (Nat.le_refl _) hg.mod hy
 have hs:SlR (fun _=>True) k R w1 (.slice (some ⟨w.heap.size,0,none⟩) 1 1) [x]:=by
  refine ⟨_,1,rfl,Nat.le_refl _,by simp [maxLen],fun i y hy=>?_⟩
  have hi:i=0:=by have:=(List.getElem?_eq_some_iff.1 hy).1;simp at this;exact this
  subst hi
  simp at hy;subst hy
  exact ⟨_,cs,rfl,trivial,hcs,fun j u hu=>by rw [Nat.zero_mul,Nat.zero_add];exact hc j u hu,hR _ _ _ _ (Nat.le_refl _) hg.mod hx⟩
 obtain ⟨v',w',h1,h2,h3,h4⟩:=OwnR.append (ty:=t) hE h' hs (fun _ _=>hone _ _ _) (by simpa using hlen) (by omega) (by simpa using hlm) (fun w2 hg' r y hy=>hR _ _ _ _ (by omega) ((Mod.of_grownBy hg').mono fun b _ e=>.inl e) hy)
 refine ⟨hQ1 _ hg,runK_i h1 (hK w1 v' w' h2 (Mod.of_grownBy h3) (hg.mod.next (Mod.of_grownBy h3) fun _ _ h=>h) fun g hg'=>?_)⟩
 rcases h4 g hg' with h | h
 ·exact .inl h
 ·exact .inr (by omega)
theorem push_g {α:Type} {P:Program} {t e k bytes B:Nat} {R:World→List Value→α→Prop} {w:World} {v:Value} {l:List α} {x:α} {zero:List Value} {parts:List (Nat × Value)} {cs:List Value} {K:Cont} (hE:ElemOK P t e k bytes) (h:OwnR B e k R w v l) (hB:B≤w.heap.size)
  (hf:Instr.fill (fun i=>some (i * k,k)) ((Array.range (1 * k)).map (zero.toArray[· % zero.toArray.size]!)) parts=some cs.toArray) (hcs:cs.length=k) (hx:R w cs x) (hone:∀ w r y,R w r y→∀ u ∈ r,u.oneCell'=true)
  (hR:∀ w1 w2 r y,w.heap.size≤w1.heap.size→Mod (fun b=>v.ownBlock=some b∨w.heap.size≤b) w1 w2→R w1 r y→R w2 r y) (hlen:(l.length+1) * bytes≤140737488355328) (hlm:l.length+1≤maxLen)
  (hK:∀ v' w',OwnR B e k R w' v' (l++[x])→Mod (fun b=>v.ownBlock=some b) w w'→(∀ g,v'.ownBlock=some g→v.ownBlock=some g∨w.heap.size≤g)→K v' w') :
  rowK e k 1 zero parts (fun s w1=>runK P (Builtin.append_ #[t,t] t [v,s].toArray) K w1) w:=by
 obtain ⟨c,h1,_,v',w',h2,_,h3⟩:=push_g2 (t:=t) (K:=K) (Q1:=fun _=>True) (Q2:=fun _ _=>True) hE h hB hf hcs hx hone hR hlen hlm (fun _ _=>trivial) fun w1 v' w' k1 _ k2 k3=>⟨trivial,hK v' w' k1 k2 k3⟩
 exact ⟨c,h1,v',w',h2,h3⟩
theorem push_n {α:Type} {P:Program} {t e k bytes:Nat} {R:World→List Value→α→Prop} {w0 w:World} {v:Value} {l:List α} {x:α} {zero:List Value} {parts:List (Nat × Value)} {cs:List Value} {K:Cont} (hE:ElemOK P t e k bytes) (h:OwnR w0.heap.size e k R w v l) (hg:Grow w0 w)
  (hf:Instr.fill (fun i=>some (i * k,k)) ((Array.range (1 * k)).map (zero.toArray[· % zero.toArray.size]!)) parts=some cs.toArray) (hcs:cs.length=k) (hx:R w cs x) (hone:∀ w r y,R w r y→∀ u ∈ r,u.oneCell'=true)
  (hR:∀ w1 w2 r y,w.heap.size≤w1.heap.size→Mod (fun b=>v.ownBlock=some b∨w.heap.size≤b) w1 w2→R w1 r y→R w2 r y) (hlen:(l.length+1) * bytes≤140737488355328) (hlm:l.length+1≤maxLen)
  (hK:∀ v' w',OwnR w0.heap.size e k R w' v' (l++[x])→Grow w0 w'→K v' w') :
  rowK e k 1 zero parts (fun s w1=>runK P (Builtin.append_ #[t,t] t [v,s].toArray) K w1) w:=
 push_g hE h hg.size hf hcs hx hone hR hlen hlm fun v' w' h1 h2 _=>hK v' w' h1 (hg.next h2 fun b hb e=>by have:=(OwnR.ownB h b e).1;omega)
end Go.K
namespace Go.Proofs.YtgmpbihbdbmhoaaGreatDoor
open Go Go.K

def readF:Nat→List Int→Option (List Int)
 | 0,b=>if b=[] then some [] else none
 | f+1,b=>if b=[] then some [] else if (nextB b).2=0 then none else (readF f (b.drop (nextB b).2)).map ((nextB b).1 :: ·)
def readB (b:List Int):Option (List Int):=readF b.length b
theorem readF_fuel:∀ (f g:Nat) (b:List Int),b.length≤f→b.length≤g→readF f b=readF g b:=by
 intro f
 induction f with
 | zero=>
  intro g b hf hg
  have:b=[]:=List.eq_nil_of_length_eq_zero (by omega)
  subst this
  cases g <;> simp [readF]
 | succ f ih=>
  intro g b hf hg
  cases g with
  | zero=>
   have:b=[]:=List.eq_nil_of_length_eq_zero (by omega)
   subst this
   simp [readF]
  | succ g=>
   simp only [readF]
   split
   ·rfl
   ·split
    ·rfl
    ·rw [ih g _ (by simp;omega) (by simp;omega)]
theorem readB_cons {b:List Int} (hb:b≠[]):readB b=if (nextB b).2=0 then none else (readB (b.drop (nextB b).2)).map ((nextB b).1 :: ·):=by
 unfold readB
 obtain ⟨n,hn⟩:∃ n,b.length=n+1:=⟨b.length - 1,by have:=List.length_pos_iff.2 hb;omega⟩
 rw [hn]
 simp only [readF,if_neg hb]
 split
 ·rfl
 ·rw [readF_fuel n _ _ (by simp;omega) (Nat.le_refl _)]
theorem read_ok {S:Nat→Prop} {v:Value} {b:List Int} {w:World} (h:RBytes S w v b) (hb:b.length * 4≤140737488355328) :
  callK Tryz.prog 36 [v] (fun v' w'=>Grow w w'∧match readB b with
   | some l=>∃ sl,v'=.tuple #[sl,.int .i64 0]∧OwnR w.heap.size 21 1 RRune w' sl l
   | none=>v'=.tuple #[.slice none 0 0,.int .i64 3]) w:=by
 apply S36_ok
 unfold S36
 obtain ⟨a,c,rfl,hm⟩:=h.shape
 have hm':=hm
 simp only [maxLen] at hm'
 refine LoopK_i (fun vs w1=>∃ (i:Nat) (out:Value) (acc:List Int),i≤b.length∧acc.length≤i∧vs=[out,.int .i64 i]∧OwnR w.heap.size 21 1 RRune w1 out acc∧Grow w w1∧readB b=(readB (b.drop i)).map (acc++·)) (fun vs _=>b.length - iOf vs 1)
  ⟨0,_,[],Nat.zero_le _,Nat.le_refl _,rfl,OwnR.nil,Mod.refl _ _,by simp⟩ ?_
 rintro vs w1 ⟨i,out,acc,hi,hacc,rfl,ho,hg,hrd⟩ _
 rw [lenK_i]
 simp only [nth_s,nth_z,List.headD_cons,List.tail_cons]
 rw [ltK_i]
 refine condK_p (fun hlt=>?_) fun hge=>?_
 ·have hlt':i < b.length:=by omega
  have hne:b.drop i≠[]:=by intro e;have:=congrArg List.length e;simp at this;omega
  refine slice_lo (e:=5) (i:=Tryz.t5) (by kernel_rfl) (by kernel_rfl) (by kernel_rfl) (h.grow hg (by decide) fun _ _ h=>h) hi fun v' hv'=>?_
  refine callK_mono (next_ok hv' hne) ?_
  rintro v2 w2 ⟨rfl,g2⟩
  have hnl:=nextB_len (b.drop i)
  rw [List.length_drop] at hnl
  rw [readB_cons hne] at hrd
  generalize nextB (b.drop i)=nx at hnl hrd ⊢
  obtain ⟨r,n⟩:=nx
  simp only at hnl hrd
  refine extK_i (vs:=[.int .i32 r,.int .i64 n]) (by rfl) (extK_i (vs:=[.int .i32 r,.int .i64 n]) (by rfl) ?_)
  rw [eqK_i]
  refine condK_p (fun hz=>?_) fun hz=>?_
  ·refine ⟨hg.trans g2,?_⟩
   rw [if_pos (show n=0 by omega)] at hrd
   rw [hrd,Option.map_none];trivial
  ·rw [if_neg (show ¬ n=0 by omega)] at hrd
   have ho2:OwnR w.heap.size 21 1 RRune w2 out acc:=OwnR.mod ho g2 (fun _ _ h=>h) fun _ _ _ h=>h
   refine push_n elem_rune ho2 (hg.trans g2) (cs:=[.int .i32 r]) (x:=r) (by kernel_rfl) rfl rfl (fun _ _ _=>RRune.one) (fun _ _ _ _ _ _ h=>h) (by omega) (by simp only [maxLen];omega) fun v' w' h1 h2=>?_
   rw [addK_i,wrap64 (by omega) (by omega)]
   refine ⟨⟨i+n,v',acc++[r],by omega,by simp;omega,by simp,h1,h2,?_⟩,?_⟩
   ·rw [hrd,List.drop_drop]
    cases readB (b.drop (i+n)) <;> simp
   ·rw [iOf1,iOf1];omega
 ·have:i=b.length:=by omega
  subst this
  rw [List.drop_length] at hrd
  have e:readB ([]:List Int)=some []:=by simp [readB,readF]
  rw [e] at hrd
  rw [hrd]
  exact ⟨hg,out,rfl,by simpa using ho⟩
end Go.Proofs.YtgmpbihbdbmhoaaGreatDoor

namespace Go.Proofs.YtgmpbihbdbmhoaaGreatDoor
open Go Go.K

def hdSize (b0:Int):Nat:=if b0 < 194 then 0 else if b0 < 224 then 2 else if b0 < 240 then 3 else if b0 < 245 then 4 else 0
def hdLo (b0:Int):Int:=if b0=224 then 160 else if b0=240 then 144 else 128
def hdHi (b0:Int):Int:=if b0=237 then 159 else if b0=244 then 143 else 191
theorem wrap32 {x:Int} (h0:-2147483648≤x) (h1:x < 2147483648):IntKind.i32.wrap x=x:=by
 have e1:(2:Int) ^ IntKind.i32.bits=4294967296:=by decide
 have e2:(2:Int) ^ (IntKind.i32.bits - 1)=2147483648:=by decide
 simp only [IntKind.wrap,e1,e2,IntKind.signed,Bool.true_and,decide_eq_true_eq]
 split <;> omega
theorem cont_step {b:List Int} {i k:Nat} {c r:Int} (hc:b[i]?=some c) (h0:0≤r) (h1:r < 16777216) (c0:0≤c) (c1:c < 256):contB b (k+1) i r=if c < 128∨191 < c then none else contB b k (i+1) (r * 64+c - 128):=by
 simp only [contB,hc]
 rw [wrap32 (x:=r * 64) (by omega) (by omega),wrap32 (x:=c) (by omega) (by omega),wrap32 (x:=r * 64+c) (by omega) (by omega),wrap32 (x:=r * 64+c - 128) (by omega) (by omega)]
theorem head4 {b0:Int} (h0:240≤b0) (h1:b0 < 256):nextHead b0=some (4,b0 - 240):=by
 unfold nextHead
 rw [if_pos h0,wrap32 (x:=b0) (by omega) (by omega),wrap32 (by omega) (by omega)]
theorem head3 {b0:Int} (h0:224≤b0) (h1:b0 < 240):nextHead b0=some (3,b0 - 224):=by
 unfold nextHead
 rw [if_neg (by omega),if_pos h0,wrap32 (x:=b0) (by omega) (by omega),wrap32 (by omega) (by omega)]
theorem head2 {b0:Int} (h0:192≤b0) (h1:b0 < 224):nextHead b0=some (2,b0 - 192):=by
 unfold nextHead
 rw [if_neg (by omega),if_neg (by omega),if_pos h0,wrap32 (x:=b0) (by omega) (by omega),wrap32 (by omega) (by omega)]
theorem next_ascii {b0:Int} {t:List Int} (h0:0≤b0) (h1:b0 < 128):nextB (b0 :: t)=(b0,1):=by
 have hh:nextHead b0=some (1,b0):=by
  unfold nextHead
  rw [if_neg (by omega),if_neg (by omega),if_neg (by omega),if_neg (by omega),wrap32 (by omega) (by omega)]
 unfold nextB
 rw [List.headD_cons,hh]
 simp only [List.length_cons,contB,Nat.sub_self]
 rw [if_neg (by omega),if_pos ⟨by unfold MayR;omega,by unfold oneLen;rw [if_pos h1]⟩]
theorem next_short {b0:Int} {t:List Int} (h1:b0 < 256) (h:(b0 :: t).length < hdSize b0):nextB (b0 :: t)=(0,0):=by
 unfold nextB
 rw [List.headD_cons]
 unfold hdSize at h
 split at h
 ·omega
 split at h
 ·rw [head2 (by omega) (by omega)];simp only;rw [if_pos h]
 split at h
 ·rw [head3 (by omega) (by omega)];simp only;rw [if_pos h]
 split at h
 ·rw [head4 (by omega) (by omega)];simp only;rw [if_pos h]
 ·omega
theorem cont_lt {b:List Int}:∀ {k i:Nat} {r x:Int},contB b k i r=some x→(∀ y ∈ b,0≤y∧y < 256)→0≤r→r * 64 ^ k < 1073741824→k≤3→r * 64 ^ k≤x∧x≤r * 64 ^ k+64 ^ k - 1:=by
 intro k
 induction k with
 | zero=>intro i r x h _ _ _ _;simp only [contB] at h;cases h;simp
 | succ k ih=>
  intro i r x h hb h0 h1 hk
  cases hc:b[i]? with
  | none=>simp [contB,hc] at h
  | some c=>
   have hcb:=hb c (List.mem_iff_getElem?.2 ⟨i,hc⟩)
   have e:(64:Int) ^ (k+1)=64 * 64 ^ k:=by rw [Int.pow_succ];omega
   rw [e] at h1
   have hp:(1:Int)≤64 ^ k:=by
    rcases (show k=0∨k=1∨k=2 by omega) with rfl | rfl | rfl <;> decide
   have h2:r * (64 * 64 ^ k)=(r * 64) * 64 ^ k:=by rw [Int.mul_assoc]
   rw [h2] at h1
   have hr:r * 64≤r * 64 * 64 ^ k:=by
    have:=Int.mul_le_mul_of_nonneg_left hp (show 0≤r * 64 by omega)
    omega
   rw [cont_step hc h0 (by omega) hcb.1 hcb.2] at h
   split at h
   ·cases h
   ·rename_i hcc
    have e3:(r * 64+c - 128) * 64 ^ k=r * 64 * 64 ^ k+(c - 128) * 64 ^ k:=by rw [show r * 64+c - 128=r * 64+(c - 128) by omega,Int.add_mul]
    have hc2:(c - 128) * 64 ^ k≤63 * 64 ^ k:=Int.mul_le_mul_of_nonneg_right (by omega) (by omega)
    have hc3:0≤(c - 128) * 64 ^ k:=Int.mul_nonneg (by omega) (by omega)
    have hp3:(64:Int) ^ k≤4096:=by
     rcases (show k=0∨k=1∨k=2 by omega) with rfl | rfl | rfl <;> decide
    by_cases hbig:(r * 64+c - 128) * 64 ^ k < 1073741824
    ·have:=ih h hb (by omega) hbig (by omega)
     rw [e,h2]
     omega
    ·exfalso
     rw [e3] at hbig
     have hdv:r * 64 * 64 ^ k≤1073741824 - 64 * 64 ^ k:=by
      rcases (show k=0∨k=1∨k=2 by omega) with rfl | rfl | rfl
      ·simp only [Int.pow_zero] at *;omega
      ·simp only [Int.pow_one] at *;omega
      ·rw [show (64:Int) ^ 2=4096 by decide] at *;omega
     omega
theorem next_bad {b0:Int} {t:List Int} (hb:∀ y ∈ b0 :: t,0≤y∧y < 256) (h0:128≤b0) (h:hdSize b0=0):nextB (b0 :: t)=(0,0):=by
 have h1:=(hb b0 List.mem_cons_self).2
 have hc:b0 < 194∨245≤b0:=by
  unfold hdSize at h
  (repeat' split at h) <;> omega
 unfold nextB
 rw [List.headD_cons]
 by_cases h2:b0 < 192
 ·have hh:nextHead b0=none:=by
   unfold nextHead
   rw [if_neg (by omega),if_neg (by omega),if_neg (by omega),if_pos h0]
  rw [hh]
 by_cases h3:b0 < 194
 ·rw [head2 (by omega) (by omega)]
  simp only
  split
  ·rfl
  ·split
   ·rfl
   ·rename_i x hx
    have:=cont_lt hx hb (by omega) (by omega) (by omega)
    rw [if_neg]
    rintro ⟨_,ho⟩
    unfold oneLen at ho
    rw [if_pos (by omega)] at ho
    omega
 ·rw [head4 (by omega) (by omega)]
  simp only
  split
  ·rfl
  ·split
   ·rfl
   ·rename_i x hx
    have:=cont_lt hx hb (by omega) (by omega) (by omega)
    rw [if_neg]
    rintro ⟨hm,_⟩
    unfold MayR at hm
    omega
theorem next_2 {b0 c1:Int} {t:List Int} (h:hdSize b0=2) (c0:0≤c1) (c2:c1 < 256) :
  nextB (b0 :: c1 :: t)=if hdLo b0≤c1∧c1≤hdHi b0 then ((b0 - 192) * 64+(c1 - 128),2) else (0,0):=by
 have hb:194≤b0∧b0 < 224:=by
  unfold hdSize at h
  (repeat' split at h) <;> omega
 have hl:hdLo b0=128:=by unfold hdLo;rw [if_neg (by omega),if_neg (by omega)]
 have hh:hdHi b0=191:=by unfold hdHi;rw [if_neg (by omega),if_neg (by omega)]
 unfold nextB
 rw [List.headD_cons,head2 (by omega) (by omega)]
 simp only
 rw [if_neg (by simp),cont_step (b:=b0 :: c1 :: t) (i:=1) (c:=c1) rfl (by omega) (by omega) c0 c2,hl,hh]
 by_cases hc:c1 < 128∨191 < c1
 ·rw [if_pos hc,if_neg (by omega)]
 ·rw [if_neg hc,if_pos (by omega)]
  simp only [contB]
  rw [if_pos ⟨by unfold MayR;omega,by unfold oneLen;rw [if_neg (by omega),if_pos (by omega)]⟩]
  congr 1;omega
theorem next_3 {b0 c1 c2:Int} {t:List Int} (h:hdSize b0=3) (c0:0≤c1) (c0':c1 < 256) (d0:0≤c2) (d0':c2 < 256) :
  nextB (b0 :: c1 :: c2 :: t)=if (hdLo b0≤c1∧c1≤hdHi b0)∧128≤c2∧c2≤191 then ((b0 - 224) * 4096+(c1 - 128) * 64+(c2 - 128),3) else (0,0):=by
 have hb:224≤b0∧b0 < 240:=by
  unfold hdSize at h
  (repeat' split at h) <;> omega
 have hl:hdLo b0=if b0=224 then 160 else 128:=by
  unfold hdLo;split
  ·rfl
  ·rw [if_neg (by omega)]
 have hh:hdHi b0=if b0=237 then 159 else 191:=by
  unfold hdHi;split
  ·rfl
  ·rw [if_neg (by omega)]
 unfold nextB
 rw [List.headD_cons,head3 (by omega) (by omega)]
 simp only
 rw [if_neg (by simp),cont_step (b:=b0 :: c1 :: c2 :: t) (i:=1) (c:=c1) rfl (by omega) (by omega) c0 c0',hl,hh]
 by_cases hc:c1 < 128∨191 < c1
 ·rw [if_pos hc,if_neg]
  rintro ⟨⟨h1,h2⟩,_⟩
  split at h1 <;> split at h2 <;> omega
 rw [if_neg hc,cont_step (b:=b0 :: c1 :: c2 :: t) (i:=2) (c:=c2) rfl (by omega) (by omega) d0 d0']
 by_cases hd:c2 < 128∨191 < c2
 ·rw [if_pos hd,if_neg (by omega)]
 rw [if_neg hd]
 simp only [contB]
 by_cases ha:((if b0=224 then (160:Int) else 128)≤c1∧c1≤(if b0=237 then (159:Int) else 191))
 ·have hA:=(show (_∧128≤c2∧c2≤191) from ⟨ha,by omega⟩)
  rw [if_pos hA,if_pos]
  ·congr 1;omega
  ·obtain ⟨h1,h2⟩:=ha
   refine ⟨?_,?_⟩
   ·unfold MayR
    split at h1 <;> split at h2 <;> omega
   ·unfold oneLen
    rw [if_neg (by split at h1 <;> omega),if_neg (by split at h1 <;> omega),if_pos (by omega)]
 ·rw [if_neg (fun x:(_∧128≤c2∧c2≤191)=>ha x.1),if_neg]
  rintro ⟨hm,ho⟩
  apply ha
  unfold MayR at hm
  have:¬ (b0 - 224) * 64 * 64+(c1 - 128) * 64+c2 - 128 < 2048:=by
   intro hx
   unfold oneLen at ho
   split at ho
   ·cases ho
   ·split at ho
    ·cases ho
    ·omega
  constructor
  ·split <;> omega
  ·split <;> omega
theorem next_4 {b0 c1 c2 c3:Int} {t:List Int} (h:hdSize b0=4) (c0:0≤c1) (c0':c1 < 256) (d0:0≤c2) (d0':c2 < 256) (e0:0≤c3) (e0':c3 < 256) :
  nextB (b0 :: c1 :: c2 :: c3 :: t)=if (hdLo b0≤c1∧c1≤hdHi b0)∧(128≤c2∧c2≤191)∧128≤c3∧c3≤191 then ((b0 - 240) * 262144+(c1 - 128) * 4096+(c2 - 128) * 64+(c3 - 128),4) else (0,0):=by
 have hb:240≤b0∧b0 < 245:=by
  unfold hdSize at h
  (repeat' split at h) <;> omega
 have hl:hdLo b0=if b0=240 then 144 else 128:=by unfold hdLo;rw [if_neg (by omega)]
 have hh:hdHi b0=if b0=244 then 143 else 191:=by unfold hdHi;rw [if_neg (by omega)]
 unfold nextB
 rw [List.headD_cons,head4 (by omega) (by omega)]
 simp only
 rw [if_neg (by simp),cont_step (b:=b0 :: c1 :: c2 :: c3 :: t) (i:=1) (c:=c1) rfl (by omega) (by omega) c0 c0',hl,hh]
 by_cases hc:c1 < 128∨191 < c1
 ·rw [if_pos hc,if_neg]
  rintro ⟨⟨h1,h2⟩,_⟩
  split at h1 <;> split at h2 <;> omega
 rw [if_neg hc,cont_step (b:=b0 :: c1 :: c2 :: c3 :: t) (i:=2) (c:=c2) rfl (by omega) (by omega) d0 d0']
 by_cases hd:c2 < 128∨191 < c2
 ·rw [if_pos hd,if_neg (by omega)]
 rw [if_neg hd,cont_step (b:=b0 :: c1 :: c2 :: c3 :: t) (i:=3) (c:=c3) rfl (by omega) (by omega) e0 e0']
 by_cases he:c3 < 128∨191 < c3
 ·rw [if_pos he,if_neg (by omega)]
 rw [if_neg he]
 simp only [contB]
 by_cases ha:((if b0=240 then (144:Int) else 128)≤c1∧c1≤(if b0=244 then (143:Int) else 191))
 ·have hA:=(show (_∧(128≤c2∧c2≤191)∧128≤c3∧c3≤191) from ⟨ha,by omega⟩)
  rw [if_pos hA,if_pos]
  ·congr 1;omega
  ·obtain ⟨h1,h2⟩:=ha
   refine ⟨?_,?_⟩
   ·unfold MayR
    split at h1 <;> split at h2 <;> omega
   ·unfold oneLen
    rw [if_neg (by split at h1 <;> omega),if_neg (by split at h1 <;> omega),if_neg (by split at h1 <;> omega)]
 ·rw [if_neg (fun x:(_∧(128≤c2∧c2≤191)∧128≤c3∧c3≤191)=>ha x.1),if_neg]
  rintro ⟨hm,ho⟩
  apply ha
  unfold MayR at hm
  have:¬ ((b0 - 240) * 64+(c1 - 128)) * 64 * 64+(c2 - 128) * 64+c3 - 128 < 65536:=by
   intro hx
   unfold oneLen at ho
   split at ho
   ·cases ho
   ·split at ho
    ·cases ho
    ·split at ho
     ·cases ho
     ·omega
  constructor
  ·split <;> omega
  ·split <;> omega
theorem readB_step {b:List Int} (hb:b≠[]):(readB b).isSome=(decide ((nextB b).2≠0) && (readB (b.drop (nextB b).2)).isSome):=by
 rw [readB_cons hb]
 by_cases h:(nextB b).2=0
 ·simp [h]
 ·simp [h]
theorem readB_nil:readB ([]:List Int)=some []:=by simp [readB,readF]
theorem readB_skip:∀ {k:Nat} {b:List Int},k≤b.length→(∀ j x,j < k→b[j]?=some x→0≤x∧x < 128)→(readB b).isSome=(readB (b.drop k)).isSome:=by
 intro k
 induction k with
 | zero=>intro b _ _;rw [List.drop_zero]
 | succ k ih=>
  intro b hk h
  cases b with
  | nil=>simp at hk
  | cons b0 t=>
   have h0:=h 0 b0 (by omega) rfl
   rw [readB_step (by simp),next_ascii h0.1 h0.2]
   simp only [List.drop_succ_cons]
   simp only [ne_eq,Nat.one_ne_zero,not_false_eq_true,decide_true,Bool.true_and,List.drop_zero]
   exact ih (by simpa using hk) fun j x hj hx=>h (j+1) x (by omega) hx
end Go.Proofs.YtgmpbihbdbmhoaaGreatDoor

namespace Go.Proofs.YtgmpbihbdbmhoaaGreatDoor
open Go Go.K

def uvB:Nat→Nat→List Int
 | 0,n=>[(n:Int)]
 | f+1,n=>if n≤127 then [(n:Int)] else ((n % 128+128:Nat):Int) :: uvB f (n / 128)
def uv (n:Nat):List Int:=uvB 9 n
def zigN (n:Int):Nat:=if 0≤n then (2 * n).toNat else (-2 * n - 1).toNat
theorem zigN_inj {a b:Int} (h:zigN a=zigN b):a=b:=by
 unfold zigN at h
 split at h <;> split at h <;> omega
theorem zigN_lt {n:Int} (h0:-9223372036854775808≤n) (h1:n≤9223372036854775807):zigN n < 18446744073709551616:=by
 unfold zigN;split <;> omega
theorem uvB_pre:∀ {f n m:Nat} {x y:List Int},n < 128 ^ (f+1)→m < 128 ^ (f+1)→uvB f n++x=uvB f m++y→n=m∧x=y:=by
 intro f
 induction f with
 | zero=>
  intro n m x y _ _ h
  simp only [uvB,List.singleton_append,List.cons.injEq] at h
  exact ⟨by omega,h.2⟩
 | succ f ih=>
  intro n m x y hn hm h
  rw [Nat.pow_succ] at hn hm
  simp only [uvB] at h
  by_cases h1:n≤127 <;> by_cases h2:m≤127
  ·rw [if_pos h1,if_pos h2] at h
   simp only [List.singleton_append,List.cons.injEq] at h
   exact ⟨by omega,h.2⟩
  ·rw [if_pos h1,if_neg h2] at h
   simp only [List.cons_append,List.cons.injEq] at h
   omega
  ·rw [if_neg h1,if_pos h2] at h
   simp only [List.cons_append,List.cons.injEq] at h
   omega
  ·rw [if_neg h1,if_neg h2] at h
   simp only [List.cons_append,List.cons.injEq] at h
   have:=ih (Nat.div_lt_of_lt_mul (by omega)) (Nat.div_lt_of_lt_mul (by omega)) h.2
   exact ⟨by omega,this.2⟩
theorem uv_pre {n m:Nat} {x y:List Int} (hn:n < 18446744073709551616) (hm:m < 18446744073709551616) (h:uv n++x=uv m++y):n=m∧x=y:=by
 have e:(18446744073709551616:Nat)≤128 ^ (9+1):=by decide
 exact uvB_pre (by omega) (by omega) h
theorem uvB_len:∀ (f n:Nat),1≤(uvB f n).length∧(uvB f n).length≤f+1:=by
 intro f
 induction f with
 | zero=>intro n;simp [uvB]
 | succ f ih=>
  intro n
  simp only [uvB]
  split
  ·simp
  ·have:=ih (n / 128)
   simp only [List.length_cons];omega
theorem uvB_byte:∀ (f n:Nat),n < 128 ^ (f+1)→∀ x ∈ uvB f n,0≤x∧x < 256:=by
 intro f
 induction f with
 | zero=>intro n hn x hx;simp only [uvB,List.mem_singleton] at hx;subst hx;simp at hn;omega
 | succ f ih=>
  intro n hn x hx
  rw [Nat.pow_succ] at hn
  simp only [uvB] at hx
  split at hx
  ·simp only [List.mem_singleton] at hx;omega
  ·rcases List.mem_cons.1 hx with rfl | hx
   ·omega
   ·exact ih _ (Nat.div_lt_of_lt_mul (by omega)) x hx
theorem uv_byte {n:Nat} (hn:n < 18446744073709551616):∀ x ∈ uv n,0≤x∧x < 256:=by
 have e:(18446744073709551616:Nat)≤128 ^ (9+1):=by decide
 exact uvB_byte 9 n (by omega)

def InA (a:Attr):Prop:=(-9223372036854775808≤a.key∧a.key≤9223372036854775807)∧(0≤a.val.kind∧a.val.kind < 256)∧(-9223372036854775808≤a.val.n∧a.val.n≤9223372036854775807)∧(0≤a.val.f∧a.val.f < 18446744073709551616)∧a.val.s.size < 18446744073709551616
theorem bytesL_inj {s t:ByteArray} (h:bytesL s=bytesL t):s=t:=by
 unfold bytesL at h
 have h2:=(List.map_inj_right (f:=fun b:UInt8=>(b.toNat:Int)) (fun a b e=>UInt8.toNat_inj.1 (Int.ofNat_inj.1 e))).1 h
 cases s;cases t
 simp only [ByteArray.mk.injEq]
 exact Array.toList_inj.1 h2
theorem bytesL_len (s:ByteArray):(bytesL s).length=s.size:=by simp [bytesL]
end Go.Proofs.YtgmpbihbdbmhoaaGreatDoor
