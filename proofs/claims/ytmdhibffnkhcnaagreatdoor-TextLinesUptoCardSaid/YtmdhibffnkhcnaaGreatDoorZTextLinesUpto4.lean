/- parts of the proof, written short by a program of ours -/
import Derived.Test.YtmdhibffnkhcnaaGreatDoorZTextLinesUpto3
set_option linter.unusedSimpArgs false
set_option linter.unusedVariables false
namespace Go.Proofs.YtmdhibffnkhcnaaGreatDoor
open Go Go.K Proofs.Tryz
variable {v0 v1 v2 v3 v4 v5 v6 v7 v8 v9:Value}{K:Cont}{w:World}
theorem Zq(h: AJ v0 fun t9=>
 AM 4 t9 fun j=>
 AK j (fun o y=>
 AB prog 165 [v0,o] (fun i w2=>
 AO 0 i fun _t13=>
 AO 1 i fun _t14=>
 AO 2 i fun x=>
 K x w2) y) w):AB prog 90 [v0] K w:=cO (aN (aN aE)) func90 h (by kernel_rfl)
theorem aq(h: AJ v0 fun E=>
 AM 4 E fun I=>
 AK I (fun O w1=>
 Ay [v1,(.int .i64 0),O] (fun vs i w2=>∀_:Env,
 Au (fun _vs_1 w3=>∀_:Env,
 AB prog 166 [v0,(nth vs 2)] (fun Q w4=>
 An 245 (zR [(.int .i64 0),(.int .i64 0),(.int .i64 0),(.int .i64 0),(.int .i64 0),(.int .i64 0)]) (fun t9 w5=>
 AY 38 t9 Q (fun w6=>
 AM 33 t9 fun S=>
 AK S (fun T w7=>
 AB prog 165 [v0,T] (fun o U=>
 AO 0 o fun _t33=>
 AO 1 o fun x=>
 AO 2 o fun j=>
 Az [7] [[],[0],[0,1],[0,1,2],[0,1,2,3],[],[5],[0,1,2,3,4,5,6],[0,1,2,3,4,5,6,7],[0,1,2,3,4,5,6,7,8],[0,1,2,3,4,5,6,7,8],[0,1,2,3,4,5,6,7,8,9],[0,1,2,3,4,5,6,7,8,9,10,11]] U.drew (fun M St=>
 AJ v0 fun V=>
 AM 0 V fun t39=>
 AM 0 t39 fun X=>
 BD (St 4) X fun Y=>
 AM 0 t9 fun Z=>
 EA (St 6) 33 Z fun a1=>
 BF prog DE Y [a1] (fun y B=>
 Mod (M 7) U.drew B/\
 AO 0 y fun t45=>
 AO 1 y fun t46=>
 Bc .i64 (nth vs 0) j fun a6=>
 AD a6
 (AM 33 t9 fun a7=>
 AK a7 (fun a8 ak=>
 i [(nth vs 0),(nth vs 1),a8] ak) B)
 (AX .i64 j t46 fun al=>
 Bc .i64 (nth vs 0) al fun t70=>
 AD t70
 (AX .i64 (nth vs 1) x fun an=>
 AM 0 t9 fun av=>
 Ac 33 av (fun t76 ax=>
 BX .i64 (nth vs 0) j fun ay=>
 CO prog DE v2 [t76,ay] (fun b0 b1=>
 AX .i64 an b0 fun b2=>
 K (.tuple #[b2,(.bool true)]) b1) ax) B)
 (AX .i64 x t45 fun t50=>
 AX .i64 (nth vs 1) t50 fun b3=>
 AX .i64 j t46 fun t55=>
 BX .i64 (nth vs 0) t55 fun b4=>
 AM 34 t9 fun b5=>
 AK b5 (fun b6 b7=>
 i [b4,b3,b6] b7) B))) U.drew)) w7) w6) w5) w4) w3) (fun J=>
 LB .i64 (nth vs 0) (.int .i64 0) fun b8=>
 AD b8
 (Dm .i64 (nth vs 2) (.int .i64 (-1)) fun b9=>
 AD b9
 (J [] w2)
 (K (.tuple #[(.int .i64 0),(.bool false)]) w2))
 (K (.tuple #[(.int .i64 0),(.bool false)]) w2))) w1) w):AB prog 91 [v0,v1,v2] K w:=cO (aN (aO (aN (.node [1,6,8] [(1,1),(6,14),(19,81)] (.cut [] [(19,24)] (aN aE) (aN (aN (aO (.dc [7] [[],[0],[0,1],[0,1,2],(aR 4),[],[5],(aR 7),(aR 8),(aR 9),(aR 9),(aR 10),(aR 12)] []) (aN (aN (aN (aO aE (aN aE))))))))) .nil)) aE)) func91 h (by kernel_rfl)
theorem Wi(h: AJ v0 fun I=>
 AM 4 I fun J=>
 AK J (fun O w1=>
 Ay [v1,(.int .i64 0),O] (fun vs i w2=>∀_:Env,
 Dm .i64 (nth vs 2) (.int .i64 (-1)) fun Q=>
 AD Q
 (AB prog 166 [v0,(nth vs 2)] (fun t22 w3=>
 An 245 (zR [(.int .i64 0),(.int .i64 0),(.int .i64 0),(.int .i64 0),(.int .i64 0),(.int .i64 0)]) (fun x w4=>
 AY 38 x t22 (fun w5=>
 AM 33 x fun t25=>
 AK t25 (fun S w6=>
 AB prog 165 [v0,S] (fun o T=>
 AO 0 o fun _t28=>
 AO 1 o fun j=>
 AO 2 o fun y=>
 Az [7] [[],[0],[0,1],[0,1,2],[0,1,2,3],[],[5],[0,1,2,3,4,5,6],[0,1,2,3,4,5,6,7],[0,1,2,3,4,5,6,7,8],[0,1,2,3,4,5,6,7,8],[0,1,2,3,4,5,6,7,8,9],[0,1,2,3,4,5,6,7,8,9,10,11]] T.drew (fun M St=>
 AJ v0 fun U=>
 AM 0 U fun V=>
 AM 0 V fun X=>
 BD (St 4) X fun Y=>
 AM 0 x fun Z=>
 EA (St 6) 33 Z fun a1=>
 BF prog DE Y [a1] (fun t39 E=>
 Mod (M 7) T.drew E/\
 AO 0 t39 fun B=>
 AO 1 t39 fun a6=>
 Qj .i64 (nth vs 0) j fun a7=>
 AD a7
 (AM 33 x fun a8=>
 AK a8 (fun ak w9=>
 i [(nth vs 0),(nth vs 1),ak] w9) E)
 (AX .i64 j B fun al=>
 Bc .i64 (nth vs 0) al fun an=>
 AD an
 (AX .i64 (nth vs 1) y fun av=>
 AM 0 x fun t70=>
 Ac 33 t70 (fun ax ay=>
 BX .i64 (nth vs 0) j fun b0=>
 CO prog DE v2 [ax,b0] (fun b1 b2=>
 AX .i64 av b1 fun t76=>
 K t76 b2) ay) E)
 (AX .i64 y a6 fun t45=>
 AX .i64 (nth vs 1) t45 fun t46=>
 AX .i64 j B fun t50=>
 BX .i64 (nth vs 0) t50 fun b3=>
 AM 34 x fun b4=>
 AK b4 (fun t53 b5=>
 i [b3,t46,t53] b5) E))) T.drew)) w6) w5) w4) w3) w2)
 (K (nth vs 1) w2)) w1) w):AB prog 108 [v0,v1,v2] K w:=cO (aN (aO (aN (.node [1,6,7] [(1,1),(6,13),(18,76)] (aO (aN aE) (aN (aN (aO (.dc [7] [[],[0],[0,1],[0,1,2],(aR 4),[],[5],(aR 7),(aR 8),(aR 9),(aR 9),(aR 10),(aR 12)] []) (aN (aN (aN (aO aE (aN aE))))))))) .nil)) aE)) func108 h (by kernel_rfl)
end Go.Proofs.YtmdhibffnkhcnaaGreatDoor
