/- parts of the proof, written short by a program of ours -/
import Derived.Test.YtmdhibffnkhcnaaGreatDoorZTextNormalUpto4
set_option linter.unusedSimpArgs false
set_option linter.unusedVariables false
namespace Go.Proofs.YtmdhibffnkhcnaaGreatDoor
open Go Proofs.Tryz
section
variable {v0 v1 v2 v3 v4 v5 v6 v7 v8 v9:Value}{K:Cont}{w:World}
theorem dq(h: AJ v0 fun t9=>
 AM 4 t9 fun j=>
 AL j (fun o E=>
 AB prog 165 [v0,o] (fun i w2=>
 AQ 0 i fun _t13=>
 AQ 1 i fun _t14=>
 AQ 2 i fun B=>
 K B w2) E) w):AB prog 90 [v0] K w:=cO (aN (aN aE)) func90 h (by kernel_rfl)
theorem fj(h: AJ v0 fun O=>
 AM 4 O fun Q=>
 AL Q (fun S w1=>
 Aq [v1,(.int .i64 0),S] (fun vs i w2=>∀_:Env,
 Ao (fun _vs_1 w3=>∀_:Env,
 AB prog 166 [v0,(nth vs 2)] (fun T w4=>
 Am 245 (zR [(.int .i64 0),(.int .i64 0),(.int .i64 0),(.int .i64 0),(.int .i64 0),(.int .i64 0)]) (fun t9 w5=>
 Ac 38 t9 T (fun w6=>
 AM 33 t9 fun U=>
 AL U (fun V w7=>
 AB prog 165 [v0,V] (fun o X=>
 AQ 0 o fun _t33=>
 AQ 1 o fun B=>
 AQ 2 o fun j=>
 Ay [7] [[],[0],[0,1],[0,1,2],[0,1,2,3],[],[5],[0,1,2,3,4,5,6],[0,1,2,3,4,5,6,7],[0,1,2,3,4,5,6,7,8],[0,1,2,3,4,5,6,7,8],[0,1,2,3,4,5,6,7,8,9],[0,1,2,3,4,5,6,7,8,9,10,11]] X.drew (fun M St=>
 AJ v0 fun Y=>
 AM 0 Y fun t39=>
 AM 0 t39 fun Z=>
 BF (St 4) Z fun a1=>
 AM 0 t9 fun a6=>
 EM (St 6) 33 a6 fun a7=>
 BM prog Dh a1 [a7] (fun E I=>
 Mod (M 7) X.drew I/\
 AQ 0 E fun t45=>
 AQ 1 E fun t46=>
 Bb .i64 (nth vs 0) j fun a8=>
 AD a8
 (AM 33 t9 fun ak=>
 AL ak (fun al an=>
 i [(nth vs 0),(nth vs 1),al] an) I)
 (AX .i64 j t46 fun av=>
 Bb .i64 (nth vs 0) av fun t70=>
 AD t70
 (AX .i64 (nth vs 1) B fun ax=>
 AM 0 t9 fun ay=>
 Af 33 ay (fun t76 b0=>
 BW .i64 (nth vs 0) j fun b3=>
 Ci prog Dh v2 [t76,b3] (fun b4 b5=>
 AX .i64 ax b4 fun b6=>
 K (.tuple #[b6,(.bool true)]) b5) b0) I)
 (AX .i64 B t45 fun t50=>
 AX .i64 (nth vs 1) t50 fun b7=>
 AX .i64 j t46 fun t55=>
 BW .i64 (nth vs 0) t55 fun b8=>
 AM 34 t9 fun b9=>
 AL b9 (fun ba bb=>
 i [b8,b7,ba] bb) I))) X.drew)) w7) w6) w5) w4) w3) (fun J=>
 Kk .i64 (nth vs 0) (.int .i64 0) fun bc=>
 AD bc
 (EB .i64 (nth vs 2) (.int .i64 (-1)) fun bd=>
 AD bd
 (J [] w2)
 (K (.tuple #[(.int .i64 0),(.bool false)]) w2))
 (K (.tuple #[(.int .i64 0),(.bool false)]) w2))) w1) w):AB prog 91 [v0,v1,v2] K w:=cO (aN (aO (aN (.node [1,6,8] [(1,1),(6,14),(19,81)] (.cut [] [(19,24)] (aN aE) (aN (aN (aO (.dc [7] (aQ0 [[],[5],(aR 7),(aR 8),(aR 9),(aR 9),(aR 10),(aR 12)]) []) (aN (aN (aN (aO aE (aN aE))))))))) .nil)) aE)) func91 h (by kernel_rfl)
theorem ZA(h: AJ v0 fun O=>
 AM 4 O fun Q=>
 AL Q (fun S w1=>
 Aq [v1,(.int .i64 0),S] (fun vs i w2=>∀_:Env,
 EB .i64 (nth vs 2) (.int .i64 (-1)) fun T=>
 AD T
 (AB prog 166 [v0,(nth vs 2)] (fun t22 w3=>
 Am 245 (zR [(.int .i64 0),(.int .i64 0),(.int .i64 0),(.int .i64 0),(.int .i64 0),(.int .i64 0)]) (fun B w4=>
 Ac 38 B t22 (fun w5=>
 AM 33 B fun t25=>
 AL t25 (fun U w6=>
 AB prog 165 [v0,U] (fun o V=>
 AQ 0 o fun _t28=>
 AQ 1 o fun j=>
 AQ 2 o fun E=>
 Ay [7] [[],[0],[0,1],[0,1,2],[0,1,2,3],[],[5],[0,1,2,3,4,5,6],[0,1,2,3,4,5,6,7],[0,1,2,3,4,5,6,7,8],[0,1,2,3,4,5,6,7,8],[0,1,2,3,4,5,6,7,8,9],[0,1,2,3,4,5,6,7,8,9,10,11]] V.drew (fun M St=>
 AJ v0 fun X=>
 AM 0 X fun Y=>
 AM 0 Y fun Z=>
 BF (St 4) Z fun a1=>
 AM 0 B fun a6=>
 EM (St 6) 33 a6 fun a7=>
 BM prog Dh a1 [a7] (fun t39 J=>
 Mod (M 7) V.drew J/\
 AQ 0 t39 fun I=>
 AQ 1 t39 fun a8=>
 SQ .i64 (nth vs 0) j fun ak=>
 AD ak
 (AM 33 B fun al=>
 AL al (fun an w9=>
 i [(nth vs 0),(nth vs 1),an] w9) J)
 (AX .i64 j I fun av=>
 Bb .i64 (nth vs 0) av fun ax=>
 AD ax
 (AX .i64 (nth vs 1) E fun ay=>
 AM 0 B fun t70=>
 Af 33 t70 (fun b0 b3=>
 BW .i64 (nth vs 0) j fun b4=>
 Ci prog Dh v2 [b0,b4] (fun b5 b6=>
 AX .i64 ay b5 fun t76=>
 K t76 b6) b3) J)
 (AX .i64 E a8 fun t45=>
 AX .i64 (nth vs 1) t45 fun t46=>
 AX .i64 j I fun t50=>
 BW .i64 (nth vs 0) t50 fun b7=>
 AM 34 B fun b8=>
 AL b8 (fun t53 b9=>
 i [b7,t46,t53] b9) J))) V.drew)) w6) w5) w4) w3) w2)
 (K (nth vs 1) w2)) w1) w):AB prog 108 [v0,v1,v2] K w:=cO (aN (aO (aN (.node [1,6,7] [(1,1),(6,13),(18,76)] (aO (aN aE) (aN (aN (aO (.dc [7] (aQ0 [[],[5],(aR 7),(aR 8),(aR 9),(aR 9),(aR 10),(aR 12)]) []) (aN (aN (aN (aO aE (aN aE))))))))) .nil)) aE)) func108 h (by kernel_rfl)
end
end Go.Proofs.YtmdhibffnkhcnaaGreatDoor
