/- parts of the proof, written short by a program of ours -/
import Derived.Test.YtmdhibffnkhcnaaGreatDoorZTextLinesUpto6
set_option linter.unusedSimpArgs false
set_option linter.unusedVariables false
namespace Go.Proofs.YtmdhibffnkhcnaaGreatDoor
open Go Go.K Proofs.Tryz
variable {v0 v1 v2 v3 v4 v5 v6 v7 v8 v9:Value}{K:Cont}{w:World}
theorem aY(h: Al v1 fun x=>
 Ay [(.int .i64 0),(.int .i64 0)] (fun vs i Y=>∀_:Env,
 Bc .i64 (nth vs 1) x fun y=>
 AD y
 (Be 5 v1 (nth vs 1) fun B=>
 Ac 5 B (fun E w2=>
 An 83 [(.int .u8 0),(.int .i64 0),(.slice none 0 0),(.slice none 0 0),(.slice none 0 0)] (fun Z w3=>
 AY 5 Z E (fun w4=>
 Ac 5 Z (fun I w5=>
 AB prog 153 [v0,I] (fun j J=>
 DI .i64 j (.int .i64 3) fun O=>
 AD O
 (K j J)
 (Dm .i64 j (.int .i64 0) fun Q=>
 AD Q
 (AX .i64 (nth vs 1) (.int .i64 1) fun S=>
 i [j,S] J)
 (AX .i64 (nth vs 1) (.int .i64 1) fun o=>
 i [(nth vs 0),o] J))) w5) w4) w3) w2) Y)
 (AB prog 81 [v1] (fun T w7=>
 EX .i64 T (.int .i64 536870912) fun U=>
 AD U
 (K (.int .i64 3) w7)
 (AB prog 84 [v1] (fun V w8=>
 EX .i64 V (.int .i64 536870912) fun X=>
 AD X
 (K (.int .i64 3) w8)
 (K (nth vs 0) w8)) w7)) Y)) w):AB prog 80 [v0,v1] K w:=cO (aN (aN (aO (aN (.node [5,11] [(4,5),(7,8),(11,26)] (aN (aO aE (aO (aN (aN (aN (aO aE (aN aE))))) .nil))) .nil)) (aO (aN (aO aE .nil)) aE)))) func80 h (by kernel_rfl)
theorem WU(h: Ba 83 v1 (fun t3 Z=>
 Au (fun _vs w2=>∀_:Env,
 AM 3 t3 fun o=>
 AK o (fun x w3=>
 AB prog 142 [v0,x] (fun t22 w4=>
 Dm .i64 t22 (.int .i64 0) fun y=>
 AD y
 (K t22 w4)
 (AM 4 t3 fun B=>
 AK B (fun E w5=>
 AB prog 240 [v0,E] (fun I w6=>
 K I w6) w5) w4)) w3) w2) (fun J=>
 Ac 5 t3 (fun t6 w7=>
 AB prog 239 [t6] (fun t7 Y=>
 Bt t7 fun t8=>
 AD t8
 (K (.int .i64 3) Y)
 (Ac 5 t3 (fun O w9=>
 AB prog 155 [O] (fun Q i=>
 Bc .i64 Q (.int .i64 1) fun S=>
 AD S
 (K (.int .i64 3) i)
 (Ac 5 t3 (fun T U=>
 AB prog 155 [T] (fun V j=>
 EX .i64 V (.int .i64 536870912) fun X=>
 AD X
 (K (.int .i64 3) j)
 (J [] j)) U) i)) w9) Y)) w7) Z)) w):AB prog 153 [v0,v1] K w:=cO (aN (.cut [] [(4,4),(6,18)] (aN (aO aE .nil)) (aO (aN (aN (aO aE .nil))) aE))) func153 h (by kernel_rfl)
theorem Wy(h: Ba 83 v0 (fun i w1=>
 Au (fun vs w2=>∀_:Env,
 AM 0 i fun x=>
 AK x (fun j o=>
 DI .u8 j (.int .u8 1) fun y=>
 AD y
 (Bt (nth vs 0) fun B=>
 K B o)
 (DI .u8 j (.int .u8 3) fun E=>
 AD E
 (Bt (nth vs 0) fun I=>
 AD I
 (AM 4 i fun t25=>
 AK t25 (fun O w4=>
 Al O fun Q=>
 DI .i64 Q (.int .i64 0) fun S=>
 K S w4) o)
 (K (.bool false) o))
 (DI .u8 j (.int .u8 2) fun T=>
 AD T
 (AM 1 i fun U=>
 AK U (fun V w5=>
 DI .i64 V (.int .i64 0) fun X=>
 AD X
 (AM 4 i fun Y=>
 AK Y (fun Z w6=>
 Al Z fun a1=>
 DI .i64 a1 (.int .i64 0) fun t39=>
 AD t39
 (AM 2 i fun a6=>
 AK a6 (fun a7 w7=>
 AB prog 224 [a7,(.func (.func 280) #[] #[])] (fun a8 w8=>
 Bt a8 fun t45=>
 K t45 w8) w7) w6)
 (K (.bool false) w6)) w5)
 (K (.bool false) w5)) o)
 (K (.bool false) o)))) w2) (fun J=>
 AM 2 i fun t4=>
 AK t4 (fun t5 w9=>
 Al t5 fun t6=>
 EX .i64 t6 (.int .i64 0) fun t7=>
 AD t7
 (J [(.bool true)] w9)
 (AM 3 i fun t9=>
 AK t9 (fun ak al=>
 Al ak fun an=>
 EX .i64 an (.int .i64 0) fun av=>
 J [av] al) w9)) w1)) w):AB prog 239 [v0] K w:=cO (aN (.cut [3] [(3,13)] .nil (aO (aN (aN (aO aE (aN (aO aE (aN (aO aE .nil))))))) aE))) func239 h (by kernel_rfl)
theorem Ww(h: AB prog 194 [v0] (fun t4 i=>
 Bt t4 fun t5=>
 K t5 i) w):AB prog 280 [v0] K w:=cO (aN aE) func280 h (by kernel_rfl)
theorem WM(h: Ba 83 v0 (fun i o=>
 AM 0 i fun t3=>
 AK t3 (fun t4 w2=>
 DI .u8 t4 (.int .u8 2) fun t5=>
 AD t5
 (AM 2 i fun x=>
 AK x (fun y B=>
 Al y fun E=>
 K E B) w2)
 (AM 1 i fun t9=>
 AK t9 (fun j w4=>
 K j w4) w2)) o) w):AB prog 155 [v0] K w:=cO (aN (aO (aN (aO aE .nil)) aE)) func155 h (by kernel_rfl)
theorem aH(h: Al v0 fun U=>
 Ay [(.int .i64 0),(.int .i64 0)] (fun vs i S=>∀_:Env,
 Bc .i64 (nth vs 1) U fun t9=>
 AD t9
 (Be 5 v0 (nth vs 1) fun o=>
 Ac 5 o (fun x w2=>
 An 83 [(.int .u8 0),(.int .i64 0),(.slice none 0 0),(.slice none 0 0),(.slice none 0 0)] (fun t5 V=>
 AY 5 t5 x (fun w4=>
 AM 0 t5 fun y=>
 AK y (fun B T=>
 Dm .u8 B (.int .u8 2) fun E=>
 AD E
 (AM 1 t5 fun I=>
 AK I (fun J X=>
 AX .i64 (nth vs 0) J fun O=>
 AX .i64 (nth vs 1) (.int .i64 1) fun Q=>
 i [O,Q] X) T)
 (AX .i64 (nth vs 1) (.int .i64 1) fun j=>
 i [(nth vs 0),j] T)) w4) V) w2) S)
 (K (nth vs 0) S)) w):AB prog 81 [v0] K w:=cO (aN (aN (aO (aN (.node [3,8] [(3,3),(5,5),(8,19)] (aN (aO aE (aO (aN (aN aE)) .nil))) .nil)) aE))) func81 h (by kernel_rfl)
theorem bA(h: Al v0 fun U=>
 Ay [(.int .i64 0),(.int .i64 0)] (fun vs i S=>∀_:Env,
 Bc .i64 (nth vs 1) U fun t9=>
 AD t9
 (Be 5 v0 (nth vs 1) fun o=>
 Ac 5 o (fun x w2=>
 An 83 [(.int .u8 0),(.int .i64 0),(.slice none 0 0),(.slice none 0 0),(.slice none 0 0)] (fun t5 V=>
 AY 5 t5 x (fun w4=>
 AM 0 t5 fun y=>
 AK y (fun B T=>
 Dm .u8 B (.int .u8 3) fun E=>
 AD E
 (Ac 5 t5 (fun I X=>
 AB prog 155 [I] (fun J Y=>
 AX .i64 (nth vs 0) J fun O=>
 AX .i64 (nth vs 1) (.int .i64 1) fun Q=>
 i [O,Q] Y) X) T)
 (AX .i64 (nth vs 1) (.int .i64 1) fun j=>
 i [(nth vs 0),j] T)) w4) V) w2) S)
 (K (nth vs 0) S)) w):AB prog 84 [v0] K w:=cO (aN (aN (aO (aN (.node [3,8] [(3,3),(5,5),(8,19)] (aN (aO aE (aO (aN (aN aE)) .nil))) .nil)) aE))) func84 h (by kernel_rfl)
theorem Xz(h: AB prog 249 [v0] (fun t4 i=>
 K t4 i) w):AB prog 194 [v0] K w:=cO (aN aE) func194 h (by kernel_rfl)
theorem Wc(h: Qj .i32 (.int .i32 0) v0 fun t5=>
 AD t5
 (Bc .i32 v0 (.int .i32 55296) fun y=>
 AD y
 (K (.bool true) w)
 (Bc .i32 (.int .i32 57343) v0 fun o=>
 AD o
 (Qj .i32 v0 (.int .i32 1114111) fun x=>
 AD x
 (K (.bool true) w)
 (K (.bool false) w))
 (K (.bool false) w)))
 (Bc .i32 (.int .i32 57343) v0 fun i=>
 AD i
 (Qj .i32 v0 (.int .i32 1114111) fun j=>
 AD j
 (K (.bool true) w)
 (K (.bool false) w))
 (K (.bool false) w))):AB prog 249 [v0] K w:=cO (aN (aO (aN (aO aE (aN (aO aE .nil)))) aE)) func249 h (by kernel_rfl)
theorem Q6(h: AB prog 265 [v0,v1] (fun i j=>
 LB .i64 i (.int .i64 0) fun o=>
 K o j) w):AB prog 224 [v0,v1] K w:=cO (aN aE) func224 h (by kernel_rfl)
theorem Qk(h: Al v0 fun I=>
 Ay [(.int .i64 0)] (fun vs i B=>∀_:Env,
 Bc .i64 (nth vs 0) I fun t9=>
 AD t9
 (Be 1 v0 (nth vs 0) fun j=>
 AK j (fun o w2=>
 CO prog DE v1 [o] (fun x E=>
 AD x
 (K (nth vs 0) E)
 (AX .i64 (nth vs 0) (.int .i64 1) fun y=>
 i [y] E)) w2) B)
 (K (.int .i64 (-1)) B)) w):AB prog 265 [v0,v1] K w:=cO (aN (aO (aN (.node [8] [(4,5),(8,18)] (aN (aO aE (aO (aN (aN (aO aE .nil))) .nil))) .nil)) aE)) func265 h (by kernel_rfl)
theorem XM(h: Al v1 fun ay=>
 EX .i64 ay (.int .i64 64) fun b0=>
 AD b0
 (K (.int .i64 3) w)
 (Al v1 fun b1=>
 Ay [(.int .i64 0),(.int .i64 0)] (fun vs x w1=>∀_:Env,
 Bc .i64 (nth vs 1) b1 fun b2=>
 AD b2
 (Au (fun U w2=>∀_:Env,
 AX .i64 (nth vs 1) (.int .i64 1) fun b3=>
 x [(nth U 0),b3] w2) (fun J=>
 Be 6 v1 (nth vs 1) fun b4=>
 Ac 6 b4 (fun b5 w3=>
 An 133 [(.int .i64 0),(.bool false),(.int .u8 0),(.int .i64 0),(.int .u64 0),(.string (ByteArray.mk #[]))] (fun j w4=>
 AY 6 j b5 (fun w5=>
 AM 0 j fun t22=>
 AK t22 (fun b6 w6=>
 AB prog 131 [v0,b6] (fun V w7=>
 AO 0 V fun t25=>
 AO 1 V fun b7=>
 An 65 [(.int .i64 0),(.bool false),(.int .u8 0),(.bool false),(.bool false),(.int .i64 0)] (fun t8 w8=>
 AY 6 t8 t25 (fun w9=>
 Au (fun X y=>∀_:Env,
 AD (nth X 0)
 (K (.int .i64 3) y)
 (Bt b7 fun b8=>
 AD b8
 (J [(.int .i64 4)] y)
 (AM 1 j fun b9=>
 AK b9 (fun ba Y=>
 Bt ba fun bc=>
 AD bc
 (AM 0 j fun bd=>
 AK bd (fun bk bl=>
 AM 2 j fun bp=>
 Ac 4 bp (fun t70 bs=>
 AB prog 209 [v0,bk,t70] (fun bx Z=>
 Bt bx fun c4=>
 AD c4
 (J [(.int .i64 4)] Z)
 (J [(nth vs 0)] Z)) bs) bl) Y)
 (J [(nth vs 0)] Y)) y))) (fun i=>
 Au (fun o a1=>∀_:Env,
 AD (nth o 0)
 (i [(nth o 0)] a1)
 (AM 1 j fun c6=>
 AK c6 (fun c7 a6=>
 AD c7
 (AM 2 j fun c8=>
 Ac 4 c8 (fun t45 c9=>
 Af [(0,1),(1,1),(2,1),(3,1)] [(.int .u8 0),(.int .i64 0),(.int .u64 0),(.string (ByteArray.mk #[]))] [] fun t46=>
 runK prog (BZ .neq 77 (.tmp 45) (.tmp 46) t45 t46) (fun a7 a8=>
 AD a7
 (i [a7] a8)
 (AM 1 j fun ca=>
 AK ca (fun t50 ak=>
 Bt t50 fun cc=>
 AD cc
 (AM 2 j fun t53=>
 Ac 4 t53 (fun cd ch=>
 AB prog 208 [cd] (fun t55 cn=>
 Bt t55 fun cv=>
 i [cv] cn) ch) ak)
 (i [(.bool false)] ak)) a8)) c9) a6)
 (AM 1 j fun B=>
 AK B (fun E al=>
 Bt E fun I=>
 AD I
 (AM 2 j fun O=>
 Ac 4 O (fun Q cx=>
 AB prog 208 [Q] (fun S dk=>
 Bt S fun T=>
 i [T] dk) cx) al)
 (i [(.bool false)] al)) a6)) a1)) (fun an=>
 DY w9 (fun C=>
 EX .i64 (nth vs 1) (.int .i64 0) fun du=>
 AD du
 (BX .i64 (nth vs 1) (.int .i64 1) fun dv=>
 Be 6 v1 dv fun dw=>
 AM 0 dw fun dx=>
 BI C dx fun dy=>
 AM 0 j fun dz=>
 BI C dz fun dT=>
 LB .i64 dy dT fun t39=>
 ∀av:World,C av->
 an [t39] av)
 (∀ ax:World,C ax->
 an [(.bool false)] ax))))) w8) w7) w6) w5) w4) w3) w1))
 (K (nth vs 0) w1)) w)):AB prog 240 [v0,v1] K w:=cO (aN (aO (aN (aO aE .nil)) (aN (aO (aN (.node [5,15] [(4,9),(15,75)] (aN (aO aE (.cut [5] [(4,9),(17,74)] (aN (aN (.cut [27] [(27,57)] (.cut [27] [(27,40)] .draw (aN (aN aE))) (aO aE (aN aE))))) .nil))) .nil)) aE)))) func240 h (by kernel_rfl)
theorem V6(h: Al v1 fun T=>
 Ay [(.slice none 0 0),(.int .i64 0),(.int .i64 0)] (fun vs B w1=>∀_:Env,
 Bc .i64 (nth vs 2) T fun U=>
 AD U
 (Au (fun y w2=>∀_:Env,
 AX .i64 (nth vs 2) (.int .i64 1) fun t70=>
 B [(nth y 0),(nth y 1),t70] w2) (fun J=>
 Be 6 v1 (nth vs 2) fun V=>
 Ac 6 V (fun X w3=>
 An 133 [(.int .i64 0),(.bool false),(.int .u8 0),(.int .i64 0),(.int .u64 0),(.string (ByteArray.mk #[]))] (fun x w4=>
 AY 6 x X (fun w5=>
 Ay [(nth vs 0),(nth vs 1)] (fun i o w6=>∀_:Env,
 Al v0 fun Y=>
 Bc .i64 (nth i 1) Y fun Z=>
 AD Z
 (Au (fun j w7=>∀_:Env,
 AM 1 x fun a1=>
 AK a1 (fun a6 w8=>
 Bt a6 fun t50=>
 AD t50
 (AM 0 x fun a7=>
 AK a7 (fun t53 w9=>
 AM 2 x fun a8=>
 Ac 4 a8 (fun t55 ak=>
 Af [(0,1),(1,4)] [(.int .i64 0),(.int .u8 0),(.int .i64 0),(.int .u64 0),(.string (ByteArray.mk #[]))] [(0,t53),(1,t55)] fun al=>
 Bh 79 5 1 [(.int .i64 0),(.int .u8 0),(.int .i64 0),(.int .u64 0),(.string (ByteArray.mk #[]))] [(0,al)] (fun an av=>
 runK prog (Builtin.append_ #[43,43] 43 [(nth j 0),an].toArray) (fun ax ay=>
 J [ax,(nth j 1)] ay) av) ak) w9) w8)
 (J [(nth j 0),(nth j 1)] w8)) w7) (fun Q=>
 DY w6 (fun C=>
 Be 5 v0 (nth i 1) fun b0=>
 AM 0 b0 fun t25=>
 BI C t25 fun b1=>
 AM 0 x fun b2=>
 BI C b2 fun b3=>
 Bc .i64 b1 b3 fun b4=>
 ∀E:World,C E->
 AD b4
 (Be 5 v0 (nth i 1) fun b5=>
 Ac 5 b5 (fun b6 b7=>
 Bh 79 5 1 [(.int .i64 0),(.int .u8 0),(.int .i64 0),(.int .u64 0),(.string (ByteArray.mk #[]))] [(0,b6)] (fun b8 b9=>
 runK prog (Builtin.append_ #[43,43] 43 [(nth i 0),b8].toArray) (fun ba bc=>
 AX .i64 (nth i 1) (.int .i64 1) fun bd=>
 o [ba,bd] bc) b9) b7) E)
 (DY E (fun I=>
 Be 5 v0 (nth i 1) fun bk=>
 AM 0 bk fun bl=>
 BI I bl fun bp=>
 AM 0 x fun bs=>
 BI I bs fun bx=>
 DI .i64 bp bx fun t45=>
 ∀O:World,I O->
 AD t45
 (AX .i64 (nth i 1) (.int .i64 1) fun c4=>
 Q [(nth i 0),c4] O)
 (Q [(nth i 0),(nth i 1)] O))))))
 (AM 1 x fun c6=>
 AK c6 (fun c7 S=>
 Bt c7 fun c8=>
 AD c8
 (AM 0 x fun c9=>
 AK c9 (fun ca cc=>
 AM 2 x fun cd=>
 Ac 4 cd (fun t66 ch=>
 Af [(0,1),(1,4)] [(.int .i64 0),(.int .u8 0),(.int .i64 0),(.int .u64 0),(.string (ByteArray.mk #[]))] [(0,ca),(1,t66)] fun cn=>
 Bh 79 5 1 [(.int .i64 0),(.int .u8 0),(.int .i64 0),(.int .u64 0),(.string (ByteArray.mk #[]))] [(0,cn)] (fun cv cx=>
 runK prog (Builtin.append_ #[43,43] 43 [(nth i 0),cv].toArray) (fun dk du=>
 J [dk,(nth i 1)] du) cx) ch) cc) S)
 (J [(nth i 0),(nth i 1)] S)) w6)) w5) w4) w3) w1))
 (runK prog (Instr.sliceAt 43 v0 (some (nth vs 1)) none none) (fun dv dw=>
 runK prog (Builtin.append_ #[43,43] 43 [(nth vs 0),dv].toArray) (fun dx dy=>
 K dx dy) dw) w1)) w):AB prog 156 [v0,v1] K w:=cO (aN (aN (aN (aN (aO (aN (.node [5,6,11] [(5,6),(8,8),(11,70)] (aN (aO aE (.cut [5,6] [(5,6),(8,8),(13,69)] (aN (aO (.node [5,6] [(5,6),(15,58)] (aO (aN aE) (aO (.cut [5,6] [(5,6),(21,47)] (aO .draw (aO aE (aO .draw aE))) (aO (aN aE) .nil)) .nil)) .nil) (aN aE))) .nil))) .nil)) aE))))) func156 h (by kernel_rfl)
theorem Ze(h: FH 24 v0 (fun t3 j=>
 FH 4 v2 (fun t5 w2=>
 AB prog 129 [v1] (fun o x=>
 AB prog 128 [o,(.func (.func 130) #[] #[t3,t5])] (fun i w4=>
 K i w4) x) w2) j) w):AB prog 70 [v0,v1,v2] K w:=cO (aN aE) func70 h (by kernel_rfl)
theorem Xb(h: Ba 133 v0 (fun t3 Q=>
 AK v1 (fun S w2=>
 AM 0 t3 fun t9=>
 AK t9 (fun j T=>
 AB prog 131 [S,j] (fun i w4=>
 AO 0 i fun o=>
 AO 1 i fun x=>
 An 65 [(.int .i64 0),(.bool false),(.int .u8 0),(.bool false),(.bool false),(.int .i64 0)] (fun t5 U=>
 AY 6 t5 o (fun O=>
 Bt x fun y=>
 AD y
 (K (.bool true) O)
 (AM 1 t5 fun B=>
 AK B (fun E V=>
 AK v2 (fun I X=>
 TI E I fun J=>
 K J X) V) O)) U) w4) T) w2) Q) w):AB prog 130 [v0,v1,v2] K w:=cO (aN (aN aE)) func130 h (by kernel_rfl)
theorem Vt(h: AB prog 202 [v0,v1] (fun j w1=>
 DI .i64 j (.int .i64 (-1)) fun x=>
 AD x
 (K v0 w1)
 (AX .i64 j (.int .i64 1) fun y=>
 Ay [j,y] (fun vs i w2=>∀_:Env,
 Al v0 fun B=>
 Bc .i64 (nth vs 1) B fun E=>
 AD E
 (Be 6 v0 (nth vs 1) fun I=>
 Ac 6 I (fun t25 w3=>
 An 133 [(.int .i64 0),(.bool false),(.int .u8 0),(.int .i64 0),(.int .u64 0),(.string (ByteArray.mk #[]))] (fun J w4=>
 AY 6 J t25 (fun w5=>
 Ac 6 J (fun O w6=>
 CO prog DE v1 [O] (fun Q w7=>
 Bt Q fun S=>
 AD S
 (Ac 6 J (fun T w8=>
 Be 6 v0 (nth vs 0) fun U=>
 AY 6 U T (fun w9=>
 AX .i64 (nth vs 0) (.int .i64 1) fun V=>
 AX .i64 (nth vs 1) (.int .i64 1) fun X=>
 i [V,X] w9) w8) w7)
 (AX .i64 (nth vs 1) (.int .i64 1) fun o=>
 i [(nth vs 0),o] w7)) w6) w5) w4) w3) w2)
 (runK prog (Instr.sliceAt 81 v0 (some (nth vs 0)) none none) (fun Y Z=>
 runK prog (Builtin.clear_ #[81] 0 [Y].toArray) (fun _u a1=>
 runK prog (Instr.sliceAt 81 v0 none (some (nth vs 0)) none) (fun a6 a7=>
 K a6 a7) a1) Z) w2)) w1)) w):AB prog 128 [v0,v1] K w:=cO (aN (aN (aO (aN (aO aE .nil)) (aO (aN (.node [5,6] [(5,7),(16,35)] (aO (aN aE) (aO (aN (aN (aO aE .nil))) .nil)) .nil)) (aN aE))))) func128 h (by kernel_rfl)
theorem Xa(h: Al v0 fun I=>
 Ay [(.int .i64 0)] (fun vs i B=>∀_:Env,
 Bc .i64 (nth vs 0) I fun t9=>
 AD t9
 (Be 6 v0 (nth vs 0) fun j=>
 Ac 6 j (fun o w2=>
 CO prog DE v1 [o] (fun x E=>
 AD x
 (K (nth vs 0) E)
 (AX .i64 (nth vs 0) (.int .i64 1) fun y=>
 i [y] E)) w2) B)
 (K (.int .i64 (-1)) B)) w):AB prog 202 [v0,v1] K w:=cO (aN (aO (aN (.node [8] [(4,5),(8,18)] (aN (aO aE (aO (aN (aN (aO aE .nil))) .nil))) .nil)) aE)) func202 h (by kernel_rfl)
end Go.Proofs.YtmdhibffnkhcnaaGreatDoor
namespace Go.K
open Go
theorem PU{P:Program}{t e k:Nat}{i:TypeInfo}{a:Option Addr}{n c l h m:Nat}(ht:P.underlying t=some (.slice e))(o:P.info? e=some i)(hk:i.size=k)(h1:l<=h)(x:h<=m)(y:m<=c)(w:World) :
  (Instr.sliceAt t (.slice a n c) (some (.int .i64 l)) (some (.int .i64 h)) (some (.int .i64 m))).run P w=.ok (sliced a l h m k) w:=by
 have j:P.elem t=e:=by simp[Program.elem,ht]
 rw[run_sliceAt_slice _ _ _ _ _ _ (by rw[j];exact ht),run_slice_lhm _ _ _ _ _ (by rw[j];exact ht) _ _ _ _ _ _ (by omega) (by omega) (by omega) (by omega),j];simp[sizeOf,typeInfo,o,hk]
end Go.K
namespace Go.Proofs.YtmdhibffnkhcnaaGreatDoor
open Go Go.K Proofs.Tryz
def dW(i:Value)(k:Nat):Value:=match i with
 |.slice a n _=>sliced a (32*k) (min (32*k+32) n) (min (32*k+32) n) 1
 |_=>undef
theorem aa{S:Nat->Prop}{W:World}{o:Value}{l:List Int}{k:Nat}(h:BJ S 1 CI W o l)(hk:32*k<l.length):BJ S 1 CI W (dW o k) ((l.drop (32*k)).take 32):=by
 obtain⟨a,c,rfl,h1,J,B⟩:=h;have i:((l.drop (32*k)).take 32).length=min (32*k+32) l.length-32*k:=by rw[List.length_take,List.length_drop];omega
 refine⟨_,_,by rw[i];rfl,by rw[i];omega,by omega,fun m x j=>?_⟩;rw[List.getElem?_take] at j;split at j
 .rw[List.getElem?_drop] at j;obtain⟨p,r,rfl,E,hr,hc,I⟩:=B _ x j;rw[if_neg (by omega)];refine⟨p.add (32*k*1),r,rfl,by rw[BW];exact E,hr,fun y u hu=>?_,I⟩;rw[Addr.add_add,<-Nat.add_assoc,<-Nat.add_mul];exact hc y u hu
 .cases j
theorem Wt{S:Nat->Prop}{W:World}{c1 B:Nat}{E:Value}{l:List Int}(h1:Bx W c1 [E])(I:Bx W B [.int .i64 32])(ho:BJ S 1 CI W E l)(hl:l.length<=1099511627776) :
  Jw True prog 223 [.pointer (some ⟨c1,0,none⟩),.pointer (some ⟨B,0,none⟩)] (fun k=>[dW E k]) ((l.length+31)/32) (fun b=>b=c1\/b=B) W:=by
 intro yl J Jx w1 hg h0 O V Ix j;apply V2;obtain⟨a,c,rfl,q1,q2,q3⟩:=ho;have l1:=h1.lt (Nat.succ_pos _);have l2:=I.lt (Nat.succ_pos _);have ht:=underlying80;obtain⟨ti,X,Y⟩:∃i,prog.info? 21=some i/\i.size=1:=⟨Tryz.t21,by kernel_rfl,by rfl⟩;refine Ae (fun vs x=>∃k:Nat,k<=(l.length+31)/32/\vs=[.int .i64 ((32*k:Nat):Int)]/\J k (fun _=>False) x) (fun vs _=>l.length+32-ED vs 0) ⟨0,Nat.zero_le _,rfl,h0⟩ ?_;rintro vs x ⟨k,hk,rfl,hJ⟩ _;rw[CN,List.headD_cons];have cell:∀{Z:World} {k:Nat} {b:Nat} {v:Value},J k (fun _=>False) Z->(b=c1\/b=B)->W.cell? ⟨b,0,none⟩=some v->Z.cell? ⟨b,0,none⟩=some v:=fun Q hb hc=>by
  rw[<-hc];exact World.cell?_of_block (Ix _ _ _ Q _ (by rcases hb with rfl|rfl<;>omega) hb)
 refine AL (cell hJ (.inl rfl) (h1.cells 0 _ rfl)) ?_;rw[AS,Ax];refine AE (fun a6=>?_) fun a7=>?_;rotate_left
 .obtain rfl:k=(l.length+31)/32:=by omega
  exact⟨_,.inl hJ⟩
 have a1:32*k<l.length:=by omega
 have gd:Grow x x.drew:=Mod.drew _ _;have o:J k (fun _=>False) x.drew:=O k _ _ _ _ hJ (gd.mono fun _ _ h=>h.elim) fun b hb=>hb.elim;refine Ag (fun _ _=>False) ?_;refine Aa ⟨cell o (.inr rfl) (I.cells 0 _ rfl),fun _ _ e=>e⟩ ?_;refine Aa ⟨cell o (.inl rfl) (h1.cells 0 _ rfl),fun _ _ e=>e⟩ ?_;refine Ai (EM ht X Y (by omega) _) ⟨Mod.refl _ _,?_⟩;unfold sliced;rw[AS,Gg];have e1:(if((l.length-32*k:Nat):Int)<(32:Int) then((l.length-32*k:Nat):Int) else(32:Int))=((min 32 (l.length-32*k):Nat):Int):=by split<;>omega
 rw[e1];refine AL (cell o (.inl rfl) (h1.cells 0 _ rfl)) ?_;refine Bw (by omega) (Bw (by omega) ?_);refine Ai (PU ht X Y (by omega) (Nat.le_refl _) (by omega) _) ?_;refine .inr ⟨yl,rfl,?_⟩;have T:=j k _ x.drew (by omega) o;have e2:32*k+min 32 (l.length-32*k)=min (32*k+32) l.length:=by omega
 rw[e2];refine Ff T ?_;rintro vv W3 ⟨a8,U,_,⟨rfl,y⟩|⟨rfl,QD⟩⟩
 .rw[Aq];refine AT ?_;refine AL (cell y (.inr rfl) (I.cells 0 _ rfl)) ?_;rw[AR,wrap64 (by omega) (by omega)];refine⟨⟨k+1,by omega,?_,y⟩,?_⟩
  .congr 2
  .rw[DW,DW];omega
 .rw[Aq];exact Ao ⟨_,.inr QD⟩
theorem Vn{r:Int}{w:World}(h:Dt r):AB prog 226 [.int .i32 r] (fun v' w'=>v'=.bool true/\w'=w) w:=by
 apply Xl;unfold Dt at h;rw[Dl];refine AE (fun _=>?_) fun e=>by omega
 rw[HO];refine AE (fun _=>?_) fun e=>by omega
 rw[Ax];refine AE (fun _=>⟨rfl,rfl⟩) fun e=>?_;rw[BK];exact⟨by rw[decide_eq_true (by omega)],rfl⟩
theorem YG{S:Nat->Prop}{v:Value}{l:List Int}{w:World}(h:BJ S 1 CI w v l)(hm:∀r∈l,Dt r) :
  AB prog 224 [v,.func (.func 225) #[] #[]] (fun v' w'=>v'=.bool false/\w'=w) w:=by
 apply Q6;refine AA (K:=fun v' w'=>v'=.int .i64 (-1)/\w'=w) ?_ ?_
 .apply Qk;obtain⟨a,c,rfl,o⟩:=h.shape;simp only[maxLen] at o;rw[AS];refine Ae (fun vs W=>∃i:Nat,i<=l.length/\vs=[.int .i64 i]/\W=w) (fun vs _=>l.length-ED vs 0) ⟨0,Nat.zero_le _,rfl,rfl⟩ ?_;rintro vs _ ⟨i,B,rfl,rfl⟩ _;rename World=>w
  rw[CN,List.headD_cons,Ax];refine AE (fun x=>?_) fun y=>⟨rfl,rfl⟩;have j:i<l.length:=by omega
  obtain⟨q,r,rfl,_,hr,hc,rfl⟩:=h.get j;refine AZ j (AL (by have:=hc 0 _ rfl;exact this) ?_);refine G7 (by kernel_rfl) ?_;apply Vs;refine AA (Vn (hm _ (List.getElem_mem j))) ?_;rintro _ _ ⟨rfl,rfl⟩;rename World=>w
  rw[Aq];refine AT ?_;rw[AR,AQ (by omega)];exact⟨⟨i+1,j,rfl,rfl⟩,by rw[DW,DW];omega⟩
 .rintro _ _ ⟨rfl,rfl⟩;rw[Dl];exact⟨rfl,rfl⟩
theorem bT{S:Nat->Prop}{v:Value}{l:List Int}{w:World}(h:BJ S 1 CI w v l)(hl:l.length<=32)(hm:∀r∈l,Dt r) :
  AB prog 149 [v] (fun v' w'=>v'=.tuple #[.agg (Ck.cells ⟨l,hl⟩).toArray,.int .i64 0]/\Grow w w') w:=by
 apply Wh;refine Bx.zero fun Z w1 ax g1 B2=>?_;have h1:=h.grow g1 (by decide) fun _ _ h=>h;refine AA (YG h1 hm) ?_;rintro _ _ ⟨rfl,rfl⟩;rename World=>w1
 refine AT ?_;obtain⟨a,c,rfl,hx⟩:=h1.shape;rw[AS,BK];refine AE (fun e=>by omega) fun _=>?_;refine Bx.zero fun B E ay X B4=>?_;have C2:Bx E Z Ck.nil.cells:=B2.grow X;have C4:Bx E B Ck.nil.cells:=B4;have l2:=C2.lt (by rw[Ck.len];omega);have l4:=C4.lt (by rw[Ck.len];omega);have z1:=g1.size;have z7:=X.size;have av:=B2.lt (by decide);have hu:=underlying80;have hs:(prog.info? 21).map (·.size)=some 1:=by kernel_rfl
 have h7:=h1.grow X (by decide) fun _ _ h=>h;rw[AG,AI];refine LF ?_;have fin:∀I,Bx I B (Hs Ck.nil.cells 0 (l.map (Value.int .i32)))->Mod (fun x=>x=B) E I->(AM 32 (.pointer (some ⟨B,0,none⟩)) fun a1=>BC a1 (.int .i64 (l.length:Int)) (fun J=>Ac 33 (.pointer (some ⟨B,0,none⟩)) (fun a6 a7=>AY 33 (.pointer (some ⟨Z,0,none⟩)) a6 (fun O=>Ac 33 (.pointer (some ⟨Z,0,none⟩)) (fun Q a8=>(fun(v':Value) (w':World)=>v'=Value.tuple #[.agg (Ck.cells ⟨l,hl⟩).toArray,.int .i64 0]/\Grow w w') (Value.tuple #[Q,(.int .i64 0)]) a8) O) a7) J) I):=fun I D4 Y=>by
  rw[AG,AI];refine D4.st (q:=32) (by rw[J1,Ck.len];omega) rfl rfl fun J E4 T=>?_;rw[Ck.UJ hl] at E4;refine E4.Er (Ck.len _) ?_;refine((C2.mod Y fun e=>by omega).mod T fun e=>by omega).over (Ck.len _) (Ck.len _) (Ck.one _) fun O F2 ak=>?_;refine F2.Er (Ck.len _) ⟨rfl,?_⟩;exact(((g1.trans X).next Y fun y hy e=>by omega).next T fun y hy e=>by omega).next ak fun y hy e=>by omega
 have U:(l.map (Value.int .i32)).length=min l.length 32:=by rw[List.length_map];omega
 by_cases o:l=[]
 .have hn:=run_copy_none E 80 80 3 21 (some ⟨B,0,none⟩) a 32 32 l.length c hu hs (by rw[o];rfl);have al:Bx E B (Hs Ck.nil.cells 0 (l.map (Value.int .i32))):=by rw[o];exact C4
  have e0:(goInt 0:Value)=.int .i64 (l.length:Int):=by rw[o];rfl
  rw[e0] at hn;exact Ai hn (fin E al (Mod.refl _ _))
 .have V:0<l.length:=List.length_pos_iff.2 o;obtain⟨p,r',rfl,_,_,_,_⟩:=h7.get (i:=0) V;refine C4.copy hu hs (us:=l.map (Value.int .i32)) U (.inr (by rw[List.length_map,Ck.len];omega)) (fun j v hv=>?_) (Nj _) fun I D4 Y=>?_
  .obtain⟨hj,rfl⟩:=List.getElem?_eq_some_iff.1 hv;rw[List.length_map] at hj;obtain⟨p',r2,ep,_,b0,an,rfl⟩:=h7.get hj;cases ep;have:=an 0 _ rfl;rw[List.getElem_map];simpa using this
  .rw[List.length_map];exact fin I D4 Y
def piece(rs:List Int)(k:Nat):Ck:=⟨(rs.drop (32*k)).take 32,by rw[List.length_take];omega⟩
def pieces(rs:List Int):List Ck:=(List.range ((rs.length+31)/32)).map (piece rs)
theorem LJ(rs:List Int):(pieces rs).length=(rs.length+31)/32:=by simp[pieces]
theorem PM(rs:List Int){k:Nat}(h:k<(pieces rs).length):(pieces rs)[k]=piece rs k:=by simp[pieces]
theorem PO(rs:List Int):BU (pieces rs)=rs:=by
 have key:∀n,BU ((List.range n).map (piece rs))=rs.take (32*n):=by
  intro n;induction n with
  |zero=>simp[BU]
  |succ n i=>
   rw[List.range_succ,List.map_append,BU,List.flatMap_append];have j:List.flatMap Ck.l ((List.range n).map (piece rs))=rs.take (32*n):=i;rw[j];have o:List.flatMap Ck.l ([n].map (piece rs))=(rs.drop (32*n)).take 32:=by simp[piece]
   rw[o,show 32*(n+1)=32*n+32 by omega,List.take_add]
 rw[pieces,key,List.take_of_length_le (by omega)]
theorem SL{F S:Nat->Prop}{W:World}{b bt N i:Nat}{l:List Ck}{rs:List Int}{v:Value}(h:DF As.toAvT F FN W b bt l N)(hN:N<=100000000000)(hi:i<=(BU l).length)(hs:(BU l).length+rs.length<=536870912)(hv:BJ S 1 CI W v rs)(hm:∀r∈rs,Dt r) :
  AB prog 77 [.pointer (some ⟨b,0,none⟩),.int .i64 (i:Int),v] (fun v' w'=>v'=.int .i64 0/\∃F' l',(∀x,F x->F' x)/\(∀x,F' x->F x\/W.heap.size<=x)/\DF As.toAvT F' FN w' b bt l' (N+(pieces rs).length+4)/\BU l'=(BU l).take i++rs++(BU l).drop i/\Mod F W w') W:=by
 apply az;have hF:=h.lt;refine Bx.zero fun c6 w1 cv g1 B6=>?_;refine Cs (AT ?_);refine Bx.zero fun Q w4 cx g4 B7=>?_;have l6:=B6.lt (by decide);have l7:=B7.lt (by decide);have z1:=g1.size;have z4:=g4.size;have b5:=hv.HH (by decide);refine AA (K:=fun v' w'=>∃Z d2,v'=.func (.func 223) #[] #[.pointer (some ⟨Z,0,none⟩),.pointer (some ⟨d2,0,none⟩)]/\w4.heap.size<=Z/\w4.heap.size<=d2/\Bx w' Z [v]/\Bx w' d2 [.int .i64 32]/\Grow w4 w') ?_ ?_
 .apply X7;obtain⟨a,c,rfl,o⟩:=hv.shape;refine FI rfl fun Z B b6 g5 D1=>?_;refine FI rfl fun d2 w6 b7 g6 D2=>?_;have z5:=g5.size;refine AL (D2.cells 0 _ rfl) ?_;rw[Ax];refine AE (fun e=>by omega) fun _=>?_;exact⟨Z,d2,rfl,by omega,by omega,D1.grow g6,D2,g5.trans g6⟩
 rintro _ B ⟨Z,d2,rfl,b6,b7,D1,D2,g5⟩;have z5:=g5.size;have a1:=(g1.trans g4).trans g5;have av:=b5.grow a1 (by decide) fun _ _ h=>h;have dk:=D1.lt (Nat.succ_pos _);have du:=D2.lt (Nat.succ_pos _);have C7:=B7.grow g5;have b8:=LJ rs;refine⟨True,_,[.pointer (some ⟨Z,0,none⟩),.pointer (some ⟨d2,0,none⟩)],_,_,_,rfl,by kernel_rfl,Wt D1 D2 av (by omega),fun k _=>rfl,?_⟩;refine⟨fun k T W'=>∃out,Xr 162 33 (fun _ r x=>r=Ck.cells x) B.heap.size Q B.heap.size T W' out ((pieces rs).take k)/\Mod (fun x=>x=Q) B W'/\k<=(pieces rs).length,fun _ _ _=>False,⟨_,⟨C7,AF.nil,fun g J=>nomatch J⟩,Mod.refl _ _,Nat.zero_le _⟩,?_,fun x T ba W W' h=>h.elim,?_,?_,?_,fun x T W h=>h.elim⟩
 .rintro k T ba W' dv ⟨out,q,m,hk⟩ hm I;have hn:∀x,x<B.heap.size->¬((¬True/\T x)\/x=B.heap.size\/x=B.heap.size+1):=fun x o=>by rintro(⟨h,_⟩|h|h);exact h trivial;all_goals omega
  refine⟨out,⟨q.box.mod hm (hn Q (by omega)),AF.mod q.row hm (fun g J=>?_) fun _ _ _ h=>h,fun g J=>?_⟩,m.next hm fun x o=>?_,hk⟩
  .obtain⟨_,h2,h3,_⟩:=q.hc g J;rintro(⟨h,_⟩|h|h)
   .exact h trivial
   .exact h2 h
   .exact h3 h
  .obtain⟨h1,h2,h3,h4⟩:=q.hc g J;refine⟨h1,h2,h3,fun h=>?_⟩;rcases(I g h).1 with h|h
   .exact h4 h
   .have:=(AF.BL q.row g J).2;omega
  .intro e;exact absurd e (hn x o)
 .rintro k T W' ⟨out,q,m,hk⟩ b hb hr;exact m.same b hb fun e=>by rcases hr with hr|hr<;>omega
 .rintro k T W' hk ⟨out,q,m,dw⟩ hz I;have ax:32*k<rs.length:=by omega
  have U:k<(pieces rs).length:=by omega
  refine Kf (Mod.refl (fun _=>False) _) hz I (fun _ _ h=>h.elim) fun W6 O=>?_;have dx:=O.size;have cn:=q.box.lt (Nat.succ_pos _);have C6:=q.box.mod O (by omega);have o6:AF B.heap.size 162 33 (fun _ r x=>r=Ck.cells x) W6 out ((pieces rs).take k):=AF.mod q.row O (fun g J=>(q.hc g J).2.2.1) fun _ _ _ h=>h;have ay:BJ (fun b=>S b/\b<W.heap.size) 1 CI W' v rs:=BJ.mono av (fun _ _ h=>h) (fun b hb hS=>m.same b hb fun e=>by have:=hS.2;omega) (by decide) fun _ _ h=>h;have bc:BJ (fun b=>S b/\b<W.heap.size) 1 CI W6 v rs:=BJ.mono ay (fun _ _ h=>h) (fun b hb hS=>O.same b hb fun e=>by have:=hS.2;omega) (by decide) fun _ _ h=>h;refine AA (bT (aa bc ax) (piece rs k).le fun r hr=>hm r (List.mem_of_mem_drop (List.mem_of_mem_take hr))) ?_;rintro _ w8 ⟨rfl,g8⟩;refine BM ?_;have z8:=g8.size;show An _ _ (fun t9 w9=>AY 33 t9 (.agg (piece rs k).cells.toArray) _ w9) w8;refine Bx.new (vs:=(piece rs k).cells) (Ck.len _) rfl (Ck.one _) fun b9 W9 dy g9 B9=>?_;have z9:=g9.size;refine LQ ?_;have C9:=(C6.grow g8).grow g9;have o9:AF B.heap.size 162 33 (fun _ r x=>r=Ck.cells x) W9 out ((pieces rs).take k):=AF.mod (AF.mod (R':=fun _ r x=>r=Ck.cells x) o6 g8 (fun _ _ h=>h) fun _ _ _ h=>h) g9 (fun _ _ h=>h) fun _ _ _ h=>h;have bd:=B9.lt (by rw[Ck.len];omega);refine AL (C9.cells 0 _ rfl) ?_;refine B9.Er (Ck.len _) ?_;have dz:((pieces rs).take k).length<=rs.length:=by rw[List.length_take];omega
  refine DO As.elE o9 (by omega) (cs:=(piece rs k).cells) (x:=piece rs k) (DP (v:=.agg (piece rs k).cells.toArray) rfl (by decide) rfl (Ck.len _)) (Ck.len _) rfl (fun _ _ _ h=>by subst h;exact Ck.one _) (fun _ _ _ _ _ _ h=>h) (by show _*136<=_;omega) (by simp only[maxLen];omega) fun b0 dT b1 a6 b2=>?_;have e1:=a6.size;have e2:=AF.BL o9;have bk:=C9.mod a6 fun e=>(q.hc Q e).1 rfl;obtain⟨bl,bp⟩:=b1.one;refine bk.st (q:=0) (show 0<1 by decide) bl bp fun bs bx a7=>?_;have e3:=a7.size;have V:Mod (fun x=>x=Q\/out.ownBlock=some x) W6 bs:=(((g8.trans g9).mono fun _ _ h=>h.elim).trans (a6.mono fun _ _ e=>.inr e)).trans (a7.mono fun _ _ e=>.inl e);refine⟨N3 V (by omega) (fun b hb=>by have:=(I b hb).1;omega) (fun b _ e=>?_),b0,⟨bx,?_,fun g J=>?_⟩,?_,by omega⟩
  .rcases e with rfl|e
   .exact⟨fun h=>by have:=(I b h).2;omega,by omega,by omega⟩
   .obtain⟨h1,h2,h3,h4⟩:=q.hc b e;exact⟨h4,h2,h3⟩
  .have c4:(pieces rs).take (k+1)=(pieces rs).take k++[piece rs k]:=by rw[List.take_add_one,List.getElem?_eq_getElem U,PM rs U];rfl
   rw [c4];exact AF.mod b1 a7 (fun g J e=>by
    rcases b2 g J with h|h
    .exact(q.hc g h).1 e
    .omega) fun _ _ _ h=>h
  .rcases b2 g J with h|h
   .exact q.hc g h
   .refine⟨by omega,by omega,by omega,fun hI=>by have:=(I g hI).1;omega⟩
  .refine(m.next O fun x o e=>by omega).next V fun x o e=>?_;rcases e with e|e
   .exact e
   .have:=(AF.BL q.row x e).1;omega
 .rintro T W' ⟨out,q,m,hk⟩ _ hz hd;rw[<-b8,List.take_length] at q;have gW:Mod (fun x=>x=Q) B W':=m;have X:¬F Q:=fun e=>by have:=hF Q (.inl e);omega
  have h5:DF As.toAvT F FN W' b bt l N:=(h.grow a1).mod m fun x o e=>by
   rcases o with o|o
   .exact X (e▸o)
   .exact o
  have zW:=m.size;refine AA (Ib EI h5) ?_;rintro _ e4 ⟨rfl,b3⟩;rw[show Tr.sz As.toAvT.k.μ l=(BU l).length from Fo l,IM (Nat.le_refl _) hi,Br];refine Ab (fun _=>?_) fun e=>(e rfl).elim;obtain⟨a,c,rfl,o⟩:=hv.shape;rw[AS];refine AA (Uz (h5.grow b3)) ?_;rintro _ a8 ⟨rfl,c8⟩;rw[Av,wrap64 (by omega) (by omega),BK];refine AE (fun e=>by omega) fun _=>?_;have gd:Grow a8 a8.drew:=Mod.drew _ _;have E:=(b3.trans c8).trans gd;have hO:=h5.grow E;have q2:=q.box.grow E;have o2:AF B.heap.size 162 33 (fun _ r x=>r=Ck.cells x) a8.drew out (pieces rs):=AF.mod q.row E (fun _ _ h=>h) fun _ _ _ h=>h;have zd:=E.size;refine Ag (fun k y=>k=5/\F y) ?_;refine AA (Dn EI hO) ?_;rintro _ e5 ⟨rfl,c9⟩;subst c9;refine⟨Mod.refl _ _,Aa ⟨q2.cells 0 _ rfl,fun j hj e=>X e.2⟩ ?_⟩;have er:=Ni l (pieces rs) (Nat.le_refl i);have ep:=Lv l (pieces rs) i i;rw[PO] at er ep;have ca:(BU (Ck.kd.Bm l i i (pieces rs))).length<=1099511627776:=by rw[er];simp only[List.length_append,List.length_take,List.length_drop];omega
  refine AA (Hr (VO (g:=As)) (L:=pieces rs) hO (by omega) o2.sl (fun x o cc=>by have:=hF x (.inl cc);have:=o.1;omega) (Nat.le_refl i) (by omega) (Le (by omega)) (Le (l:=Ck.kd.Bm l i i (pieces rs)) ca) (Le (l:=(Ck.kd.split l i).1.getLast?.toList++pieces rs++(Ck.kd.split (Ck.kd.split l i).2 (i-i)).2.head?.toList) (by omega))) ?_;rintro _ cd ⟨F',k1,k2,k3,k4⟩;refine⟨k4.mono fun _ _ e=>⟨rfl,e⟩,?_⟩;have e6:=k4.size;have Y:¬F c6:=fun e=>by have:=hF c6 (.inl e);omega
  have D6:Bx cd c6 [.int .i64 0]:=((((B6.grow g4).grow g5).mod m (by omega)).grow E).mod k4 Y;refine D6.st (q:=0) (show 0<1 by decide) rfl rfl fun b4 E6 ak=>?_;have al:¬F' c6:=fun e=>by
   rcases k2 c6 e with h|h
   .exact Y h
   .omega
  have ch:∀x,B.heap.size<=x->x<B.heap.size+1->¬F' x:=fun x o e7 e=>by
   rcases k2 x e with h|h
   .have:=hF x (.inl h);omega
   .omega
  refine⟨?_,?_⟩
  .rw[ak.same _ (by omega) (by omega),k4.same _ (by omega) fun e=>by have:=hF _ (.inl e);omega,E.same _ (by omega) fun h=>h];exact hd
  have an:Mod (fun b=>b=B.heap.size) b4 (b4.putObj B.heap.size (.deferred none)):=Mod.putObj _ _ _ rfl;refine AL ((E6.mod an (by omega)).cells 0 _ rfl) ⟨rfl,F',_,k1,fun x o=>(k2 x o).imp (fun h=>h) fun h=>by omega,((k3.mod ak fun x o e=>by
    rcases o with o|o
    .exact al (e▸o)
    .exact o).mod an fun x o e=>by
    rcases o with o|o
    .exact ch x (by omega) (by omega) o
    .exact o),er,?_⟩
  exact((((a1.next m fun x o e=>by omega).trans E).mono fun _ _ h=>h.elim).trans k4 |>.next ak fun x o e=>by omega).next an fun x o e=>by omega
def J7:Kd Nat where
 μ:=fun _=>(1,0)
 cut:=fun x _=>(x,x)
 meld:=fun _ _=>none
theorem KQ(q:Nat)(l:List Nat)(i j:Nat):J7.over (q::l) i j=(if i<min j 1 then[q] else[])++J7.over l (i-1) (j-1):=by
 have e:∀p,J7.part q i p=q:=fun p=>by unfold Kd.part J7;simp only;split<;>split<;>rfl
 simp only[Kd.over,e];rfl
def Qt(W:World)(b E i:Nat):Value:=match W.cell? ⟨b,3,none⟩ with
 |some (.pointer (some c))=>match W.cell? c with
  |some (.slice (some p) _ _)=>(W.cell? (p.add (i*(E+6)))).getD undef
  |_=>undef
 |_=>undef
section
variable {α:Type}{g:AvT α}
theorem PZ{F C:Nat->Prop}{W:World}{b i:Nat}{S:Int}{A:ArS α}{n:Nd α}(h:DJ g F C W b S A)(T:A.f i=some n) :
  ∃(c:Nat) (p:Addr) (m k:Nat),W.cell? ⟨b,3,none⟩=some (.pointer (some ⟨c,0,none⟩))/\W.cell? ⟨c,0,none⟩=some (.slice (some p) m k)/\F b/\F c/\F p.block/\(∃r,g.R C W r n.x/\∀j u,(r++(BP n++[.bool true]))[j]?=some u->W.cell? (p.add (i*(g.E+6)+j))=some u):=by
 obtain⟨c,pl,fr,y⟩:=h;obtain⟨O,hp⟩:=ArS.Hm T;have Q:=(List.getElem?_eq_some_iff.1 hp).2;obtain⟨X,Y,B,_⟩:=y.ar.FL.sl.shape;have I:=y.ar.FL.sl;rw[B] at I;obtain⟨q,r,rfl,U,hr,hc,J⟩:=I.get O;rw[Q] at J;obtain⟨x,rfl,V⟩:=J;have o:=y.ar.cells 0 pl rfl;rw[B] at o;exact⟨c,q,_,_,y.box.cells 3 _ rfl,o,y.fb.1,y.ar.fc.1,(y.ar.pF q.block (by rw[B];exact U.2)).1.1,x,V,hc⟩
theorem Zf{F C:Nat->Prop}{w W:World}{b i:Nat}{o:Int}{A:ArS α}{n:Nd α}(h:DJ g F C w b o A)(y:A.f i=some n)(j:∀x,F x\/C x->W.heap[x]?=w.heap[x]?):Qt W b g.E i=Qt w b g.E i:=by
 obtain⟨c,p,m,k,h1,B,I,J,O,_⟩:=PZ h y;have Q:W.cell? ⟨b,3,none⟩=w.cell? ⟨b,3,none⟩:=World.cell?_of_block (j b (.inl I));have S:W.cell? ⟨c,0,none⟩=w.cell? ⟨c,0,none⟩:=World.cell?_of_block (j c (.inl J));have T:W.cell? (p.add (i*(g.E+6)))=w.cell? (p.add (i*(g.E+6))):=World.cell?_of_block (by rw[BW];exact j _ (.inl O));simp only[Qt,Q,h1,S,B,T]
end
section
variable {α:Type}{g:Av1 α}
theorem XP{F C:Nat->Prop}{W:World}{b i:Nat}{rt:Int}{A:ArS α}{n:Nd α}{K:Value->World->Prop}(h:DJ g.toAvT F C W b rt A)(Z:A.f i=some n)
 (hK:∀r Q w',Grow W w'->W.heap.size<=Q->Bx w' Q (r++BP n)->g.R C w' r n.x->r=[Qt W b g.E i]->K (.pointer (some ⟨Q,0,none⟩)) w') :
  AB prog g.fat [.pointer (some ⟨b,0,none⟩),.int .i64 i] (fun S w1=>An g.tn g.toAvK.zN (fun t7 w2=>AY (g.E+5) t7 S (fun w3=>K t7 w3) w2) w1) W:=by
 have key:AB prog g.fat [.pointer (some ⟨b,0,none⟩),.int .i64 i] (fun v' w'=>∃r,v'=.agg (r++BP n).toArray/\g.R C w' r n.x/\Grow W w'/\r=[Qt W b g.E i]) W:=by
  apply g.ok.at_;unfold dL;refine Bx.zero fun b4 w1 a1 B B4=>?_;obtain⟨c,pl,fr,j⟩:=h;have I:=j.mod B fun _ _ h=>h;refine AH ?_;refine Bl (I.box.cells 3 _ rfl) ?_;refine AA (Qa I.ar Z) ?_;rintro _ w2 ⟨r,rfl,hr,g2,p,m,k,J,o⟩;refine BM ?_;have hl:=BB n hr;have ho:=Gj n hr;refine Bx.new hl HE ho fun b5 w3 a6 T B5=>?_;refine B5.Er hl ?_;have U:=(B4.grow g2).grow T;refine U.over hl (HE) ho fun w4 O m4=>?_;refine O.Er hl ?_;have V:Grow W w4:=((B.trans g2).trans T).next m4 fun y hy e=>by omega
  refine⟨r,rfl,g.BR (g.BR hr T fun _ _ _ h=>h) m4 fun y _ hy e=>by have:=j.ar.lt y (.inr hy);omega,V,?_⟩;have er:=UN hr;generalize g.toAvK.enc r=a at er;subst er;have e1:=j.box.cells 3 _ rfl;have X:=j.ar.cells 0 pl rfl;rw[J] at X;have e3:=o a rfl;obtain⟨c',p',m',k',q1,q2,f1,f2,f3,_⟩:=PZ (g:=g.toAvT) ⟨c,pl,fr,j⟩ Z;rw[e1] at q1;cases q1;rw[X] at q2;cases q2;have e4:W.cell? (p.add (i*(g.E+6)))=some a:=by
   have Y:p.block<W.heap.size:=j.ar.lt _ (.inl (j.ar.pF _ (by rw[J];rfl)).1);rw[<-e3];exact(World.cell?_of_block (by rw[BW];exact B.same _ Y fun h=>h)).symm
  simp only[Qt,e1,X,e4];rfl
 refine AA key ?_;rintro _ w4 ⟨r,rfl,hr,B,hv⟩;refine Bx.new (BB n hr) HE (Gj n hr) fun b7 w5 a7 g7 B7=>?_;exact hK r b7 w5 (B.trans g7) (by have:=B.size;omega) B7 (g.BR hr g7 fun _ _ _ h=>h) hv
theorem Zu(t:Tr α):Tr.sz J7.μ t.idx=Tr.sz g.k.μ t.toL:=by
 induction t with
 |nil=>rfl
 |node l i x r h1 j=>rw[Tr.idx,Tr.toL,Tr.CH,Tr.CH,Tr.BS,Tr.BS,h1,j,g.μ1];rfl
set_option maxRecDepth 4000 in
theorem Rp{F C:Nat->Prop}{w:World}{b l N:Nat}{rt:Int}{A:ArS α}{J:Nat->(Nat->Prop)->World->Prop}{Jx:(Nat->Prop)->World->Prop}{U:Nat->List Value}(hw:DJ g.toAvT F C w b rt A)(hs:A.ps.length<=109951162777)(H:NY prog l J Jx w (fun x=>F x\/C x) U N) :
  ∀(t:Tr α) (i j V:Nat) (O:Nat->Prop) (W:World),Tr.Holds g.k.μ A.f t->Db g.toAvT t.toL->i<=1099511627776->j<=1099511627776->J V O W->w.heap.size<=W.heap.size->(∀x,O x->x<W.heap.size)->V+(J7.over t.idx i j).length<=N->(∀m (hm:m<(J7.over t.idx i j).length),U (V+m)=[Qt w b g.E (J7.over t.idx i j)[m]])->
   AB prog g.fover [.pointer (some ⟨b,0,none⟩),.int .i64 t.root,.int .i64 (i:Int),.int .i64 (j:Int),.func (.yield l) #[] #[]] (OM J Jx (V+(J7.over t.idx i j).length) O W) W:=by
 intro t;induction t with
 |nil=>
  intro i j V O W _ _ _ _ hJ hz al _ _;apply g.ok1.over;unfold QB;simp only[Tr.root];refine AW (fun _ _=>False) (fun _ _ h=>h.elim) ?_;rw[Am];refine AE (fun _=>?_) fun e=>(e rfl).elim;exact⟨Nat.le_refl _,fun _ _=>rfl,⟨rfl,rfl,rfl⟩,O,fun _ h=>h,al,.inl ⟨rfl,hJ⟩⟩
 |node lt q x a7 dv dw=>
  intro i j V O W hh hb hi hj hJ hz al hN Q;obtain⟨hl,hr,hq⟩:=id hh;have eL:(Tr.node lt q x a7).toL=lt.toL++x::a7.toL:=rfl;have eI:(Tr.node lt q x a7).idx=lt.idx++q::a7.idx:=rfl;rw[eL] at hb;rw[eI] at hN Q ⊢;have bx:(g.k.μ x).1=1:=by rw[g.μ1]
  have c4:Tr.sz J7.μ lt.idx=Tr.sz g.k.μ lt.toL:=Zu lt;have dx:=hb.1;simp only[Tr.CH,Tr.BS] at dx;rw[J7.O3,c4] at hN Q ⊢;apply g.ok1.over;unfold QB;simp only[Tr.root];refine AW (fun _ W'=>W'=W/\i<j) ?_ ?_;rotate_left
  .rw[Am];refine AE (fun e=>by omega) fun _=>?_;rw[Dl];refine AE (fun e=>?_) fun e=>⟨rfl,by omega⟩;rw[J7.Dz _ (by omega:j<=i),J7.Dz _ (by omega:j-Tr.sz g.k.μ lt.toL<=i-Tr.sz g.k.μ lt.toL)];exact⟨Nat.le_refl _,fun _ _=>rfl,⟨rfl,rfl,rfl⟩,O,fun _ h=>h,al,.inl ⟨rfl,hJ⟩⟩
  rintro _ W' ⟨rfl,e6⟩ _;rename World=>W
  have Dg:∀{k O W'},J k O W'->w.heap.size<=W'.heap.size->DJ g.toAvT F C W' b rt A:=fun{k O W'} h1 h2=>hw.heap (fun y o=>H.Ix k O W' h1 y (hw.lt y o) o) h2;refine XP (Dg hJ hz) hq fun rc S w4 g4 e4 B b4 c6=>?_;have b0:=g.rlen b4;rw[Zf hw hq fun y o=>H.Ix V O W hJ y (hw.lt y o) o] at c6;have dy:=(Dg hJ hz).grow g4;refine Bl (B.cells (g.E+0) _ (by rw[AU b0];rfl)) ?_;refine AA (Bo dy hl) ?_;rintro _ w6 ⟨rfl,g6⟩;refine JY ?_;have b5:Grow w6 w6.drew:=Mod.drew _ _;have c7:=(g4.trans g6).trans b5;obtain⟨c,pl,fr,hT⟩:=(Dg hJ hz).grow c7;have B6:=(B.grow g6).grow b5;refine Ag (fun _ _=>False) ?_;refine AH ?_;rw[AG,AI,AG,AI];refine Aa ⟨hT.box.cells 0 _ rfl,fun _ _ e=>e⟩ ?_;rw[AG,AI];refine IC (g:=g.toAvT) (r:=rc) b0 (fun j v hv=>⟨B6.cells j v (by rw[List.getElem?_append_left (List.getElem?_eq_some_iff.1 hv).1];exact hv),fun _ _ e=>e⟩) ?_;refine Ap (g.meas (C:=C) (x:=x) (g.BR b4 (g6.trans b5) fun _ _ _ h=>h)) ?_;rintro _ w7 ⟨rfl,g7⟩;refine⟨g7.mono fun _ _ h=>h.elim,?_⟩;refine BM ?_;have a8:=c7.trans g7;have B7:=B6.grow g7;have du:=B7.lt (by rw[BB _ b4];omega);have e7:=a8.size;have an:∀y,(O y\/y=S)->(O y\/W.heap.size<=y)/\y<w7.heap.size:=fun y o=>by
   rcases o with o|o
   .have:=al y o;exact⟨.inl o,by omega⟩
   .exact⟨.inr (by omega),by omega⟩
  have c8:=H.hJ V O (fun y=>O y\/y=S) W w7 hJ a8 an;have dz:∀y,O y->w7.heap[y]?=W.heap[y]?:=fun y o=>a8.same y (al y o) fun h=>h;obtain⟨Y,b6⟩:∃X,X=J7.over lt.idx i j:=⟨_,rfl⟩;obtain⟨i',b7⟩:∃i',i'=i-Tr.sz g.k.μ lt.toL:=⟨_,rfl⟩;obtain⟨j',b1⟩:∃j',j'=j-Tr.sz g.k.μ lt.toL:=⟨_,rfl⟩;obtain⟨X2,b8⟩:∃X,X=(if i'<min j' (g.k.μ x).1 then[q] else[]):=⟨_,rfl⟩;obtain⟨X3,ak⟩:∃X,X=J7.over a7.idx (i'-(g.k.μ x).1) (j'-(g.k.μ x).1):=⟨_,rfl⟩;have eX:J7.over lt.idx i j++J7.over (q::a7.idx) (i-Tr.sz g.k.μ lt.toL) (j-Tr.sz g.k.μ lt.toL)=Y++(X2++X3):=by rw[b6,b8,ak,b7,b1,bx,KQ]
  rw[eX] at hN Q ⊢;simp only[List.length_append] at hN;have b9:∀m (hm:m<Y.length),U (V+m)=[Qt w b g.E Y[m]]:=fun m hm=>by
   rw[Q m (by simp;omega)];simp[List.getElem_append_left hm]
  have ba:∀m (hm:m<X2.length),U (V+Y.length+m)=[Qt w b g.E X2[m]]:=fun m hm=>by
   have:=Q (Y.length+m) (by simp;omega);rw[Nat.add_assoc,this];simp[List.getElem_append_right,List.getElem_append_left hm]
  have bc:∀m (hm:m<X3.length),U (V+Y.length+X2.length+m)=[Qt w b g.E X3[m]]:=fun m hm=>by
   have:=Q (Y.length+(X2.length+m)) (by simp;omega);rw[show V+Y.length+X2.length+m=V+(Y.length+(X2.length+m)) by omega,this];simp[List.getElem_append_right]
  let St:Nat->World->Prop:=fun k W'=>∃I,(∀y,O y->I y)/\I S/\(∀y,I y->y<W'.heap.size)/\J k I W'/\(w7.heap.size<=W'.heap.size/\Quiet w7 W')/\(∀y,O y\/y=S->W'.heap[y]?=w7.heap[y]?)
  have done:∀{k W'} (v:Value) (I:Nat->Prop),(∀y,O y->I y)->(∀y,I y->y<W'.heap.size)->w7.heap.size<=W'.heap.size/\Quiet w7 W'->(∀y,O y->W'.heap[y]?=w7.heap[y]?)->((v=.bool true/\J k I W')\/(v=.bool false/\Jx I W'))->OM J Jx k O W v W':=fun v I h1 h2 h3 h4 h5=>
   ⟨by omega,fun y o=>(h4 y o).trans (dz y o),Quiet.trans ⟨a8.os,a8.tape,a8.output⟩ h3.2,I,h1,h2,h5⟩
  refine AW (fun _ W'=>St (V+Y.length) W') ?_ ?_;rotate_left
  .refine HU (fun c9=>?_) fun ca=>?_
   .refine Bl (B7.cells (g.E+0) _ (by rw[AU b0];rfl)) ?_;rw[Gg];have em:(if((Tr.sz g.k.μ lt.toL:Nat):Int)<(j:Int) then((Tr.sz g.k.μ lt.toL:Nat):Int) else(j:Int))=((min j (Tr.sz g.k.μ lt.toL):Nat):Int):=by split<;>omega
    rw[em];have a6:J7.over lt.idx i (min j (Tr.sz g.k.μ lt.toL))=Y:=by rw[b6,<-c4,J7.K1]
    refine AA (dv i (min j (Tr.sz g.k.μ lt.toL)) V (fun y=>O y\/y=S) w7 hl hb.app.1 hi (by omega) c8 (by omega) (fun y o=>(an y o).2) (by rw[a6];omega) (fun m hm=>?_)) ?_
    .have bd:m<Y.length:=by rw[<-a6];exact hm
     rw[b9 m bd];simp only[a6]
    rw[a6];rintro v W2 ⟨z1,z2,zq,I,q1,q2,q3⟩;rcases q3 with⟨rfl,bk⟩|⟨rfl,bk⟩
    .rw[Aq];exact AT ⟨I,fun y o=>q1 y (.inl o),q1 S (.inr rfl),q2,bk,⟨z1,zq⟩,z2⟩
    .rw[Aq];exact Ao (done (.bool false) I (fun y o=>q1 y (.inl o)) q2 ⟨z1,zq⟩ (fun y o=>z2 y (.inl o)) (.inr ⟨rfl,bk⟩))
   .have e0:Y=[]:=by rw[b6];exact L0 J7 lt.idx j (by omega)
    rw[e0];exact⟨fun y=>O y\/y=S,fun y o=>.inl o,.inr rfl,fun y o=>(an y o).2,c8,⟨Nat.le_refl _,rfl,rfl,rfl⟩,fun _ _=>rfl⟩
  rintro _ W8 ⟨av,a1,a2,a3,cc,z8,T⟩ _;have B8:=B7.heap (T S (.inr rfl));rw[Av,wrap64 (by omega) (by omega),Gm];have dT:(if(0:Int)>(i:Int)-((Tr.sz g.k.μ lt.toL:Nat):Int) then(0:Int) else(i:Int)-((Tr.sz g.k.μ lt.toL:Nat):Int))=(i':Int):=by rw[b7];split<;>omega
  rw[dT,Av,wrap64 (by omega) (by omega),Gg];obtain⟨to,bl⟩:∃to:Int,to=(if(((g.k.μ x).1:Nat):Int)<(j:Int)-((Tr.sz g.k.μ lt.toL:Nat):Int) then(((g.k.μ x).1:Nat):Int) else(j:Int)-((Tr.sz g.k.μ lt.toL:Nat):Int)):=⟨_,rfl⟩;rw[<-bl];have b2:(i':Int)<to↔i'<min j' (g.k.μ x).1:=by rw[bl,b1];split<;>omega
  have cd:i'<min j' (g.k.μ x).1->to=((min j' (g.k.μ x).1:Nat):Int):=fun h=>by rw[bl,b1];split<;>omega
  refine AW (fun _ W'=>St (V+Y.length+X2.length) W') ?_ ?_
  .rintro _ W9 ⟨ch,c1,c2,c3,cn,z9,Z⟩ _;refine Bw (by omega) ?_;rw[HO];refine AE (fun e8=>?_) fun e9=>?_
   .have e3:X3=[]:=by rw[ak];exact J7.Dz _ (by omega)
    rw[e3];simp only[List.append_nil,List.length_append];exact done (.bool true) ch c1 c3 z9 (fun y o=>Z y (.inl o)) (.inl ⟨rfl,by rw[<-Nat.add_assoc];exact cn⟩)
   .have B9:=B7.heap (Z S (.inr rfl));refine Bl (B9.cells (g.E+1) _ (by rw[AU b0];rfl)) ?_;rw[Av,wrap64 (by omega) (by omega),Av,wrap64 (by omega) (by omega),Gm];have e1:(if(0:Int)>(i:Int)-((Tr.sz g.k.μ lt.toL:Nat):Int)-(((g.k.μ x).1:Nat):Int) then(0:Int) else(i:Int)-((Tr.sz g.k.μ lt.toL:Nat):Int)-(((g.k.μ x).1:Nat):Int))=((i'-(g.k.μ x).1:Nat):Int):=by rw[b7];split<;>omega
    rw[e1,Av,wrap64 (by omega) (by omega),Av,wrap64 (by omega) (by omega)];have e2:(j:Int)-((Tr.sz g.k.μ lt.toL:Nat):Int)-(((g.k.μ x).1:Nat):Int)=((j'-(g.k.μ x).1:Nat):Int):=by rw[b1];omega
    rw[e2];refine AA (dw (i'-(g.k.μ x).1) (j'-(g.k.μ x).1) (V+Y.length+X2.length) ch W9 hr hb.app.2.cons.1 (by omega) (by omega) cn (by omega) c3 (by rw[<-ak];omega) (fun m hm=>?_)) ?_
    .have bd:m<X3.length:=by rw[ak];exact hm
     rw[bc m bd];simp only[ak]
    rw[<-ak];rintro v W2 ⟨u1,u2,uq,I,q1,q2,q3⟩;refine done v I (fun y o=>q1 y (c1 y o)) q2 ⟨by omega,z9.2.trans uq⟩ (fun y o=>(u2 y (c1 y o)).trans (Z y (.inl o))) ?_;simp only[List.length_append];rwa [<-Nat.add_assoc,<-Nat.add_assoc]
  .refine HU (fun c9=>?_) fun ca=>?_;rotate_left
   .have e2:X2=[]:=by rw[b8,if_neg fun e=>ca (b2.2 e)]
    rw[e2];exact⟨av,a1,a2,a3,cc,z8,T⟩
   have b3:=b2.1 c9;have ea:=cd b3;have e2:X2=[q]:=by rw[b8,if_pos b3]
   have ec:i'=0:=by omega
   have e5:to=1:=by omega
   rw[c6] at B8;refine Bl (B8.cells 0 _ rfl) ?_;refine AW (fun vs W'=>vs=[Qt w b g.E q]/\W'=W8) ?_ ?_;rotate_left
   .rw[Ax];exact AE (fun e=>by omega) fun _=>⟨rfl,rfl⟩
   rintro _ _ ⟨rfl,rfl⟩ _;rename World=>W8
   refine AW (fun vs W'=>vs=[Qt w b g.E q]/\W'=W8) ?_ ?_;rotate_left
   .rw[BK];exact AE (fun e=>by omega) fun _=>⟨rfl,rfl⟩
   rintro _ bp ⟨rfl,rfl⟩ _;rename World=>bp
   simp only[CN,List.headD_cons];have ed:=z8.1;refine .inr ⟨l,rfl,?_⟩;have cv:X2.length=1:=by rw[e2];rfl
   have ax:=ba 0 (by omega);simp only[Nat.add_zero,e2,List.getElem_cons_zero] at ax;rw[<-ax];refine Ff (H.bF _ av bp (by omega) cc) ?_;rintro v cx ⟨y1,y2,yq,y3⟩;have ay:∀y,av y->cx.heap[y]?=bp.heap[y]?:=fun y o=>y2 y o;have dk:Quiet w7 cx:=z8.2.trans yq;rcases y3 with⟨rfl,bs⟩|⟨rfl,bs⟩
   .rw[Aq];refine AT ⟨av,a1,a2,fun y o=>by have:=a3 y o;omega,by rw[cv];exact bs,⟨by omega,dk⟩,fun y o=>?_⟩;exact(ay y (by rcases o with o|rfl;exact a1 y o;exact a2)).trans (T y o)
   .rw[Aq];exact Ao (done (.bool false) av a1 (fun y o=>by have:=a3 y o;omega) ⟨by omega,dk⟩ (fun y o=>(ay y (a1 y o)).trans (T y (.inl o))) (.inr ⟨rfl,bs⟩))
def RZ:Tr α->List (Nat×α)
 |.nil=>[]
 |.node l i x r=>RZ l++(i,x)::RZ r
theorem Wf(t:Tr α):(RZ t).map (·.1)=t.idx:=by
 induction t with
 |nil=>rfl
 |node l i x r h1 j=>simp only[RZ,Tr.idx,List.map_append,List.map_cons,h1,j]
theorem Wl(t:Tr α):(RZ t).map (·.2)=t.toL:=by
 induction t with
 |nil=>rfl
 |node l i x r h1 j=>simp only[RZ,Tr.toL,List.map_append,List.map_cons,h1,j]
theorem RL{f:Nat->Option (Nd α)}{μ:α->Nat×Nat}{t:Tr α}(h:Tr.Holds μ f t):∀p∈RZ t,∃n,f p.1=some n/\n.x=p.2:=by
 induction t with
 |nil=>intro p hp;simp[RZ] at hp
 |node l i x r h1 j=>
  obtain⟨a,b,c⟩:=h;intro p hp;simp only[RZ,List.mem_append,List.mem_cons] at hp;rcases hp with hp|rfl|hp
  .exact h1 a p hp
  .exact⟨_,c,rfl⟩
  .exact j b p hp
def R9{β:Type}:List β->Nat->Nat->List β
 |[],_,_=>[]
 |x::t,i,j=>(if i<min j 1 then[x] else[])++R9 t (i-1) (j-1)
theorem QW{β o:Type}(f:β->o)(l:List β)(i j:Nat):R9 (l.map f) i j=(R9 l i j).map f:=by
 induction l generalizing i j with
 |nil=>rfl
 |cons x l y=>simp only[List.map_cons,R9,y,List.map_append];split<;>rfl
theorem Xh{β:Type}(l:List β)(i j:Nat):∀x∈R9 l i j,x∈l:=by
 induction l generalizing i j with
 |nil=>intro x o;exact o
 |cons y l B=>
  intro x o;simp only[R9,List.mem_append] at o;rcases o with o|o
  .split at o
   .simp at o;simp[o]
   .simp at o
  .exact List.mem_cons_of_mem _ (B _ _ x o)
theorem bL(l:List Nat)(i j:Nat):J7.over l i j=R9 l i j:=by
 induction l generalizing i j with
 |nil=>rfl
 |cons x l o=>rw[KQ,o];rfl
theorem cD(l:List α)(i j:Nat):g.k.over l i j=R9 l i j:=by
 induction l generalizing i j with
 |nil=>rfl
 |cons x l o=>
  simp only[Kd.over,R9,o,g.μ1];congr 1
  split
  .rename_i h;have e:g.k.part x i (min j 1)=x:=by unfold Kd.part;rw[g.μ1,if_neg (by omega),if_neg (by simp only;omega)]
   rw[e]
  .rfl
theorem Xt:TK g.toAvT:=by
 intro F C W b i j A T h hs U hu hb hi hj;apply g.ok.over;unfold UX;refine FI rfl fun b3 w1 a1 V X=>?_;refine FI rfl fun b4 w2 a6 I Y=>?_;refine FI rfl fun b5 O a7 B Z=>?_;have o:=(V.trans I).trans B;have y:=h.grow o;have s1:=V.size;have s2:=I.size;have q3:=X.lt (Nat.succ_pos _);have q4:=Y.lt (Nat.succ_pos _);have q5:=Z.lt (Nat.succ_pos _);have s3:=B.size;have Q:g.k.over T.toL i j=(R9 (RZ T) i j).map (·.2):=by rw[cD,<-Wl,QW]
 have eI:J7.over T.idx i j=(R9 (RZ T) i j).map (·.1):=by rw[bL,<-Wf,QW]
 refine⟨[.pointer (some ⟨b3,0,none⟩),.pointer (some ⟨b4,0,none⟩),.pointer (some ⟨b5,0,none⟩)],(J7.over T.idx i j).map (Qt O b g.E),_,rfl,o,by rw[List.length_map,eI,Q,List.length_map,List.length_map],fun m m1 m2=>?_,fun x S=>?_,MD y ((X.grow I).grow B) (Y.grow B) Z fun l J Jx w4 g4 H hJ hz=>?_⟩
 .have hm:m<(R9 (RZ T) i j).length:=by rw[Q,List.length_map] at m2;exact m2
  obtain⟨n,hn,S⟩:=RL U _ (Xh _ i j _ (List.getElem_mem hm));obtain⟨c,p,m',k',e1,e2,_,_,_,r,hr,hc⟩:=PZ y hn;have er:=UN hr;refine⟨r,?_,?_⟩
  .simp only[List.getElem_map,eI];have e3:O.cell? (p.add ((R9 (RZ T) i j)[m].1*(g.E+6)))=some (g.toAvK.enc r):=by
    have:=hc 0 (g.toAvK.enc r) (by rw[List.getElem?_append_left (by rw[g.rlen hr];exact g.Epos),er];unfold AvK.enc;rw[g.one1];rfl);rwa [Nat.add_zero] at this
   simp only[Qt,e1,e2,e3];rfl
  .simp only[Q,List.getElem_map,<-S];exact hr
 .rcases S with e|e|e|e|e
  .exact⟨.inl e,y.lt x (.inl e)⟩
  .exact⟨.inr (.inl e),y.lt x (.inr e)⟩
  .exact⟨.inr (.inr (by omega)),by omega⟩
  .exact⟨.inr (.inr (by omega)),by omega⟩
  .exact⟨.inr (.inr (by omega)),by omega⟩
 .have H':NY prog l J Jx O (fun x=>F x\/C x) _ _:=⟨H.hJ,H.QD,fun k It W hJ b hb hr=>H.Ix k It W hJ b hb (hr.elim .inl fun h=>.inr (.inl h)),H.bF⟩;have key:=Rp y hs H' T i j 0 (fun _=>False) w4 U hb hi hj hJ hz (fun _ h=>h.elim) (by rw[List.length_map];omega) (fun m hm=>?_)
  .rw[List.length_map];rw[Nat.zero_add] at key;exact key
  .simp[List.getD,hm]
end
theorem Qm{W0 B:World}{g c:Nat}{C0:Nat->Prop}{L M:List (List Attr)}{call:Value->Cont->World->Prop}{Kend:World->Prop}(a1:M.length=L.length)(hL:L.length<=109951162777)(hg:W0.heap.size<=g)(g1:Grow W0 B)
 (o:AF W0.heap.size 43 1 (CY C0) B (.slice (some ⟨g,0,none⟩) L.length c) L)(a6:∀b,C0 b->b≠g)
 (O:∀(j:Nat) (h1:j<L.length) (h2:j<M.length) (sv:Value) (W':World) (K:Cont),Mod (fun b=>b=g) B W'->Cu C0 W' sv L[j]->(∀v' w',IJ W'.heap.size w' v' M[j]->Grow W' w'->K v' w')->call sv K W')
 (hK:∀w',AF W0.heap.size 43 1 (CY (fun b=>W0.heap.size<=b/\b≠g)) w' (.slice (some ⟨g,0,none⟩) L.length c) M->Mod (fun b=>b=g) B w'->Kend w') :
  Ay [(.int .i64 0)] (fun vs Q w2=>∀_:Env,
   Bc .i64 (nth vs 0) (.int .i64 (L.length:Int)) fun a7=>
   AD a7
   (Be 1 (.slice (some ⟨g,0,none⟩) L.length c) (nth vs 0) fun a8=>
   AK a8 (fun ak w3=>
   call ak (fun al w4=>
   Be 1 (.slice (some ⟨g,0,none⟩) L.length c) (nth vs 0) fun an=>
   BC an al (fun w5=>
   AX .i64 (nth vs 0) (.int .i64 1) fun av=>
   Q [av] w5) w4) w3) w2)
   (Kend w2)) B:=by
 have z1:=g1.size
 let Inv:Nat->World->Prop:=fun i W'=>AF W0.heap.size 43 1 (fun _ _ _=>True) W' (.slice (some ⟨g,0,none⟩) L.length c) L/\Mod (fun b=>b=g) B W'/\
  ∀j (h1:j<L.length) (h2:j<M.length),∃sv,W'.cell? ⟨g,j,none⟩=some sv/\Live W' ⟨g,j,none⟩/\(j<i->Cu (fun b=>W0.heap.size<=b/\b≠g) W' sv M[j])/\(i<=j->Cu C0 W' sv L[j])
 have T:Inv 0 B:=by
  refine⟨o.any,Mod.refl _ _,fun j h1 h2=>?_⟩;obtain⟨r,hr,ax,⟨sv,rfl,hs⟩,S⟩:=AF.cellsOf o h1;have e:∀x,j*1+x=j+x:=fun x=>by omega
  refine⟨sv,by have:=ax 0 sv rfl;rwa [e,Nat.add_zero] at this,by have:=S 0 (by decide);rwa [e,Nat.add_zero] at this,fun h=>by omega,fun _=>hs⟩
 refine Ae (fun vs W'=>∃i:Nat,i<=L.length/\vs=[.int .i64 i]/\Inv i W') (fun vs _=>L.length-ED vs 0) ⟨0,Nat.zero_le _,rfl,T⟩ ?_;rintro vs w2 ⟨i,hi,rfl,oA,mA,rows⟩ _;rw[CN,List.headD_cons,Ax];have z2:=mA.size;have b8:g<B.heap.size:=(AF.BL o g rfl).2;refine AE (fun b9=>?_) fun ba=>?_
 .have y:i<L.length:=by omega
  obtain⟨sv,hc,S,_,ay⟩:=rows i y (by omega);refine AZ y ?_;rw[AI,Nat.mul_one];refine AL hc ?_;refine O i y (by omega) sv w2 _ mA (ay (Nat.le_refl _)) fun v' w4 oS E=>?_;have z4:=E.size;obtain⟨U,b0⟩:=oS.one;refine AZ y ?_;rw[AI,Nat.mul_one];refine Live.st (S.mod E fun h=>h) U b0 ?_;have b1:AF W0.heap.size 43 1 (fun _ _ _=>True) w4 (.slice (some ⟨g,0,none⟩) L.length c) L:=AF.mod oA E (fun _ _ h=>h) fun _ _ _ _=>trivial;have V:=AF.aK b1 y (j:=0) (by decide) U;rw[Nat.mul_one,Nat.add_zero] at V;have m5:=dB w4 g i v';rw[AR,AQ (by omega)];refine⟨⟨i+1,y,rfl,V,(mA.next E fun _ _ h=>h.elim).next m5 fun _ _ e=>e,fun j h1 h2=>?_⟩,by rw[DW,DW];omega⟩;obtain⟨b2,b3,X,b4,Y⟩:=rows j h1 h2;have I:=E.cell b3 fun h=>h;have J:Live w4 ⟨g,j,none⟩:=X.mod E fun h=>h;by_cases e:j=i
  .subst e;refine⟨v',World.cell?_setCell_same w4 _ v' I,J.set _ _,fun _=>?_,fun h=>by omega⟩;refine BJ.mono oS.sl (fun b hb h=>⟨by have:=h.1;omega,fun e=>by have:=h.1;omega⟩) (fun b hb h=>m5.same b hb fun e=>by have:=h.1;omega) (by decide) fun r x Z=>Z
  .refine⟨b2,by rw[World.cell?_setCell_other w4 _ _ v' (by intro e2;simp only[Addr.mk.injEq] at e2;omega)];exact I,J.set _ _,fun h=>?_,fun h=>?_⟩
   .refine BJ.mono (b4 (by omega)) (fun b hb h=>h) (fun b hb h=>?_) (by decide) fun r x Z=>Z;exact(m5.same b (by omega) fun e=>h.2 e).trans (E.same b hb fun h=>h)
   .refine BJ.mono (Y (by omega)) (fun b hb h=>h) (fun b hb h=>?_) (by decide) fun r x Z=>Z;exact(m5.same b (by omega) fun e=>a6 b h e).trans (E.same b hb fun h=>h)
 .have b5:i=L.length:=by omega
  subst b5;refine hK w2 ?_ mA;refine AF.conv (AF.len oA M a1) fun j hj r b6 Y b7=>?_;obtain⟨sv,hc,_,hd,_⟩:=rows j (by omega) hj;obtain⟨u,rfl⟩:∃u,r=[u]:=List.length_eq_one_iff.1 b6;have:=b7 0 u rfl;rw[Nat.mul_one,Nat.add_zero,hc] at this;cases this;exact⟨_,rfl,hd (by omega)⟩
theorem PK{S C:Nat->Prop}{v:Value}{L:List (List Attr)}{w:World}(h:BJ S 1 (CY C) w v L)(hl:L.length*24<=140737488355328) :
  AB prog 176 [v] (fun v' w'=>AF w.heap.size 43 1 (CY fun b=>C b/\b<w.heap.size) w' v' L/\Grow w w') w:=by
 apply WY;have o:BJ S 1 (CY fun b=>C b/\b<w.heap.size) w v L:=BJ.mono h (fun _ _ h=>h) (fun _ _ _=>rfl) (by decide) fun r x i=>A6.rsub i fun y j hc=>⟨hc,j⟩;exact Jy A6.elE o hl (fun _ _ _ i=>A6.rone i) (fun I w2 r y J hm j=>A6.BR j hm fun b hb B O=>by have:=B.2;omega) fun v' w' h1 E=>And.intro h1 E
theorem JF{S C:Nat->Prop}{v:Value}{L:List (List Attr)}{w:World}(h:BJ S 1 (CY C) w v L)(hl:L.length<=5497558138)(O:∀x∈L,x.length*48<=140737488355328) :
  AB prog 102 [v] (fun v' w'=>AF w.heap.size 43 1 (CY fun b=>w.heap.size<=b/\v'.ownBlock≠some b) w' v' L/\Grow w w') w:=by
 apply Wv;refine AA (PK h (by omega)) ?_;rintro v1 J ⟨i,o⟩;obtain⟨Q,c1,rfl,T,U,hp,V⟩:=AF.shape i;rw[AS];cases Q with
 |none=>
  have:=V rfl;subst this;refine Ae (fun vs w2=>vs=[.int .i64 0]/\w2=J) (fun _ _=>0) ⟨rfl,rfl⟩ ?_;rintro vs _ ⟨rfl,rfl⟩ _;rename World=>J
  rw[CN,List.headD_cons,Ax];exact AE (fun h=>by simp at h) fun _=>⟨AF.mod i (Mod.refl (fun _=>False) _) (fun _ _ h=>h) fun r y B=>by simp at B,o⟩
 |some p1=>
  obtain⟨g,rfl,E,X,_⟩:=hp _ rfl;refine Qm (call:=fun sv K W'=>AB prog 52 [sv] K W') (Kend:=fun w2=>AF w.heap.size 43 1 (CY fun b=>w.heap.size<=b/\(Value.slice (some ⟨g,0,none⟩) L.length c1).ownBlock≠some b) w2 (.slice (some ⟨g,0,none⟩) L.length c1) L/\Grow w w2) (M:=L) rfl (by omega) E o i (fun b hb e=>by have:=hb.2;omega) (fun j Y q2 sv W' K hm I Z=>?_) fun w' oM m=>⟨?_,o.next m fun b hb e=>by omega⟩
  .refine AA (G0 I (O _ (List.getElem_mem Y))) ?_;rintro v' w' ⟨k1,k2⟩;exact Z v' w' k1 k2
  .refine AF.mod oM (Mod.refl (fun _=>False) _) (fun _ _ h=>h) fun r y _ B=>A6.rsub B fun b hb h=>⟨h.1,fun e=>?_⟩;simp only[Value.ownBlock,Option.some.injEq] at e;exact h.2 e.symm
theorem OX{W:World}{gf:Nat}{T vals:List Value}{Rd C:Nat->Prop}{X:List (List Attr)}(hs:Jw True prog gf T (fun k=>[vals.getD k undef]) vals.length Rd W)(a8:DE gf=true)(hv:vals.length=X.length)(J:∀m (h1:m<vals.length) (U:m<X.length),Cu C W vals[m] X[m])(Ix:∀x,Rd x->x<W.heap.size)(hl:X.length<=5497558138) :
  AB prog 103 [.func (.func gf) #[] T.toArray] (fun v' w'=>AF W.heap.size 43 1 (CY fun b=>C b/\b<W.heap.size) w' v' X/\Grow W w') W:=by
 apply XS;apply Xg;refine FI rfl fun c E hc g1 B=>?_;have b2:=B.lt (Nat.succ_pos _);have z1:=g1.size;have Fy:∀{M:Nat->Prop} {w2 w3:World} {r:List Value} {x:List Attr},Mod M w2 w3->(∀b,b<W.heap.size->¬M b)->CY (fun b=>C b/\b<W.heap.size) w2 r x->CY (fun b=>C b/\b<W.heap.size) w3 r x:=fun hm hn hy=>A6.BR hy hm fun b _ hd=>hn b hd.2;have ak:∀m (h1:m<vals.length) (U:m<X.length),CY (fun b=>C b/\b<W.heap.size) E [vals[m]] X[m]:=fun m q1 q2=>Fy (w2:=W) g1 (fun _ _ h=>h) ⟨_,rfl,(J m q1 q2).mono (fun b hb h=>⟨h,hb⟩) (fun _ _ _=>rfl) (by decide) fun _ _ h=>h⟩;refine⟨True,gf,T,_,_,_,rfl,a8,hs.grow g1,fun k _=>rfl,?_⟩;refine⟨fun k O W'=>∃out,Xr 43 1 (CY fun b=>C b/\b<W.heap.size) E.heap.size c E.heap.size O W' out (X.take k)/\Mod (fun x=>x=c) E W'/\k<=X.length,fun _ _ _=>False,⟨_,⟨B,AF.nil,fun g i=>nomatch i⟩,Mod.refl _ _,Nat.zero_le _⟩,?_,fun x O al W W' h=>h.elim,?_,?_,?_,fun x O W h=>h.elim⟩
 .rintro k O al W' b3 ⟨out,q,m,hk⟩ hm j;have a1:=q.box.lt (Nat.succ_pos _);have hn:∀x,x<E.heap.size->¬((¬True/\O x)\/x=E.heap.size\/x=E.heap.size+1):=fun x J=>by rintro(⟨h,_⟩|h|h);exact h trivial;all_goals omega
  refine⟨out,⟨q.box.mod hm (hn c (by omega)),AF.mod q.row hm (fun g i=>?_) fun _ _ _ h=>Fy hm (fun b hb=>hn b (by omega)) h,fun g i=>?_⟩,m.next hm fun x J=>?_,hk⟩
  .obtain⟨_,U,h3,_⟩:=q.hc g i;rintro(⟨h,_⟩|h|h)
   .exact h trivial
   .exact U h
   .exact h3 h
  .obtain⟨h1,U,h3,h4⟩:=q.hc g i;refine⟨h1,U,h3,fun h=>?_⟩;rcases(j g h).1 with h|h
   .exact h4 h
   .have:=(AF.BL q.row g i).2;omega
  .intro e;exact absurd e (hn x J)
 .rintro k O W' ⟨out,q,m,hk⟩ b hb hr;exact m.same b hb fun e=>by have:=Ix b hr;omega
 .rintro k O W' hk ⟨out,q,m,b4⟩ hz j;have Q:k<X.length:=by omega
  have V:(nth [vals.getD k undef] 0)=vals[k]:=by
   show vals.getD k undef=_;rw[List.getD_eq_getElem?_getD,List.getElem?_eq_getElem hk,Option.getD_some]
  rw[V];refine Kf (Mod.refl (fun _=>False) _) hz j (fun _ _ h=>h.elim) fun W6 o=>?_;have z6:=o.size;have zm:=m.size;have a1:=q.box.lt (Nat.succ_pos _);have B6:=q.box.mod o (by omega);have o6:AF E.heap.size 43 1 (CY fun b=>C b/\b<W.heap.size) W6 out (X.take k):=AF.mod q.row o (fun g i=>(q.hc g i).2.2.1) fun _ _ _ h=>Fy o (fun b hb e=>by omega) h;have a6:=Fy o (fun b hb e=>by omega) (Fy m (fun b hb e=>by omega) (ak k hk Q));refine AL (B6.cells 0 _ rfl) ?_;have b5:(X.take k).length<=X.length:=by simp;omega
  have Y:(vals[k]).cells=[vals[k]].toArray:=by
   obtain⟨sv,e,an⟩:=a6;cases e;obtain⟨a,c,e,_⟩:=an.shape;rw[e];rfl
  refine DO A6.elE o6 (by omega) (cs:=[vals[k]]) (x:=X[k]) (DP (v:=vals[k]) rfl (by decide) Y rfl) rfl a6 (fun _ _ _ h=>A6.rone h) (fun w2 w3 r y b6 hm hy=>Fy hm (fun b hb e=>?_) hy) (by show _*24<=_;omega) (by simp only[maxLen];omega) fun a7 W9 o9 m9 n9=>?_
  .rcases e with e|e
   .have:=(AF.BL o6 b e).1;omega
   .omega
  have z9:=m9.size;have b7:=AF.BL o6;have B9:=B6.mod m9 fun e=>(q.hc c e).1 rfl;obtain⟨av,ax⟩:=o9.one;refine B9.st (q:=0) (show 0<1 by decide) av ax fun ay b0 I=>?_;have b8:=I.size;have S:Mod (fun x=>x=c\/out.ownBlock=some x) W6 ay:=(m9.mono fun _ _ e=>.inr e).trans (I.mono fun _ _ e=>.inl e);refine⟨N3 S (by omega) (fun b hb=>by have:=(j b hb).1;omega) (fun b _ e=>?_),a7,⟨b0,?_,fun g i=>?_⟩,?_,by omega⟩
  .rcases e with rfl|e
   .exact⟨fun h=>by have:=(j b h).2;omega,by omega,by omega⟩
   .obtain⟨h1,U,h3,h4⟩:=q.hc b e;exact⟨h4,U,h3⟩
  .have b1:X.take (k+1)=X.take k++[X[k]]:=by rw[List.take_add_one];simp[Q]
   rw [b1];exact AF.mod o9 I (fun g i e=>by
    rcases n9 g i with h|h
    .exact(q.hc g h).1 e
    .omega) fun _ _ _ h=>Fy I (fun b hb e=>by omega) h
  .rcases n9 g i with h|h
   .exact q.hc g h
   .refine⟨by omega,by omega,by omega,fun hI=>by have:=(j g hI).1;omega⟩
  .refine(m.next o fun x J e=>by omega).next S fun x J e=>?_;rcases e with e|e
   .exact e
   .have:=(AF.BL q.row x e).1;omega
 .rintro O W' ⟨out,q,m,hk⟩ _ _ hd;refine AL (q.box.cells 0 _ rfl) ⟨hd,?_⟩;have Z:Mod (fun b=>b=E.heap.size) W' (W'.putObj E.heap.size (.deferred none)):=Mod.putObj _ _ _ rfl;rw[hv,List.take_length] at q;refine⟨AF.base (AF.mod q.row Z (fun g i=>(q.hc g i).2.1) fun _ _ _ h=>Fy Z (fun b hb e=>by omega) h) fun g i=>?_,?_⟩
  .have:=(AF.BL q.row g i).1;omega
  exact(g1.next m fun x J e=>by omega).next Z fun x J e=>by omega
theorem KT(l:List (List Attr)):Tr.sz Fa.μ l=l.length:=by
 induction l with
 |nil=>rfl
 |cons x l i=>rw[Tr.BS,i,List.length_cons];show 1+l.length=_;omega
theorem Z8(l:List (List Attr)):Tr.mk Fa.μ l=0:=by
 induction l with
 |nil=>rfl
 |cons x l i=>rw[Tr.Ca,i];rfl
theorem JN{l:List (List Attr)}(h:l.length<=1099511627776):Db A6.toAvT l:=⟨by show Tr.sz Fa.μ l<=_;rw[KT];exact h,by show Tr.mk Fa.μ l<=_;rw[Z8];omega⟩
theorem MC:Fa.Ej (fun x:List Attr=>[x]) where
 size:=fun _=>rfl
 cut1:=fun _ p h0 h1=>by simp at h1;omega
 melds:=fun a b c h=>by cases h
theorem Nt(l:List (List Attr)):l.flatMap (fun x=>[x])=l:=by simp
theorem U0(l:List (List Attr))(i j:Nat):Fa.over l i j=(l.take j).drop i:=by
 have:=MC.over l i j;rwa [Nt,Nt] at this
theorem IY(t l:List (List Attr)){i j:Nat}(o:i<=j):Fa.Bm t i j l=t.take i++l++t.drop j:=by
 have:=MC.Bm t l o;rwa [Nt,Nt,Nt] at this
theorem DJ.sub{α:Type}{g:AvT α}{F C i:Nat->Prop}{W:World}{b:Nat}{y:Int}{A:ArS α}(h:DJ g F C W b y A)(hC:∀x,C x->i x)(B:∀x,F x->¬i x)(o:∀x,i x->x<W.heap.size):DJ g F i W b y A:=by
 obtain⟨c,pl,fr,j⟩:=h;exact⟨c,pl,fr,j.box,j.ar.sub hC (fun x E=>B x E.1) o,j.fb.1,B b j.fb.1⟩
theorem DF.sub{α:Type}{g:AvT α}{F C i:Nat->Prop}{W:World}{b bt N:Nat}{l:List α}(h:DF g F C W b bt l N)(hC:∀x,C x->i x)(o:∀x,F x->¬i x)(j:∀x,i x->x<W.heap.size):DF g F i W b bt l N:=by
 obtain⟨A,T,h1,r⟩:=h.Dg;exact⟨h.box,⟨A,T,h1.sub hC (fun x y=>o x y.1) j,r⟩,h.fb.1,o b h.fb.1⟩
theorem toList_le{α:Type}(o:Option α):o.toList.length<=1:=by cases o<;>simp
section
variable {F C:Nat->Prop}{W:World}{b bt N:Nat}{L:List (List Attr)}
theorem Qf{k m:Nat}(h:DF A6.toAvT F C W b bt L N)(hN:N<=109951162000)(y:k<=m)(hm:m<=L.length)(hl:L.length<=536870912)(Z:∀x∈L,x.length*48<=140737488355328) :
  AB prog 49 [.pointer (some ⟨b,0,none⟩),.int .i64 (k:Int),.int .i64 (m:Int)] (fun v' w'=>∃(j:Value) (W0:World),v'=.tuple #[j,.int .i64 0]/\Grow W W0/\Grow W0 w'/\AF W0.heap.size 43 1 (CY fun b=>W0.heap.size<=b/\j.ownBlock≠some b) w' j ((L.take m).drop k)) W:=by
 apply Yz;refine AA (Ib El h) ?_;rintro _ w1 ⟨rfl,B⟩;rw[show Tr.sz A6.toAvT.k.μ L=L.length from KT L,IM y hm,Br];refine Ab (fun _=>?_) fun e=>(e rfl).elim;have S:=h.grow B;refine AA (Dn El S) ?_;rintro _ _ ⟨rfl,rfl⟩;rename World=>w1
 obtain⟨A,T,t1,t2,t3,rfl,t5⟩:=S.Dg;refine AA (Xt (g:=A6) t1 (by omega) t2 t3 (JN (by omega)) (by omega) (by omega)) ?_;rintro _ w3 ⟨a1,vals,Rd,rfl,U,E,I,Ix,i⟩;have J:Fa.over T.toL k m=(T.toL.take m).drop k:=U0 _ _ _;have a6:(Fa.over T.toL k m).length<=536870912:=by rw[J,List.length_drop,List.length_take];omega
 refine AA (OX (C:=C) (X:=Fa.over T.toL k m) i (by kernel_rfl) E (fun p q1 q2=>?_) (fun x o=>(Ix x o).2) (by omega)) ?_
 .obtain⟨r,e1,e2⟩:=I p q1 q2;obtain⟨sv,rfl,O⟩:CY C w3 r (Fa.over T.toL k m)[p]:=e2;rw[e1];exact O
 rintro j w4 ⟨o4,V⟩;refine AA (JF (AF.sl o4) (by omega) fun x o=>Z x ?_) ?_
 .rw[J] at o;exact List.mem_of_mem_take (List.mem_of_mem_drop o)
 rintro Q w5 ⟨Y,g5⟩;have z1:=B.size;have z3:=U.size;have z4:=V.size;rw[J] at Y;exact⟨Q,w4,rfl,(B.trans U).trans V,g5,Y⟩
theorem RV{S D:Nat->Prop}{k:Nat}{R:List (List Attr)}{v:Value}(h:DF A6.toAvT F C W b bt L N)(hN:N<=100000000000)(hk:k<=L.length)(hl:L.length+R.length<=536870912)(Z:BJ S 1 (CY D) W v R)(hs:∀x∈R,x.length*48<=140737488355328) :
  AB prog 76 [.pointer (some ⟨b,0,none⟩),.int .i64 (k:Int),v] (fun v' w'=>v'=.int .i64 0/\∃F' o,(∀x,F x->F' x)/\(∀x,C x->o x)/\(∀x,F' x->F x\/W.heap.size<=x)/\(∀x,o x->C x\/W.heap.size<=x)/\DF A6.toAvT F' o w' b bt (L.take k++R++L.drop k) (N+R.length+4)/\Mod F W w') W:=by
 apply Sk;refine AA (Ib El h) ?_;rintro _ w1 ⟨rfl,I⟩;have B:∀M:List (List Attr),Tr.sz A6.toAvT.k.μ M=M.length:=KT;rw[B,IM (Nat.le_refl _) hk,Br];refine Ab (fun _=>?_) fun e=>(e rfl).elim;obtain⟨a,c,rfl,_⟩:=Z.shape;rw[AS];refine AA (LA El (h.grow I)) ?_;rintro _ w2 ⟨rfl,g2⟩;rw[B,Av,wrap64 (by omega) (by omega),BK];refine AE (fun e=>by omega) fun _=>?_;have h2:=(h.grow I).grow g2;refine AA (Dn El h2) ?_;rintro _ w3 ⟨rfl,e3⟩;subst e3;rename World=>w2
 have j:=I.trans g2;have J:BJ (fun b=>S b/\b<W.heap.size) 1 (CY fun b=>D b/\b<W.heap.size) w2 (.slice a R.length c) R:=BJ.mono (Z.HH (by decide)) (fun _ _ h=>h) (fun b hb _=>j.same b hb fun h=>h) (by decide) fun r x i=>A6.BR (A6.rsub i fun y O E=>⟨E,O⟩) j fun _ _ _ h=>h;refine AA (JF J (by omega) hs) ?_;rintro v4 w4 ⟨o4,Q⟩;have a1:=j.size;have z4:=Q.size;have T:=h.lt
 let o:Nat->Prop:=fun x=>C x\/(w2.heap.size<=x/\x<w4.heap.size/\v4.ownBlock≠some x)
 have h4:DF A6.toAvT F o w4 b bt L N:=(h2.grow Q).sub (fun x i=>.inl i) (fun x i e=>by
   rcases e with e|e
   .exact h.Ho x i e
   .have:=T x (.inl i);omega) fun x e=>by
   rcases e with e|e
   .have:=T x (.inr e);omega
   .exact e.2.1
 have U:AF w2.heap.size 43 1 (CY o) w4 v4 R:=AF.mod o4 (Mod.refl (fun _=>False) _) (fun _ _ h=>h) fun r y _ O=>A6.rsub O fun x i E=>.inr ⟨E.1,i,E.2⟩;have er:=IY L R (Nat.le_refl k);have V:(Fa.Bm L k k R).length<=1099511627776:=by rw[er];simp only[List.length_append,List.length_take,List.length_drop];omega
 refine AA (Hr (Qc (g:=A6)) (L:=R) h4 (by omega) U.sl (fun x i X=>by have:=T x (.inl X);have:=i.1;omega) (Nat.le_refl k) (by omega) (JN (by omega)) (JN (l:=Fa.Bm L k k R) V) (JN (l:=(Fa.split L k).1.getLast?.toList++R++(Fa.split (Fa.split L k).2 (k - k)).2.head?.toList) (by
  have q1:=toList_le (Fa.split L k).1.getLast?;have q2:=toList_le (Fa.split (Fa.split L k).2 (k - k)).2.head?;simp only [List.length_append];omega))) ?_
 rintro _ w5 ⟨F',k1,k2,k3,k4⟩;have Y:A6.toAvT.k.Bm L k k R=L.take k++R++L.drop k:=er;rw[Y] at k3;refine⟨rfl,F',o,k1,fun x i=>.inl i,fun x i=>(k2 x i).imp (fun h=>h) fun h=>by omega,fun x i=>i.imp (fun h=>h) fun h=>by omega,k3,((j.trans Q).mono fun _ _ h=>h.elim).trans k4⟩
theorem SO{k m:Nat}(h:DF A6.toAvT F C W b bt L N)(U:N<=100000000000)(i:k<=m)(hm:m<=L.length)(hl:L.length<=536870912) :
  AB prog 87 [.pointer (some ⟨b,0,none⟩),.int .i64 (k:Int),.int .i64 (m:Int)] (fun v' w'=>v'=.int .i64 0/\∃F',(∀x,F x->F' x)/\(∀x,F' x->F x\/W.heap.size<=x)/\DF A6.toAvT F' C w' b bt (L.take k++L.drop m) (N+4)/\Mod F W w') W:=by
 apply ZM;refine AA (Ib El h) ?_;rintro _ J ⟨rfl,j⟩;rw[show Tr.sz A6.toAvT.k.μ L=L.length from KT L,IM i hm,Br];refine Ab (fun _=>?_) fun e=>(e rfl).elim;have E:=h.grow j;refine AA (Dn El E) ?_;rintro _ _ ⟨rfl,rfl⟩;rename World=>J
 have o:=IY L [] i;rw[List.append_nil] at o;have y:(Fa.Bm L k m []).length<=1099511627776:=by rw[o];simp only[List.length_append,List.length_take,List.length_drop];omega
 refine AA (Hr (Qc (g:=A6)) (L:=[]) (S:=fun _=>False) E (by simp only [List.length_nil];omega) BJ.nil (fun _ h=>h.elim) i (by omega) (JN (by omega)) (JN (l:=Fa.Bm L k m []) y) (JN (l:=(Fa.split L k).1.getLast?.toList++[]++(Fa.split (Fa.split L k).2 (m - k)).2.head?.toList) (by
  have V:=toList_le (Fa.split L k).1.getLast?;have X:=toList_le (Fa.split (Fa.split L k).2 (m - k)).2.head?;simp only [List.length_append,List.length_nil];omega))) ?_
 rintro _ O ⟨F',k1,k2,I,Q⟩;have Y:=j.size;have B:A6.toAvT.k.Bm L k m []=L.take k++L.drop m:=o;rw[B] at I;exact⟨rfl,F',k1,fun x T=>(k2 x T).imp (fun h=>h) fun h=>by omega,I,(j.mono fun _ _ h=>h.elim).trans Q⟩
end
abbrev Xj(l:List Chg):Prop:=l.Pairwise fun a b=>a.key<b.key
abbrev KO(l:List Attr):Prop:=l.Pairwise fun a b=>a.key<b.key
def LZ(c:Chg):List Attr->List Attr
 |[]=>[]
 |a::s=>if a.key<c.key then a::LZ c s else[]
def FZ(c:Chg):List Attr->List Attr
 |[]=>[]
 |a::s=>if a.key<c.key then FZ c s else if a.key=c.key then s else a::s
def Mr(c:Chg):List Attr:=if c.gone then[] else[⟨c.key,c.val⟩]
def Bn:List Attr->List Chg->List Attr
 |s,[]=>s
 |s,c::p=>LZ c s++Mr c++Bn (FZ c s) p
def X4(l:List Attr)(k:Int):List Attr:=l.filter fun a=>decide (a.key≠k)
theorem Iv{c:Chg}{p:List Attr}{x:Attr}(h:x∈LZ c p):x∈p/\x.key<c.key:=by
 induction p with
 |nil=>simp[LZ] at h
 |cons a p i=>
  simp only[LZ] at h;split at h
  .rcases List.mem_cons.1 h with rfl|h
   .exact⟨by simp,by assumption⟩
   .exact⟨by simp[(i h).1],(i h).2⟩
  .simp at h
theorem SS{c:Chg}{p:List Attr}{x:Attr}(h:x∈FZ c p):x∈p:=by
 induction p with
 |nil=>simp[FZ] at h
 |cons a p i=>
  simp only[FZ] at h;split at h
  .simp[i h]
  .split at h
   .simp[h]
   .exact h
theorem T4{c:Chg}{p:List Attr}(hp:KO p){x:Attr}(h:x∈FZ c p):c.key<x.key:=by
 induction p with
 |nil=>simp[FZ] at h
 |cons a p i=>
  rw[KO,List.pairwise_cons] at hp;simp only[FZ] at h;split at h
  .exact i hp.2 h
  .split at h
   .have:=hp.1 x h;omega
   .rcases List.mem_cons.1 h with rfl|h
    .omega
    .have:=hp.1 x h;omega
theorem U1{c:Chg}{p:List Attr}(hp:KO p):KO (LZ c p):=by
 induction p with
 |nil=>exact List.Pairwise.nil
 |cons a p i=>
  rw[KO,List.pairwise_cons] at hp;simp only[LZ];split
  .exact List.pairwise_cons.2 ⟨fun x j=>hp.1 x (Iv j).1,i hp.2⟩
  .exact List.Pairwise.nil
theorem Rw{c:Chg}{p:List Attr}(hp:KO p):KO (FZ c p):=by
 induction p with
 |nil=>exact List.Pairwise.nil
 |cons a p j=>
  have i:=hp;rw[KO,List.pairwise_cons] at hp;simp only[FZ];split
  .exact j hp.2
  .split
   .exact hp.2
   .exact i
theorem KN{c:Chg}{x:Attr}(h:x∈Mr c):c.gone=false/\x=⟨c.key,c.val⟩:=by
 unfold Mr at h;split at h
 .simp at h
 .rename_i i;exact⟨by simpa using i,by simpa using h⟩
theorem LL{s:List Attr}{p:List Chg}{x:Attr}(h:x∈Bn s p):x∈s\/∃c∈p,c.gone=false/\x=⟨c.key,c.val⟩:=by
 induction p generalizing s with
 |nil=>exact .inl h
 |cons c p i=>
  simp only[Bn] at h;rcases List.mem_append.1 h with h|h
  .rcases List.mem_append.1 h with h|h
   .exact .inl (Iv h).1
   .exact .inr ⟨c,by simp,KN h⟩
  .rcases i h with h|⟨d,j,h⟩
   .exact .inl (SS h)
   .exact .inr ⟨d,by simp[j],h⟩
theorem Tb{s:List Attr}{p:List Chg}(i:KO s)(hp:Xj p):KO (Bn s p):=by
 induction p generalizing s with
 |nil=>exact i
 |cons c p j=>
  rw[Xj,List.pairwise_cons] at hp;simp only[Bn];have o:∀x∈Bn (FZ c s) p,c.key<x.key:=fun x y=>by
   rcases LL y with h|⟨d,B,_,rfl⟩
   .exact T4 i h
   .exact hp.1 d B
  refine List.pairwise_append.2 ⟨List.pairwise_append.2 ⟨U1 i,?_,fun a ha b hb=>?_⟩,j (Rw i) hp.2,fun a ha b hb=>?_⟩
  .unfold Mr;split
   .exact List.Pairwise.nil
   .exact List.pairwise_singleton _ _
  .obtain⟨_,rfl⟩:=KN hb;exact(Iv ha).2
  .have E:=o b hb;rcases List.mem_append.1 ha with h|h
   .have:=(Iv h).2;omega
   .obtain⟨_,rfl⟩:=KN h;exact E
theorem dm{α:Type}{key:α->Int}{l:List α}{ids:List Int}(h:l.Pairwise fun a b=>key a<key b)(hm:∀x∈l,key x∈ids):l.length<=ids.length:=by
 induction l generalizing ids with
 |nil=>simp
 |cons a l j=>
  rw[List.pairwise_cons] at h;have ha:=hm a (by simp);have:=j (ids:=ids.erase (key a)) h.2 fun x i=>by
   rw[List.mem_erase_of_ne]
   .exact hm x (by simp[i])
   .have:=h.1 x i;omega
  rw[List.length_erase_of_mem ha] at this;have:0<ids.length:=List.length_pos_of_mem ha;simp only[List.length_cons];omega
theorem TP{α:Type}{key:α->Int}{l:List α}(h:∀i,1<=i->i<l.length->∀a b,l[i-1]?=some a->l[i]?=some b->key a<key b):l.Pairwise fun a b=>key a<key b:=by
 rw[List.pairwise_iff_getElem];intro i j B o x;obtain⟨d,rfl⟩:∃d,j=i+1+d:=⟨j-i-1,by omega⟩;clear x;induction d with
 |zero=>exact h (i+1) (by omega) o _ _ (by simp) (List.getElem?_eq_getElem o)
 |succ d y=>
  have:=y (by omega);have:=h (i+1+d+1) (by omega) o (l[i+1+d]'(by omega)) _ (by simp) (List.getElem?_eq_getElem o);simp only[Nat.add_assoc] at *;omega
theorem VV{α:Type}{key:α->Int}{l:List α}(h:l.Pairwise fun a b=>key a<key b):∀i,1<=i->i<l.length->∀a b,l[i-1]?=some a->l[i]?=some b->key a<key b:=by
 intro i h1 j a b ha hb;rw[List.pairwise_iff_getElem] at h;have:=h (i-1) i (by omega) j (by omega);rw[List.getElem?_eq_getElem (by omega)] at ha;rw[List.getElem?_eq_getElem j] at hb;cases ha;cases hb;exact this
def Co(o:Dop):Nat:=if o.kind=2 then o.BA.length else o.n.toNat
theorem K7{x:Int}(h0:0<=x)(h1:x<=1099511627776):IntKind.i64.wrap x=x:=by
 simp only[IntKind.wrap,IntKind.bits,IntKind.signed];simp;omega
def cM(n:Nat)(o:Dop):Dop:=if o.kind=2 then⟨2,o.n,o.BA.drop n,o.set,o.patch⟩ else⟨o.kind,o.n-n,o.BA,o.set,o.patch⟩
def behind(n:Nat):List Dop->List Dop
 |[]=>[]
 |o::x=>if n<Co o then cM n o::x else x
def total(x:List Dop):Nat:=(x.map Co).sum
section
variable {one:Dop->Dop->List Dop}
end
def Fz(ks:List DKey)(b:Bool)(p:List Chg):List Chg:=p.filter fun c=>match BY ks c.key with|some k=>decide (k.block=b)|none=>false
def Qr(ks:List DKey)(set:List Attr)(p:List Chg)(r:Int):List Attr:=Bn set (Fz ks (decide (r=10)) p)
def Good(PS:List Attr->Prop)(PP:List Chg->Prop)(o:Dop):Prop:=(o.kind=1/\o.BA=[]/\o.set=[]/\1<=o.n/\PP o.patch)\/(o.kind=3/\o.BA=[]/\o.set=[]/\o.patch=[]/\1<=o.n)\/
 (o.kind=2/\(∀r∈o.BA,Dt r)/\o.n=0/\o.patch=[]/\o.BA≠[]/\PS o.set)
theorem DU(x y:List Dop):total (x++y)=total x+total y:=by simp[total]
theorem Dy(o:Dop):total [o]=Co o:=by simp[total]
theorem L3{x:List Dop}{o:Dop}(h:o∈x):Co o<=total x:=by
 induction x with
 |nil=>simp at h
 |cons a x i=>
  simp only[total,List.map_cons,List.sum_cons] at *;rcases List.mem_cons.1 h with rfl|h
  .omega
  .have:=i h;omega
theorem Qy(i:List Dop)(b o:Dop):(i++[b]).set ((i++[b]).length-1) o=i++[o]:=by
 rw[List.set_append_right _ _ (by simp)];simp
section
variable {PS:List Attr->Prop}{PP:List Chg->Prop}
theorem VD{ins:List Dop}{g:Int}(h:∀o∈ins,Good PS PP o/\o.kind=2):∀o∈OV ins g,Good PS PP o:=by
 intro o i;unfold OV at i;split at i
 .rcases List.mem_append.1 i with j|j
  .exact(h o j).1
  .simp at j;subst j;exact .inr (.inl ⟨rfl,rfl,rfl,rfl,by simp only;omega⟩)
 .exact(h o i).1
theorem SV(ins:List Dop)(g:Int):total (OV ins g)=total ins+g.toNat:=by
 unfold OV;split
 .rw[DU,Dy];simp[Co]
 .omega
structure O4 (PS:List Attr->Prop) (PP:List Chg->Prop) (s:NQ) (t:Nat):Prop where
 done:∀o∈s.done,Good PS PP o
 ins:∀o∈s.ins,Good PS PP o/\o.kind=2
 gone:0<=s.gone
 Dc:total s.done+total s.ins+s.gone.toNat<=t
theorem RH{s:NQ}{t:Nat}{o:Dop}(h:O4 PS PP s t)(j:Good PS PP o)(ht:t+Co o<=1099511627776):O4 PS PP (Nh s o) (t+Co o):=by
 obtain⟨done,ins,gone⟩:=s;obtain⟨h1,O,Y,Z⟩:=h;simp only at h1 O Y Z;obtain⟨k,n,rs,set,p⟩:=o;rcases j with⟨E,y,I,J,x⟩|⟨E,y,I,J,x⟩|⟨E,y,I,J,x,e6⟩
 .simp only at E y I J x;subst E;subst y;subst I;simp only[Co,show ¬(1:Int)=2 by decide,if_false] at ht ⊢;simp only[Nh,if_true,cU,if_neg (show ¬n<1 by omega)];have V:∀o∈done++OV ins gone,Good PS PP o:=fun o j=>by
   rcases List.mem_append.1 j with h|h
   .exact h1 o h
   .exact VD O o h
  have Q:total (done++OV ins gone)<=t:=by rw[DU,SV];omega
  generalize done++OV ins gone=d at V Q ⊢;have new:O4 PS PP ⟨d++[⟨1,n,[],[],p⟩],[],0⟩ (t+n.toNat):=by
   refine⟨fun o j=>?_,by simp,by simp,?_⟩
   .rcases List.mem_append.1 j with h|h
    .exact V o h
    .simp at h;subst h;exact .inl ⟨rfl,rfl,rfl,J,x⟩
   .simp only[DU,Dy,Co,show ¬(1:Int)=2 by decide,if_false];simp[total];simp[total] at Q;omega
  unfold cJ;rcases List.eq_nil_or_concat d with rfl|⟨i,q,rfl⟩
  .exact new
  .simp only[List.concat_eq_append,List.getLast?_append,List.getLast?_singleton,Option.some_or] at *;by_cases e:q.kind=1/\q.patch=p
   .rw[if_pos e];have S:=V q (by simp);obtain⟨kq,nq,rq,sq,pq⟩:=q;simp only at e;obtain⟨rfl,rfl⟩:=e;rcases S with⟨B,T,U,X,f5⟩|⟨B,_⟩|⟨B,_⟩
    .simp only at T U X;subst T;subst U;rw[DU,Dy] at Q;simp only[Co,show ¬(1:Int)=2 by decide,if_false] at Q;dsimp only;rw[K7 (by omega) (by omega),Qy];refine⟨fun o j=>?_,by simp,by simp,?_⟩
     .rcases List.mem_append.1 j with h|h
      .exact V o (by simp[h])
      .simp at h;subst h;exact .inl ⟨rfl,rfl,rfl,by simp only;omega,x⟩
     .simp only[DU,Dy,Co,show ¬(1:Int)=2 by decide,if_false];simp[total];simp[total] at Q;omega
    .simp at B
    .simp at B
   .rw[if_neg e];exact new
 .simp only at E y I J x;subst E;subst y;subst I;subst J;simp only[Co,show ¬(3:Int)=2 by decide,if_false] at ht ⊢;simp only[Nh,show ¬(3:Int)=1 by decide,show ¬(3:Int)=2 by decide,if_false,cX];have:aQ n 0=n:=by unfold aQ;rw[if_neg (by omega)]
  rw[this,K7 (by omega) (by omega)];exact⟨h1,O,by simp only;omega,by simp only;omega⟩
 .simp only at E y I J x e6;subst E;subst I;subst J;simp only[Co,if_true] at ht ⊢;simp only[Nh,show ¬(2:Int)=1 by decide,if_true,if_false,cY,if_neg x];have new:O4 PS PP ⟨done,ins++[⟨2,0,rs,set,[]⟩],gone⟩ (t+rs.length):=by
   refine⟨h1,fun o j=>?_,Y,?_⟩
   .rcases List.mem_append.1 j with h|h
    .exact O o h
    .simp at h;subst h;exact⟨.inr (.inr ⟨rfl,y,rfl,rfl,x,e6⟩),rfl⟩
   .simp only[DU,Dy,Co,if_true];omega
  unfold bP;rcases List.eq_nil_or_concat ins with rfl|⟨i,q,rfl⟩
  .exact new
  .simp only[List.concat_eq_append,List.getLast?_append,List.getLast?_singleton,Option.some_or] at *;by_cases e:q.set=set
   .rw[if_pos e];have S:=O q (by simp);obtain⟨kq,nq,rq,sq,pq⟩:=q;simp only at e;subst e;obtain⟨S,hk⟩:=S;simp only at hk;subst hk;rcases S with⟨B,_⟩|⟨B,_⟩|⟨B,T,U,X,f5,f6⟩
    .simp at B
    .simp at B
    .simp only at T U X f5 f6;subst U;subst X;rw[Qy];refine⟨h1,fun o j=>?_,Y,?_⟩
     .rcases List.mem_append.1 j with h|h
      .exact O o (by simp[h])
      .simp at h;subst h;exact⟨.inr (.inr ⟨rfl,fun r hr=>by rcases List.mem_append.1 hr with h|h;exact T r h;exact y r h,rfl,rfl,by simp[x],f6⟩),rfl⟩
     .simp only[DU,Dy,Co,if_true,List.length_append] at Z ⊢;omega
   .rw[if_neg e];exact new
theorem bu(x:List Dop)(h:∀o∈x,Good PS PP o)(hb:total x<=1099511627776):O4 PS PP (Sb x) (total x):=by
 induction x using Mm with
 |h0=>exact⟨by simp[Sb,NQ.z],by simp[Sb,NQ.z],by simp[Sb,NQ.z],by simp[Sb,NQ.z,total]⟩
 |h1 x o i=>
  rw[DU,Dy] at hb ⊢;have:=RH (i (fun o j=>h o (by simp[j])) (by omega)) (h o (by simp)) hb;simpa[Sb] using this
end
section
variable {ks:List DKey}
def Js(ks:List DKey)(l:List Attr):Prop:=KO l/\l.length<=64/\∀a∈l,DK a.val/\Gr ks a.key a.val
def Og(ks:List DKey)(p:List Chg):Prop:=Xj p/\p.length<=64/\∀c∈p,(c.gone=true->c.val=BE.zero)/\(c.gone=false->DK c.val/\Gr ks c.key c.val)/\BY ks c.key≠none
theorem GL{l:List Attr}:Bb ks l=0↔Js ks l:=by
 unfold Bb;constructor
 .intro h;split at h
  .cases h
  .split at h
   .cases h
   .rename_i h1 j;refine⟨Classical.byContradiction fun i=>h1 (.inl fun hr=>i (TP hr)),Classical.byContradiction fun i=>h1 (.inr (.inl (by omega))),fun a ha=>⟨Classical.byContradiction fun i=>h1 (.inr (.inr ⟨a,ha,i⟩)),Classical.byContradiction fun i=>j ⟨a,ha,i⟩⟩⟩
 .rintro⟨h1,j,o⟩;rw[if_neg,if_neg]
  .rintro⟨a,ha,i⟩;exact i (o a ha).2
  .rintro(i|i|⟨a,ha,i⟩)
   .exact i (VV h1)
   .omega
   .exact i (o a ha).1
theorem IS{l:List Chg}:DA ks l=0↔Og ks l:=by
 unfold DA;constructor
 .intro h;split at h
  .cases h
  .split at h
   .cases h
   .rename_i h1 x;refine⟨Classical.byContradiction fun i=>h1 (.inl fun hr=>i (TP hr)),Classical.byContradiction fun i=>h1 (.inr (.inl (by omega))),fun a ha=>⟨fun j=>Classical.byContradiction fun i=>h1 (.inr (.inr ⟨a,ha,.inl ⟨j,i⟩⟩)),fun j=>⟨Classical.byContradiction fun i=>h1 (.inr (.inr ⟨a,ha,.inr ⟨j,i⟩⟩)),Classical.byContradiction fun i=>x ⟨a,ha,.inr ⟨j,i⟩⟩⟩,fun i=>x ⟨a,ha,.inl i⟩⟩⟩
 .rintro⟨h1,x,o⟩;rw[if_neg,if_neg]
  .rintro⟨a,ha,i|⟨j,i⟩⟩
   .exact(o a ha).2.2 i
   .exact i ((o a ha).2.1 j).2
  .rintro(i|i|⟨a,ha,⟨j,i⟩|⟨j,i⟩⟩)
   .exact i (VV h1)
   .omega
   .exact i ((o a ha).1 j)
   .exact i ((o a ha).2.1 j).1
theorem HP:Js ks []:=⟨List.Pairwise.nil,by simp,by simp⟩
theorem HQ:Og ks []:=⟨List.Pairwise.nil,by simp,by simp⟩
theorem QN{id:Int}{k:DKey}(h:BY ks id=some k):id∈ks.map DKey.id:=by
 have h1:=List.find?_some h;simp at h1;exact List.mem_map.2 ⟨k,List.mem_of_find?_eq_some h,h1⟩
theorem Sv{id:Int}(h:BY ks id≠none):id∈ks.map DKey.id:=by
 cases e:BY ks id with
 |none=>exact(h e).elim
 |some k=>exact QN e
theorem Uv(o:ks.length<=64){s:List Attr}{p:List Chg}(j:Js ks s)(hp:Xj p)(i:∀c∈p,c.gone=false->DK c.val/\Gr ks c.key c.val):Js ks (Bn s p):=by
 have hm:∀a∈Bn s p,DK a.val/\Gr ks a.key a.val:=fun a ha=>by
  rcases LL ha with h|⟨c,hc,x,rfl⟩
  .exact j.2.2 a h
  .exact i c hc x
 have hr:=Tb j.1 hp;refine⟨hr,?_,hm⟩;have:=dm (key:=Attr.key) (ids:=ks.map DKey.id) hr fun a ha=>by
  obtain⟨k,hk,_⟩:=(hm a ha).2;exact QN hk
 rw[List.length_map] at this;omega
abbrev Dh(ks:List DKey)(o:Dop):Prop:=Good (Js ks) (Og ks) o
theorem Dh.form{o:Dop}(h:Dh ks o)(hl:Co o<=536870912):FG o/\Js ks o.set/\Og ks o.patch:=by
 rcases h with⟨h1,x,i,j,y⟩|⟨h1,x,i,j,y⟩|⟨h1,x,i,j,y,B⟩
 .simp only[Co,h1,show ¬(1:Int)=2 by decide,if_false] at hl;exact⟨.inl ⟨h1,x,i,j,by omega⟩,by rw[i];exact HP,y⟩
 .simp only[Co,h1,show ¬(3:Int)=2 by decide,if_false] at hl;exact⟨.inr (.inl ⟨h1,x,i,j,y,by omega⟩),by rw[i];exact HP,by rw[j];exact HQ⟩
 .simp only[Co,h1,if_true] at hl;exact⟨.inr (.inr ⟨h1,x,i,j,List.length_pos_iff.2 y,hl⟩),B,by rw[j];exact HQ⟩
theorem FG.FK{o:Dop}(h:FG o)(E:Js ks o.set)(hp:Og ks o.patch):Dh ks o/\Co o<=536870912:=by
 rcases h with⟨h1,i,j,x,y⟩|⟨h1,i,j,x,y,B⟩|⟨h1,i,j,x,y,B⟩
 .exact⟨.inl ⟨h1,i,j,x,hp⟩,by simp only[Co,h1,show ¬(1:Int)=2 by decide,if_false];omega⟩
 .exact⟨.inr (.inl ⟨h1,i,j,x,y⟩),by simp only[Co,h1,show ¬(3:Int)=2 by decide,if_false];omega⟩
 .exact⟨.inr (.inr ⟨h1,i,j,x,by intro e;rw[e] at y;simp at y,E⟩),by simp only[Co,h1,if_true];exact B⟩
theorem OK{x:List Dop}(h:Dq ks x=0):∀o∈x,Dh ks o/\Co o<=536870912:=by
 unfold Dq at h;split at h
 .cases h
 .split at h
  .cases h
  .rename_i h1 y;intro o j;refine FG.FK (Classical.byContradiction fun i=>h1 (.inl ⟨o,j,.inl i⟩)) (GL.1 (Classical.byContradiction fun i=>y ⟨o,j,.inl i⟩)) (IS.1 (Classical.byContradiction fun i=>y ⟨o,j,.inr i⟩))
theorem LC{f:Dop->Int}(x:List Dop)(h:∀o∈x,0<=f o/\f o<=Co o)(hb:total x<=1099511627776):0<=Cg f x/\Cg f x<=total x:=by
 induction x using Mm with
 |h0=>exact⟨by simp[Cg],by simp[Cg]⟩
 |h1 x o i=>
  rw[DU,Dy] at hb ⊢;have y:=i (fun o j=>h o (by simp[j])) (by omega);have B:=h o (by simp);have e:Cg f (x++[o])=IntKind.i64.wrap (Cg f x+f o):=by simp[Cg]
  rw[e,K7 (by omega) (by omega)];omega
theorem Kn{x:List Dop}(h:∀o∈x,Dh ks o)(hb:total x<=536870912):Dq ks x=0:=by
 have y:∀o∈x,FG o/\Js ks o.set/\Og ks o.patch:=fun o j=>Dh.form (h o j) (by have:=L3 j;omega);have i:∀o∈x,0<=o.n:=fun o j=>by
  rcases h o j with⟨_,_,_,B,_⟩|⟨_,_,_,_,B⟩|⟨_,_,B,_⟩<;>omega
 have ht:=LC (f:=CA) x (fun o j=>by
  have:=i o j;unfold CA Co;split <;> omega) (by omega)
 have hm:=LC (f:=CM) x (fun o j=>by
  have:=i o j;unfold CM Co Lg;split
  .split<;>omega
  .split <;> omega) (by omega)
 unfold Dq;rw[if_neg,if_neg]
 .rintro⟨o,j,i|i⟩
  .exact i (GL.2 (y o j).2.1)
  .exact i (IS.2 (y o j).2.2)
 .rintro(⟨o,j,i|i|i⟩|i|i)
  .exact i (y o j).1
  .rw[GL.2 (y o j).2.1] at i;cases i
  .rw[IS.2 (y o j).2.2] at i;cases i
  .omega
  .omega
end
end Go.Proofs.YtmdhibffnkhcnaaGreatDoor
namespace Go.K
open Go
theorem cg{α:Type}{P:Program}{t e k bytes:Nat}{R:World->List Value->α->Prop}{S:Nat->Prop}{w0 w:World}{v x:Value}{l m:List α}{K:Cont}(E:DC P t e k bytes)(h:AF w0.heap.size e k R w v l)(B:Grow w0 w)(I:BJ S k R w x m)
 (i:∀r y,R w r y->∀u∈r,u.oneCell'=true)(J:∀O w2 r y,R O r y->R w2 r y)(j:(l.length+m.length)*bytes<=140737488355328)(o:l.length+m.length<=maxLen)
 (Q:∀v' w',AF w0.heap.size e k R w' v' (l++m)->Grow w0 w'->K v' w'):runK P (Builtin.append_ #[t,t] t [v,x].toArray) K w:=by
 obtain⟨v',w',h1,T,U,_⟩:=AF.append (ty:=t) E h I i j B.size o fun w' _ r y V=>J _ _ _ _ V;exact Ai h1 (Q v' w' T (B.next (Mod.of_grownBy U) fun b hb e=>by have:=(AF.BL h b e).1;omega))
def GA(O9:Value)(w4 W:World)(ov:Value):Prop:=Mod (fun b=>O9.ownBlock=some b) w4 W/\∀b,ov.ownBlock=some b->O9.ownBlock=some b\/w4.heap.size<=b
section
variable {O9 ov v':Value}{w w4 W W':World}
theorem GA.start:GA ov w4 w4 ov:=⟨Mod.refl _ _,fun _ h=>.inl h⟩
theorem GA.grow(h:GA O9 w4 W ov)(g:Grow W W'):GA O9 w4 W' ov:=⟨h.1.next g fun _ _ e=>e.elim,h.2⟩
theorem GA.push(h:GA O9 w4 W ov)(m:Mod (fun b=>ov.ownBlock=some b) W W')(i:∀g,v'.ownBlock=some g->ov.ownBlock=some g\/W.heap.size<=g):GA O9 w4 W' v':=
 ⟨h.1.next m fun b hb e=>by rcases h.2 b e with e | e;exact e;omega,fun b hb=>by
  rcases i b hb with e|e
  .exact h.2 b e
  .exact .inr (Nat.le_trans h.1.size e)⟩
theorem GA.g(h:GA O9 w4 W ov)(g:Grow w w4)(i:∀b,O9.ownBlock=some b->w.heap.size<=b):Grow w W:=g.next h.1 fun b hb e=>by have:=i b e;omega
end
end Go.K
namespace Go.Proofs.YtmdhibffnkhcnaaGreatDoor
open Go Go.K Proofs.Tryz
theorem drop_cons{α:Type}{l:List α}{i:Nat}(h:i<l.length):l.drop i=l[i]::l.drop (i+1):=List.drop_eq_getElem_cons h
set_option maxRecDepth 20000 in
theorem Q4{S S':Nat->Prop}{sv pv:Value}{s:List Attr}{p:List Chg}{w:World}(hs:Cu S w sv s)(hp:Hh S' w pv p)(hb:s.length+p.length<=1099511627776) :
  AB prog 156 [sv,pv] (fun v' w'=>IJ w.heap.size w' v' (Bn s p)/\Grow w w') w:=by
 apply V6;obtain⟨sa,sc,rfl,_⟩:=hs.shape;obtain⟨pa,pc,rfl,_⟩:=hp.shape;rw[AS];refine Ae (fun vs W=>∃(k i:Nat) (ov:Value) (out:List Attr),k<=p.length/\i<=s.length/\vs=[ov,.int .i64 i,.int .i64 k]/\IJ w.heap.size W ov out/\Grow w W/\out.length+(s.length-i)+(p.length-k)<=s.length+p.length/\out++Bn (s.drop i) (p.drop k)=Bn s p) (fun vs _=>p.length-ED vs 2) ⟨0,0,_,[],by omega,by omega,rfl,AF.nil,Mod.refl _ _,by simp,rfl⟩ ?_;rintro vs W ⟨k,i,O9,out,hk,J,rfl,E,g,o,he⟩ _;simp only[Fx];refine HU (fun Y=>?_) fun av=>?_
 .have I:k<p.length:=by omega
  rw[drop_cons I] at he;simp only[Bn] at he;refine AW (fun vs W=>∃(i:Nat) (ov:Value) (out:List Attr),i<=s.length/\vs=[ov,.int .i64 i]/\IJ w.heap.size W ov out/\Grow w W/\out.length+(s.length-i)+(p.length-(k+1))<=s.length+p.length/\out++Bn (s.drop i) (p.drop (k+1))=Bn s p) ?_ ?_
  .rintro vs W ⟨i,ov,out,J,rfl,E,V,o,he⟩ _;simp only[Fx];rw[AR,AQ (by omega)];refine⟨⟨k+1,i,ov,out,I,J,rfl,E,V,o,he⟩,?_⟩;show p.length-((k+1:Nat):Int).toNat<p.length-(k:Int).toNat;omega
  obtain⟨a,r,rfl,_,hr,hc,rfl⟩:=(hp.grow g (by decide) fun _ _ h=>h).get I;refine AZ I (Ah hr (fun j u hu=>by rw[Addr.add_add];exact hc j u hu) ?_);refine BO (vs:=p[k].cells) rfl rfl (Hj.one (w:=W) (x:=p[k]) rfl) fun Z w4 bd bk g4 a7 _=>?_;have a8:=g.trans g4;have hB:∀b,O9.ownBlock=some b->w.heap.size<=b:=fun b e=>(AF.BL E b e).1;have h8:O9.ownBlock≠some Z:=fun e=>by have:=(AF.BL E Z e).2;omega
  have ak:IJ w.heap.size w4 O9 out:=AF.mod E g4 (fun _ _ h=>h) fun _ _ _ h=>h;have put:∀(i:Nat) (ov:Value) (out:List Attr) (X:World),IJ w.heap.size X ov out->GA O9 w4 X ov->i<=s.length->out.length+(s.length-i)+(p.length-k)<=s.length+p.length->out++Mr p[k]++Bn (s.drop i) (p.drop (k+1))=Bn s p->
    (AM 1 (.pointer (some ⟨Z,0,none⟩)) fun ax=>AK ax (fun ay w8=>Bt ay fun t50=>AD t50
     (AM 0 (.pointer (some ⟨Z,0,none⟩)) fun b0=>AK b0 (fun t53 w9=>AM 2 (.pointer (some ⟨Z,0,none⟩)) fun b1=>Ac 4 b1 (fun t55 b2=>
      Af [(0,1),(1,4)] [(.int .i64 0),(.int .u8 0),(.int .i64 0),(.int .u64 0),(.string (ByteArray.mk #[]))] [(0,t53),(1,t55)] fun b3=>
      Bh 79 5 1 [(.int .i64 0),(.int .u8 0),(.int .i64 0),(.int .u64 0),(.string (ByteArray.mk #[]))] [(0,b3)] (fun b4 b5=>
      runK prog (Builtin.append_ #[43,43] 43 [ov,b4].toArray) (fun b6 al=>
       ∃ (O:Nat) (Q:Value) (y:List Attr),O<=s.length/\[b6,.int .i64 (i:Int)]=[Q,.int .i64 (O:Int)]/\IJ w.heap.size al Q y/\Grow w al/\y.length+(s.length - O)+(p.length - (k+1))<=s.length+p.length/\y++Bn (s.drop O) (p.drop (k+1))=Bn s p) b5) b2) w9) w8)
     (∃ (O:Nat) (Q:Value) (y:List Attr),O<=s.length/\[ov,.int .i64 (i:Int)]=[Q,.int .i64 (O:Int)]/\IJ w.heap.size w8 Q y/\Grow w w8/\y.length+(s.length - O)+(p.length - (k+1))<=s.length+p.length/\y++Bn (s.drop O) (p.drop (k+1))=Bn s p)) X):=by
   intro i ov out X E V J o he;have c8:∀j u,p[k].cells[j]?=some u->X.cell? ((⟨Z,0,none⟩:Addr).add j)=some u:=fun j u hu=>V.1.cell (a7 j u hu) (by rw[BW];exact h8);rw[AG];refine AL (c8 1 _ rfl) ?_;rw[Aq];have T:=V.g a8 hB;cases hg:p[k].gone with
   |true=>
    refine AT ?_;rw[Mr,hg,if_pos rfl,List.append_nil] at he;exact⟨i,ov,out,J,rfl,E,T,by omega,he⟩
   |false=>
    refine Ao ?_;rw[Mr,hg,if_neg (by decide)] at he;rw[AG];refine AL (c8 0 _ rfl) ?_;rw[AG];refine Ah (vs:=p[k].val.cells) rfl (fun j u hu=>by rw[Addr.add_add];exact c8 (2+j) u (by rw[Nat.add_comm];exact hu)) ?_;refine⟨(⟨p[k].key,p[k].val⟩:Attr).cells.toArray,by kernel_rfl,?_⟩;refine PX (w0:=w) HW E T (cs:=(⟨p[k].key,p[k].val⟩:Attr).cells) (x:=⟨p[k].key,p[k].val⟩) (by kernel_rfl) rfl rfl (fun _ _ _=>Cv.one) (fun _ _ _ _ _ _ h=>h) (by omega) (by simp only[maxLen];omega) fun v' w' o' g'=>?_;exact⟨i,v',_,J,rfl,o',g',by simp only[List.length_append,List.length_cons,List.length_nil];omega,he⟩
  refine Ae (fun vs W=>∃(i:Nat) (ov:Value) (out:List Attr),i<=s.length/\vs=[ov,.int .i64 i]/\IJ w.heap.size W ov out/\GA O9 w4 W ov/\out.length+(s.length-i)+(p.length-k)<=s.length+p.length/\out++(LZ p[k] (s.drop i)++Mr p[k]++Bn (FZ p[k] (s.drop i)) (p.drop (k+1)))=Bn s p) (fun vs _=>s.length-ED vs 1) ⟨i,O9,out,J,rfl,ak,GA.start,o,he⟩ ?_;clear E ak o he J;rintro vs X ⟨i,ov,out,J,rfl,E,V,o,he⟩ _;have T:=V.g a8 hB;have c8:X.cell? ((⟨Z,0,none⟩:Addr).add 0)=some (.int .i64 p[k].key):=V.1.cell (a7 0 _ rfl) (by rw[BW];exact h8);simp only[Fx];rw[AS,Ax];refine AE (fun hl=>?_) fun av=>?_
  .have B:i<s.length:=by omega
   rw[drop_cons B] at he;simp only[LZ,FZ] at he;refine AW (fun vs W=>∃(i:Nat),i<=s.length/\vs=[ov,.int .i64 i]/\Grow X W/\out.length+(s.length-i)+(p.length-k)<=s.length+p.length/\out++Mr p[k]++Bn (s.drop i) (p.drop (k+1))=Bn s p) ?_ ?_
   .rintro vs W2 ⟨O,b7,rfl,U,a1,b9⟩ _;simp only[Fx];exact put O ov out W2 (AF.mod E U (fun _ _ h=>h) fun _ _ _ h=>h) (V.grow U) b7 a1 b9
   obtain⟨a,r,e,_,hr,hc,hx⟩:=(hs.grow T (by decide) fun _ _ h=>h).get B;subst hx;cases e;refine CZ (fun W=>Grow X W) (Mod.drew _ _) ?_;refine AZ B ?_;rw[AG,Addr.add_add];refine Ar (fun W hW=>hW.cell (hc 0 _ rfl) fun h=>h) ?_;rw[AG];refine Ar (fun W hW=>hW.cell c8 fun h=>h) ?_;rw[Ax];intro W2 U;have ba:IJ w.heap.size W2 ov out:=AF.mod E U (fun _ _ h=>h) fun _ _ _ h=>h;refine AE (fun Y=>?_) fun an=>?_
   .rw[if_pos Y,if_pos Y] at he;refine AZ B (Ah hr (fun j u hu=>by rw[Addr.add_add];exact U.cell (hc j u hu) fun h=>h) ?_);refine DO HW ba (T.trans U).size (cs:=s[i].cells) (x:=s[i]) (by kernel_rfl) rfl rfl (fun _ _ _=>Cv.one) (fun _ _ _ _ _ _ h=>h) (by omega) (by simp only[maxLen];omega) fun v' w' o' m' a6=>?_;rw[AR,AQ (by omega)];refine⟨⟨i+1,v',out++[s[i]],B,rfl,o',(V.grow U).push m' a6,by simp only[List.length_append,List.length_cons,List.length_nil];omega,by rw[<-he];simp⟩,by rw[BH,BH];omega⟩
   .rw[if_neg an,if_neg an] at he;refine CZ (fun W=>Grow W2 W) (Mod.drew _ _) ?_;refine AZ B ?_;rw[AG,Addr.add_add];refine Ar (fun W hW=>hW.cell (U.cell (hc 0 _ rfl) fun h=>h) fun h=>h) ?_;rw[AG];refine Ar (fun W hW=>hW.cell (U.cell c8 fun h=>h) fun h=>h) ?_;rw[Am];intro W3 g7;refine AE (fun heq=>?_) fun bc=>?_
    .rw[if_pos heq] at he;rw[AR,AQ (by omega)];exact⟨i+1,B,rfl,U.trans g7,by omega,by rw[<-he];simp⟩
    .rw[if_neg bc] at he;exact⟨i,J,rfl,U.trans g7,o,by rw[drop_cons B,<-he];simp⟩
  .have e:s.drop i=[]:=List.drop_eq_nil_of_le (by omega);rw[e] at he;simp only[LZ,FZ,List.nil_append] at he;exact put i ov out X E V J o (by rw[e,<-he];simp)
 .obtain rfl:k=p.length:=by omega
  rw[List.drop_length] at he;simp only[Bn] at he;refine IQ (e:=79) (k:=5) (i:=Tryz.t79) (by kernel_rfl) (by kernel_rfl) (by kernel_rfl) (hs.grow g (by decide) fun _ _ h=>h) J fun v' a6=>?_;refine cg (w0:=w) HW E g a6 (fun _ _=>Cv.one (w:=W)) (fun _ _ _ _ h=>h) (by rw[List.length_drop];omega) (by simp only[maxLen,List.length_drop];omega) fun bl w' o' g'=>?_;rw[he] at o';exact⟨o',g'⟩
section
variable {F C:Nat->Prop}{W:World}{b bt N:Nat}{L:List (List Attr)}
theorem VL{S:Nat->Prop}{k m:Nat}{Z:Value}{p:List Chg}(h:DF A6.toAvT F C W b bt L N)(hN:N<=100000000000)(E:k<=m)(hm:m<=L.length)(hl:L.length<=536870912)(hs:∀x∈L,x.length*48<=140737488355328)(hp:Hh S W Z p)(hb:∀x∈L,x.length+p.length<=1099511627776) :
  AB prog 85 [.pointer (some ⟨b,0,none⟩),.int .i64 (k:Int),.int .i64 (m:Int),Z] (fun v' w'=>v'=.int .i64 0/\∃F' B,(∀x,F x->F' x)/\(∀x,C x->B x)/\(∀x,F' x->F x\/W.heap.size<=x)/\(∀x,B x->C x\/W.heap.size<=x)/\DF A6.toAvT F' B w' b bt (L.take k++((L.take m).drop k).map (fun x=>Bn x p)++L.drop m) (N+L.length+4)/\Mod F W w') W:=by
 apply Zc;refine AA (Qf h (by omega) E hm hl hs) ?_;rintro _ J ⟨O,W0,rfl,gA,gB,o⟩;refine BM ?_;refine LQ ?_;have zA:=gA.size;have zB:=gB.size;have hF:=h.lt;have I:=gA.trans gB;generalize hX:(L.take m).drop k=X at *;have b1:X.length<=L.length:=by rw[<-hX,List.length_drop,List.length_take];omega
 have a6:∀x∈X,x∈L:=fun x i=>by rw[<-hX] at i;exact List.mem_of_mem_take (List.mem_of_mem_drop i)
 have a7:=hp.HH (by decide);have fin:∀(w2:World) (D2:Nat->Prop),(∀x,D2 x->W0.heap.size<=x/\O.ownBlock≠some x)->AF W0.heap.size 43 1 (CY D2) w2 O (X.map fun x=>Bn x p)->Mod (fun x=>O.ownBlock=some x) J w2->
   AB prog 104 [.pointer (some ⟨b,0,none⟩)] (fun a8 w6=>AB prog 147 [a8,.int .i64 (k:Int),.int .i64 (m:Int),O] (fun _ w'=>(Value.int .i64 0:Value)=.int .i64 0/\∃F' B,(∀x,F x->F' x)/\(∀x,C x->B x)/\(∀x,F' x->F x\/W.heap.size<=x)/\(∀x,B x->C x\/W.heap.size<=x)/\DF A6.toAvT F' B w' b bt (L.take k++X.map (fun x=>Bn x p)++L.drop m) (N+L.length+4)/\Mod F W w') w6) w2:=by
  intro w2 D2 Q o2 m2;have z2:=m2.size;have U:=AF.BL o;have b0:=AF.BL o2
  let B:Nat->Prop:=fun x=>C x\/(D2 x/\x<w2.heap.size)
  have h2:DF A6.toAvT F C w2 b bt L N:=(h.grow I).mod m2 fun x i e=>by
   have:=hF x i;have:=(U x e).1;omega
  have h4:DF A6.toAvT F B w2 b bt L N:=h2.sub (fun x i=>.inl i) (fun x i e=>by
    rcases e with e|e
    .exact h.Ho x i e
    .have:=hF x (.inl i);have:=(Q x e.1).1;omega) fun x e=>by
    rcases e with e|e
    .have:=hF x (.inr e);omega
    .exact e.2
  have o4:AF W0.heap.size 43 1 (CY B) w2 O (X.map fun x=>Bn x p):=AF.mod o2 (Mod.refl (fun _=>False) _) (fun _ _ h=>h) fun r y _ hy=>A6.rsub hy fun x i hd=>.inr ⟨hd,i⟩;have er:=IY L (X.map fun x=>Bn x p) E;have V:(X.map fun x=>Bn x p).length=X.length:=List.length_map _;have ak:(Fa.Bm L k m (X.map fun x=>Bn x p)).length<=1099511627776:=by rw[er];simp only[List.length_append,List.length_take,List.length_drop,V];omega
  refine AA (Dn El h4) ?_;rintro _ w3 ⟨rfl,e3⟩;subst e3;refine AA (Hr (Qc (g:=A6)) (L:=X.map fun x=>Bn x p) h4 (by omega) o4.sl (fun x i al=>by have:=hF x (.inl al);have:=i.1;omega) E (by omega) (JN (by omega)) (JN (l:=Fa.Bm L k m (X.map fun x=>Bn x p)) ak) (JN (l:=(Fa.split L k).1.getLast?.toList++(X.map fun x=>Bn x p)++(Fa.split (Fa.split L k).2 (m - k)).2.head?.toList) (by
   have q1:=toList_le (Fa.split L k).1.getLast?;have q2:=toList_le (Fa.split (Fa.split L k).2 (m - k)).2.head?;simp only [List.length_append,V];omega))) ?_
  rintro _ w5 ⟨F',k1,k2,k3,k4⟩;have an:A6.toAvT.k.Bm L k m (X.map fun x=>Bn x p)=L.take k++X.map (fun x=>Bn x p)++L.drop m:=er;rw[an] at k3;obtain⟨A,T,t1,t2,t3,t4,t5⟩:=k3.Dg;refine⟨rfl,F',B,k1,fun x i=>.inl i,fun x i=>(k2 x i).imp (fun h=>h) fun h=>by omega,fun x i=>i.imp (fun h=>h) fun h=>by have:=(Q x h.1).1;omega,⟨k3.box,⟨A,T,t1,t2,t3,t4,by omega⟩,k3.fb⟩,((I.next m2 fun x i e=>by have:=(U x e).1;omega).mono fun _ _ h=>h.elim).trans k4⟩
 obtain⟨a1,c1,rfl,b2,b3,hq,hn⟩:=AF.shape o;rw[AS];cases a1 with
 |none=>
  have:=hn rfl;subst this;refine Ae (fun vs w2=>vs=[.int .i64 0]/\w2=J) (fun _ _=>0) ⟨rfl,rfl⟩ ?_;rintro vs _ ⟨rfl,rfl⟩ _;rename World=>J
  rw[CN,List.headD_cons,Ax];exact AE (fun h=>by simp at h) fun _=>fin J (fun _=>False) (fun _ h=>h.elim) (AF.mod (R':=CY fun _=>False) o (Mod.refl (fun _=>False) _) (fun _ _ h=>h) fun r y hy _=>by simp at hy) (Mod.refl _ _)
 |some p1=>
  obtain⟨g,rfl,av,b4,_⟩:=hq _ rfl;refine Qm (W0:=W0) (call:=fun sv K W'=>AB prog 156 [sv,Z] K W') (M:=X.map fun x=>Bn x p) (List.length_map _) (by omega) av gB o (fun x i e=>i.2 (by rw[e];rfl)) (fun j q1 q2 sv W' K Y ax hK=>?_) fun w' oM mm=>?_
  .have b5:=Y.size;have ay:Hh (fun x=>S x/\x<W.heap.size) W' Z p:=BJ.mono (BJ.mono (R':=Hj) (w':=J) a7 (fun _ _ h=>h) (fun x i _=>I.same x i fun h=>h) (by decide) fun _ _ h=>h) (fun _ _ h=>h) (fun x i hS=>Y.same x i fun e=>by have:=hS.2;omega) (by decide) fun _ _ h=>h;refine AA (Q4 ax ay (hb _ (a6 _ (List.getElem_mem q1)))) ?_;rintro v' w' ⟨k1,k2⟩;exact hK v' w' (by rw[List.getElem_map];exact k1) k2
  .refine fin w' _ (fun x i=>⟨i.1,fun e=>?_⟩) oM (mm.mono fun x _ e=>by subst e;rfl);simp only[Value.ownBlock,Option.some.injEq] at e;exact i.2 e.symm
end
theorem aT{W:World}:AB prog 36 [] (fun v' w'=>∃b,v'=.pointer (some ⟨b,0,none⟩)/\W.heap.size<=b/\Bx w' b [.pointer none]/\Grow W w') W:=by
 apply Z0;refine⟨[Value.pointer none].toArray,by kernel_rfl,?_⟩;exact Bx.box fun b j hb i B=>⟨b,rfl,hb,B,i⟩
theorem ZC{W:World}:AB prog 37 [] (fun v' w'=>∃b,v'=.pointer (some ⟨b,0,none⟩)/\W.heap.size<=b/\Bx w' b [.pointer none]/\Grow W w') W:=by
 apply Yy;refine⟨[Value.pointer none].toArray,by kernel_rfl,?_⟩;exact Bx.box fun b j hb i B=>⟨b,rfl,hb,B,i⟩
theorem Zi{W:World}:AB prog 38 [] (fun v' w'=>∃b,v'=.pointer (some ⟨b,0,none⟩)/\W.heap.size<=b/\Bx w' b [.pointer none]/\Grow W w') W:=by
 apply ZA;refine⟨[Value.pointer none].toArray,by kernel_rfl,?_⟩;exact Bx.box fun b j hb i B=>⟨b,rfl,hb,B,i⟩
theorem Rf:∀(l:List Spn) (j:Nat),(∀s∈l,0<s.n)->EB l<=j->Spn.kd.over l 0 j=l:=by
 intro l;induction l with
 |nil=>intro j _ _;rfl
 |cons s l B=>
  intro j o E;have h0:0<s.n:=o s (by simp);have i:EB (s::l)=s.n+EB l:=Tr.BS Spn.kd.μ s l;rw[i] at E;have y:(Spn.kd.μ s).1=s.n:=rfl;rw[Kd.over,y,Nat.zero_sub,B (j-s.n) (fun x I=>o x (by simp[I])) (by omega),if_pos (by omega)];have J:∀q,s.n<=q->Spn.kd.part s 0 q=s:=fun q O=>by
   unfold Kd.part;rw[if_neg (by omega),y,if_neg (by omega)]
  rw[J _ (by omega)];rfl
theorem SF{B c:Nat}{W:World}{O:Value}{l:List Spn}(hv:Bx W c [O])(Q:AF B 108 2 DT W O l)(hl:l.length<=1099511627776) :
  Jw True prog 112 [.pointer (some ⟨c,0,none⟩)] (fun k=>[.agg ((l[k]?.getD ⟨0,0⟩).cells.toArray)]) l.length (fun b=>b=c\/O.ownBlock=some b) W:=by
 intro yl J Jx w1 hg h0 S a6 Ix o;apply V1;refine AL ((hv.grow hg).cells 0 _ rfl) ?_;obtain⟨a,n,e,_⟩:=Q.shape;have y:=Q.sl;have T:=AF.BL Q;rw[e,AS];rw[e] at y;refine Ae (fun vs U=>∃k:Nat,k<=l.length/\vs=[.int .i64 k]/\J k (fun _=>False) U) (fun vs _=>l.length-ED vs 0) ⟨0,Nat.zero_le _,rfl,h0⟩ ?_;rintro vs U ⟨k,hk,rfl,hJ⟩ _;rw[CN,List.headD_cons,Ax];refine AE (fun a7=>?_) fun a8=>?_;rotate_left
 .obtain rfl:k=l.length:=by omega
  exact⟨_,.inl hJ⟩
 have i:k<l.length:=by omega
 obtain⟨q,r,rfl,hq,hr,V,X⟩:=y.get i;have E:r=l[k].cells:=X;subst E;have I:O.ownBlock=some q.block:=by rw[e];exact hq.2
 refine AZ i (Ah (vs:=l[k].cells) rfl (fun j u hu=>?_) ?_)
 .rw[Addr.add_add,<-V j u hu];exact World.cell?_of_block (by rw[BW];exact Ix k _ U hJ q.block (T _ I).2 (.inr I))
 refine Bx.new (vs:=l[k].cells) rfl rfl (Spn.one _) fun b4 W4 ak g4 B4=>?_;refine B4.Er rfl ?_;have Y:J k (fun _=>False) W4:=S k _ _ _ _ hJ (g4.mono fun _ _ h=>h.elim) fun b hb=>hb.elim;refine .inr ⟨yl,rfl,?_⟩;have x:=o k _ W4 i Y;dsimp only at x;rw[List.getElem?_eq_getElem i] at x;refine Ff x ?_;rintro vv W3 ⟨al,Z,_,⟨rfl,a1⟩|⟨rfl,QD⟩⟩
 .rw[Aq];refine AT ?_;rw[AR,AQ (by omega)];exact⟨⟨k+1,i,rfl,a1⟩,by rw[DW,DW];omega⟩
 .rw[Aq];exact Ao ⟨_,.inr QD⟩
theorem aD{F:Nat->Prop}{W:World}{b bt N:Nat}{l:List Spn}(h:DF Cl.toAvT F FN W b bt l N)(hN:N<=109951162000)(hs:EB l<=1099511627776)(hl:l.length<=109951162777)(hp:∀s∈l,0<s.n) :
  AB prog 55 [.pointer (some ⟨b,0,none⟩)] (fun v' w'=>∃c S,v'=.func (.func 112) #[] #[.pointer (some ⟨c,0,none⟩)]/\Grow W w'/\(∀x,S x->W.heap.size<=x)/\Jw True prog 112 [.pointer (some ⟨c,0,none⟩)] (fun k=>[.agg ((l[k]?.getD ⟨0,0⟩).cells.toArray)]) l.length S w') W:=by
 apply ZF;refine AA (LA G4 h) ?_;rintro _ T ⟨rfl,E⟩;have h1:=h.grow E;refine AA (Iy (i:=0) (j:=EB l) h1 hN (Nat.zero_le _) (Nat.le_refl _) hs hl) ?_;rintro _ w2 ⟨U,rfl,I,V⟩;rw[Rf l _ hp (Nat.le_refl _)] at I;refine BM ?_;refine Bx.zero fun c w3 hc J B=>?_;have X:=B.lt (by decide);have Y:AF T.heap.size 108 2 DT w3 U l:=AF.mod (R':=DT) I J (fun _ _ h=>h) fun _ _ _ h=>h;obtain⟨O,Q⟩:=Y.one;have z1:=E.size;have z2:=V.size;have z3:=J.size;have y:=AF.BL I;refine B.st (q:=0) (show 0<1 by decide) O Q fun w4 B4 Z=>?_;have o4:AF T.heap.size 108 2 DT w4 U l:=AF.mod (R':=DT) Y Z (fun x o e=>by have:=(y x o).2;omega) fun _ _ _ h=>h;refine⟨c,_,rfl,((E.trans V).trans J).next Z fun x o e=>by omega,fun x o=>?_,SF B4 o4 (by omega)⟩;rcases o with rfl|o
 .omega
 .have:=(y x o).1;omega
theorem O1{W:World}{b:Nat}(i:Bx W b [.pointer none]) :
  AB prog 53 [.pointer (some ⟨b,0,none⟩),.int .i64 0] (fun v' w'=>v'=.tuple #[.int .i64 0,.int .i64 0]/\∃bt F,DF As.toAvT F FN w' b bt [] 0/\(∀x,F x->x=b\/W.heap.size<=x)/\Mod (fun x=>x=b) W w') W:=by
 apply TA;have j:=i.lt (Nat.succ_pos _);refine AA (K:=fun v' w'=>v'=.int .i64 0/\∃bt F,DF As.toAvT F FN w' b bt [] 0/\(∀x,F x->x=b\/W.heap.size<=x)/\Mod (fun x=>x=b) W w') ?_ ?_
 .apply EI.dR;unfold V7;refine Cs (AT ?_);rw[Ax];refine AE (fun e=>by omega) fun _=>?_;rw[BK];refine AE (fun e=>by omega) fun _=>?_;refine AA (TL (g:=As.toAvT) (C:=FN) EI i (fun h=>h) fun _ h=>h.elim) ?_;rintro _ o ⟨rfl,h⟩;rw[BK];exact AE (fun e=>by omega) fun _=>⟨rfl,h⟩
 rintro _ o ⟨rfl,bt,F,h,B,E⟩;refine LQ ?_;refine AA (Dn EI h) ?_;rintro _ _ ⟨rfl,rfl⟩;rename World=>o
 obtain⟨A,T,I,J,t3,t4,t5⟩:=h.Dg;refine AA (O0 (p:=0) I J (Nat.zero_le _) (Le (by rw[t4];exact Nat.zero_le _))) ?_;rintro _ w2 ⟨rfl,y⟩;refine⟨by rw[List.take_zero];rfl,bt,F,h.grow y,B,E.next y fun _ _ h=>h.elim⟩
theorem Ob{S D:Nat->Prop}{W:World}{b:Nat}{R:List (List Attr)}{v:Value}(hB:Bx W b [.pointer none])(hl:R.length<=536870912)(hv:BJ S 1 (CY D) W v R)(O:∀x,S x\/D x->x≠b)(hs:∀x∈R,x.length*48<=140737488355328) :
  AB prog 76 [.pointer (some ⟨b,0,none⟩),.int .i64 0,v] (fun v' w'=>v'=.int .i64 0/\∃bt F' I,(∀x,F' x->x=b\/W.heap.size<=x)/\(∀x,I x->W.heap.size<=x)/\DF A6.toAvT F' I w' b bt R (R.length+4)/\Mod (fun x=>x=b) W w') W:=by
 apply Sk;have a7:=hB.lt (Nat.succ_pos _);refine AA (K:=fun v' w'=>v'=.int .i64 0/\∃bt F,DF A6.toAvT F FN w' b bt [] 0/\(∀x,F x->x=b\/W.heap.size<=x)/\Mod (fun x=>x=b) W w') ?_ ?_
 .apply El.dR;unfold V7;refine Cs (AT ?_);rw[Ax];refine AE (fun e=>by omega) fun _=>?_;rw[BK];refine AE (fun e=>by omega) fun _=>?_;refine AA (TL (g:=A6.toAvT) (C:=FN) El hB (fun h=>h) fun _ h=>h.elim) ?_;rintro _ w1 ⟨rfl,h⟩;rw[BK];exact AE (fun e=>by omega) fun _=>⟨rfl,h⟩
 rintro _ w1 ⟨rfl,bt,F,h1,hF,m1⟩;refine LQ ?_;obtain⟨a,c,rfl,_⟩:=hv.shape;have Q:∀M:List (List Attr),Tr.sz A6.toAvT.k.μ M=M.length:=KT;rw[AS];refine AA (LA El h1) ?_;rintro _ w2 ⟨rfl,T⟩;rw[Q,Av,wrap64 (by simp) (by simp),BK];refine AE (fun e=>by simp only[List.length_nil] at e;omega) fun _=>?_;have U:=h1.grow T;refine AA (Dn El U) ?_;rintro _ w3 ⟨rfl,e3⟩;subst e3;rename World=>w2
 have z1:=m1.size;have z2:=T.size;have B:Mod (fun x=>x=b) W w2:=m1.next T fun _ _ h=>h.elim;have V:BJ (fun x=>(S x/\x<W.heap.size)/\x≠b) 1 (CY fun x=>(D x/\x<W.heap.size)/\x≠b) w2 (.slice a R.length c) R:=BJ.mono (hv.HH (by decide)) (fun x _ h=>⟨h,O x (.inl h.1)⟩) (fun x o h=>B.same x o fun e=>O x (.inl h.1) e) (by decide) fun r x o=>A6.BR (A6.rsub o fun y X E=>⟨⟨E,X⟩,O y (.inr E)⟩) B fun y _ E e=>E.2 e;refine AA (JF V (by omega) hs) ?_;rintro v4 w4 ⟨o4,Y⟩;have z4:=Y.size;have J:=U.lt
 let I:Nat->Prop:=fun x=>w2.heap.size<=x/\x<w4.heap.size/\v4.ownBlock≠some x
 have h4:DF A6.toAvT F I w4 b bt [] 0:=(U.grow Y).sub (fun x o=>o.elim) (fun x o e=>by have:=J x (.inl o);have:=e.1;omega) fun x e=>e.2.1;have Z:AF w2.heap.size 43 1 (CY I) w4 v4 R:=AF.mod o4 (Mod.refl (fun _=>False) _) (fun _ _ h=>h) fun r y _ X=>A6.rsub X fun x o E=>⟨E.1,o,E.2⟩;have er:=IY [] R (Nat.le_refl 0);simp only [List.take_nil,List.drop_nil,List.nil_append,List.append_nil] at er;refine AA (Hr (Qc (g:=A6)) (i:=0) (j:=0) (L:=R) h4 (by omega) Z.sl (fun x o a1=>by have:=J x (.inl a1);have:=o.1;omega) (Nat.le_refl 0) (by omega) (JN (l:=[]) (by simp)) (JN (l:=Fa.Bm [] 0 0 R) (by rw [er];omega)) (JN (l:=(Fa.split [] 0).1.getLast?.toList++R++(Fa.split (Fa.split [] 0).2 (0 - 0)).2.head?.toList) (by
  have q1:=toList_le (Fa.split [] 0).1.getLast?;have q2:=toList_le (Fa.split (Fa.split [] 0).2 (0 - 0)).2.head?;simp only [List.length_append];omega))) ?_
 rintro _ w5 ⟨F',k1,k2,k3,k4⟩;have a6:A6.toAvT.k.Bm [] 0 0 R=R:=er;rw[a6,Nat.zero_add] at k3;refine⟨rfl,bt,F',I,fun x o=>?_,fun x o=>by have:=o.1;omega,k3,(B.next Y fun _ _ h=>h.elim).next k4 fun x o e=>?_⟩
 .rcases k2 x o with e|e
  .exact(hF x e)
  .exact .inr (by omega)
 .rcases hF x e with e|e
  .exact e
  .omega
end Go.Proofs.YtmdhibffnkhcnaaGreatDoor
namespace Go.K
open Go
theorem Gc(g o x:Nat):(⟨g,o,none⟩:Addr).add x=⟨g,o+x,none⟩:=by unfold Addr.add;split<;>simp_all
theorem Q3{g off:Nat}:∀(vs:List Value) (q:Nat) (W:World),(∀j,q<=j->j<q+vs.length->Live W ⟨g,off+j,none⟩)->
  Mod (fun x=>x=g) W (Du W ⟨g,off,none⟩ q vs)/\(∀j u,vs[j]?=some u->(Du W ⟨g,off,none⟩ q vs).cell? ⟨g,off+q+j,none⟩=some u)/\(∀j,(j<off+q\/off+q+vs.length<=j)->(Du W ⟨g,off,none⟩ q vs).cell? ⟨g,j,none⟩=W.cell? ⟨g,j,none⟩)/\(∀a,Live W a->Live (Du W ⟨g,off,none⟩ q vs) a):=by
 intro vs;induction vs with
 |nil=>intro q W _;exact⟨Mod.refl _ _,fun j u hu=>by simp at hu,fun _ _=>rfl,fun _ h=>h⟩
 |cons x vs B=>
  intro q W hl;simp only[Du];rw[Gc];have i:=hl q (Nat.le_refl _) (by simp);obtain⟨E,I,y,J⟩:=B (q+1) (W.setCell ⟨g,off+q,none⟩ x) fun j h1 Q=>(hl j (by omega) (by simp;omega)).set _ _;refine⟨(Mod.setCell (M:=fun x=>x=g) W ⟨g,off+q,none⟩ x rfl).trans E,fun j u hu=>?_,fun j O=>?_,fun a ha=>J a (ha.set _ _)⟩
  .cases j with
   |zero=>
    simp at hu;subst hu;obtain⟨S,o⟩:=Option.isSome_iff_exists.1 i.1;rw[y _ (.inl (by omega))];exact World.cell?_setCell_same _ _ _ o
   |succ j=>
    have:=I j u (by simpa using hu);rw[show off+q+(j+1)=off+(q+1)+j by omega];exact this
  .simp only[List.length_cons] at O;rw[y j (by omega),World.cell?_setCell_other _ _ _ _ (by intro e;simp only[Addr.mk.injEq] at e;omega)]
structure Ih {α:Type} (k:Nat) (cs:α->List Value) (W:World) (g:Nat) (L:List α):Prop where
 cells:∀m (h:m<L.length) j u,(cs L[m])[j]?=some u->W.cell? ⟨g,m*k+j,none⟩=some u
 live:∀m j,m<L.length->j<k->Live W ⟨g,m*k+j,none⟩
section
variable {α:Type}{k:Nat}{cs:α->List Value}{W W':World}{g:Nat}{L:List α}
theorem Ih.mod{M:Nat->Prop}(h:Ih k cs W g L)(m:Mod M W W')(x:¬M g):Ih k cs W' g L:=⟨fun i o j u hu=>m.cell (h.cells i o j u hu) x,fun i j o y=>(h.live i j o y).mod m x⟩
theorem Ih.store{i:Nat}{x:α}{K:World->Prop}(h:Ih k cs W g L)(I:i<L.length)(hk:∀y,(cs y).length=k)(h1:∀v∈cs x,v.oneCell'=true)
 (J:∀W',Ih k cs W' g (L.set i x)->Mod (fun b=>b=g) W W'->K W'):AY k (.pointer (some ⟨g,i*k,none⟩)) (.agg (cs x).toArray) K W:=by
 have O:∀j,j<k->Live W ((⟨g,i*k,none⟩:Addr).add j):=fun j o=>by rw[Gc];exact h.live i j I o
 obtain⟨Q,S,T,U⟩:=Q3 (g:=g) (off:=i*k) (cs x) 0 W fun j _ o=>h.live i j I (by have:=hk x;omega);refine⟨_,cs x,rfl,rfl,hk x,h1,fun j o=>O j o,J _ ⟨fun m hm j u hu=>?_,fun m j hm o=>U _ (h.live m j (by simpa using hm) o)⟩ Q⟩;rw[List.getElem_set] at hu;split at hu
 .rename_i e;subst e;have:=S j u hu;rwa [Nat.add_zero] at this
 .rename_i B;have E:m<L.length:=by simpa using hm
  have o:j<k:=by have:=(List.getElem?_eq_some_iff.1 hu).1;rw[hk] at this;exact this
  rw[T]
  .exact h.cells m E j u hu
  .rw[hk];rcases Nat.lt_or_gt_of_ne B with e|e
   .right;have:(i+1)*k<=m*k:=Nat.mul_le_mul_right _ e;rw[Nat.add_mul] at this;omega
   .left;have:(m+1)*k<=i*k:=Nat.mul_le_mul_right _ e;rw[Nat.add_mul] at this;omega
theorem Ih.of{B e n c:Nat}{R:World->List Value->α->Prop}(h:AF B e k R W (.slice (some ⟨g,0,none⟩) n c) L)(hk:0<k)(o:∀r x,R W r x->r=cs x):Ih k cs W g L:=by
 refine⟨fun m hm j u hu=>?_,fun m j hm y=>?_⟩
 .obtain⟨rows,h1,I,J,O⟩:=id h;obtain⟨a,r,i,_,hr,hc,E⟩:=(AF.sl h).get hm;cases i;have:=hc j u (by rw[o _ _ E];exact hu);rwa [Gc,Nat.zero_add] at this
 .obtain⟨g',i,_,hl⟩:=AF.live h hm y;cases i;rwa [Gc,Nat.zero_add] at hl
end
theorem UE{zero:Array Value}{n:Nat}(o:0<zero.size)(h1:∀v∈zero.toList,v.oneCell'=true):∀v∈(Builtin.zeroCells zero n).toList,v.oneCell'=true:=by
 intro v j;simp only[Builtin.zeroCells,Array.toList_map,List.mem_map] at j;obtain⟨i,_,rfl⟩:=j;refine h1 _ ?_;have:i%zero.size<zero.size:=Nat.mod_lt _ o;rw[getElem!_pos zero _ this];exact Array.getElem_mem_toList this
theorem Ls{P:Program}{t e k:Nat}{i:TypeInfo}{zv:Value}{W:World}{g off m c:Nat}(hu:P.underlying t=some (.slice e))(I:P.info? e=some i)(J:i.zero=some zv)(hk:zv.cells.size=k)(O:0<k)(h1:∀v∈zv.cells.toList,v.oneCell'=true)(hm:0<m)
 (hl:∀j,j<m*k->Live W ⟨g,off+j,none⟩):∃W',(Builtin.clear_ #[t] 0 [.slice (some ⟨g,off,none⟩) m c].toArray).run P W=.ok (.tuple #[]) W'/\Mod (fun x=>x=g) W W'/\∀j,j<off->W'.cell? ⟨g,j,none⟩=W.cell? ⟨g,j,none⟩:=by
 have B:(Builtin.zeroCells zv.cells m).toList.length=m*k:=by rw[Array.length_toList,size_zeroCells,hk]
 have E:∀j,0<=j->j<0+(Builtin.zeroCells zv.cells m).toList.length->Live W ⟨g,off+j,none⟩:=fun j _ y=>hl j (by omega);obtain⟨Q,_,S,_⟩:=Q3 (g:=g) (off:=off) (Builtin.zeroCells zv.cells m).toList 0 W E;have o:=Ou (P:=P) (⟨g,off,none⟩:Addr) (Builtin.zeroCells zv.cells m).toList 0 W (UE (by omega) h1) (fun j h0 y=>by rw[Gc];exact E j h0 y);refine⟨_,?_,Q,fun j y=>S j (.inl (by omega))⟩;have T:(zeroValue e).run P W=.ok zv W:=by simp[zeroValue,typeInfo,I,J]
 obtain⟨m,rfl⟩:∃q,m=q+1:=⟨m-1,by omega⟩;simp[Builtin.clear_,run_underlying hu,T,o]
end Go.K
namespace Go.Proofs.YtmdhibffnkhcnaaGreatDoor
open Go Go.K Proofs.Tryz
def Te(G:World->Prop)(j:Value)(i:Chg->Bool):Prop:=∀W c (K:Cont),G W->(∀W',Grow W W'->K (.bool (i c)) W')->CO prog DE j [.agg c.cells.toArray] K W
theorem WG{S:Nat->Prop}{v B:Value}{p:List Chg}{x:Chg->Bool}{w:World}(h:Hh S w v p)(E:Te (Grow w) B x) :
  AB prog 202 [v,B] (fun v' w'=>Grow w w'/\((v'=.int .i64 (-1)/\∀c∈p,x c=false)\/∃i:Nat,∃I:i<p.length,v'=.int .i64 i/\x p[i]=true/\∀c∈p.take i,x c=false)) w:=by
 apply Xa;obtain⟨a,c,rfl,hm⟩:=h.shape;simp only[maxLen] at hm;rw[AS];refine Ae (fun vs W=>∃i:Nat,i<=p.length/\vs=[.int .i64 i]/\Grow w W/\∀c∈p.take i,x c=false) (fun vs _=>p.length-ED vs 0) ⟨0,Nat.zero_le _,rfl,Mod.refl _ _,by simp⟩ ?_;rintro vs W ⟨i,I,rfl,g,y⟩ _;rw[CN,List.headD_cons,Ax];refine AE (fun J=>?_) fun O=>?_
 .have o:i<p.length:=by omega
  obtain⟨q,r,rfl,_,hr,hc,rfl⟩:=(h.grow g (by decide) fun _ _ h=>h).get o;refine AZ o (Ah hr (fun j u hu=>by rw[Addr.add_add];exact hc j u hu) ?_);refine E W p[i] _ g fun W' g'=>?_;cases e:x p[i] with
  |true=>exact Ao ⟨g.trans g',.inr ⟨i,o,rfl,e,y⟩⟩
  |false=>
   refine AT ?_;rw[AR,AQ (by omega)];refine⟨⟨i+1,o,rfl,g.trans g',fun c hc=>?_⟩,by rw[DW,DW];omega⟩;rw[List.take_add_one,List.getElem?_eq_getElem o] at hc;rcases List.mem_append.1 hc with hc|hc
   .exact y c hc
   .simp at hc;subst hc;exact e
 .have:i=p.length:=by omega
  subst this;exact⟨g,.inl ⟨rfl,fun c hc=>y c (by rw[List.take_length];exact hc)⟩⟩
theorem Chg.len(c:Chg):c.cells.length=6:=rfl
set_option maxRecDepth 20000 in
theorem Wm{B:Nat}{v fv:Value}{p:List Chg}{o:Chg->Bool}{w:World}(U:AF B 133 6 Hj w v p)(ak:p.length<=1099511627776)(Y:Te (Mod (fun b=>v.ownBlock=some b) w) fv o) :
  AB prog 128 [v,fv] (fun v' w'=>Hh (fun b=>v.ownBlock=some b) w' v' (p.filter fun c=>!o c)/\Mod (fun b=>v.ownBlock=some b) w w') w:=by
 apply Vt;refine AA (WG (AF.sl U) fun W c K g hK=>Y W c K (g.mono fun _ _ e=>e.elim) hK) ?_;rintro _ w1 ⟨V,⟨rfl,E⟩|⟨i0,I,rfl,hd,E⟩⟩
 .rw[Am];refine AE (fun _=>?_) fun e=>(e rfl).elim;rw[List.filter_eq_self.2 fun c hc=>by rw[E c hc];rfl];exact⟨BJ.sub (AF.sl (AF.mod U V (fun _ _ h=>h) fun _ _ _ h=>h)) (fun b _ h=>h.2) (by decide) fun _ _ h=>h,V.mono fun _ _ e=>e.elim⟩
 rw[Am];refine AE (fun e=>absurd e (by omega)) fun _=>?_;obtain⟨a,c,rfl,al,an,hp,hn⟩:=AF.shape U;cases a with
 |none=>rw[hn rfl] at I;simp at I
 |some q=>
 obtain⟨g,rfl,av,Z,a8⟩:=hp q rfl;have a1:∀b,(Value.slice (some ⟨g,0,none⟩) p.length c).ownBlock=some b↔b=g:=fun b=>⟨fun e=>by cases e;rfl,fun e=>by subst e;rfl⟩;simp only[a1] at Y ⊢;have R0:Ih 6 Chg.cells w g p:=Ih.of U (by decide) fun _ _ h=>h;have R1:=R0.mod V fun h=>h;rw[AR,AQ (by omega)];refine Ae (fun vs W=>∃(i j:Nat) (L:List Chg),i<j/\j<=p.length/\vs=[.int .i64 i,.int .i64 j]/\L.length=p.length/\Ih 6 Chg.cells W g L/\L.take i=(p.take j).filter (fun c=>!o c)/\L.drop j=p.drop j/\Mod (fun b=>b=g) w W) (fun vs _=>p.length-ED vs 1)
  ⟨i0,i0+1,p,by omega,I,rfl,rfl,R1,?_,rfl,V.mono fun _ _ e=>e.elim⟩ ?_
 .rw[List.take_add_one,List.getElem?_eq_getElem I,List.filter_append,List.filter_eq_self.2 fun c hc=>by rw[E c hc];rfl];simp[hd]
 rintro vs W ⟨i,j,L,ax,hj,rfl,hL,X,ht,O,hm⟩ _;simp only[Fx];rw[AS,Ax];refine AE (fun Q=>?_) fun ay=>?_
 .have y:j<p.length:=by omega
  have a6:L[j]'(by omega)=p[j]:=by
   have e:=congrArg List.head? O;rw[List.head?_drop,List.head?_drop,List.getElem?_eq_getElem (by omega),List.getElem?_eq_getElem y] at e;exact Option.some.inj e
  refine AZ y ?_;rw[AI];refine Ah (vs:=p[j].cells) rfl (fun q u hu=>by rw[Gc];exact X.cells j (by omega) q u (by rw[a6];exact hu)) ?_;refine BO (vs:=p[j].cells) rfl rfl (Hj.one (w:=W) (x:=p[j]) rfl) fun b7 w4 b0 b1 g4 S _=>?_;have b2:g<W.heap.size:=Nat.lt_of_lt_of_le Z hm.size;refine Ah (vs:=p[j].cells) rfl S ?_;refine Y w4 p[j] _ (hm.next g4 fun _ _ e=>e.elim) fun W5 g5=>?_;have R5:=(X.mod g4 fun h=>h).mod g5 fun h=>h;have m5:=(hm.next g4 fun _ _ e=>e.elim).next g5 fun _ _ e=>e.elim;have et:(p.take (j+1)).filter (fun c=>!o c)=(p.take j).filter (fun c=>!o c)++if o p[j] then[] else[p[j]]:=by
   rw[List.take_add_one,List.getElem?_eq_getElem y,List.filter_append];cases e:o p[j]<;>simp[e]
  have J:L.drop (j+1)=p.drop (j+1):=by have:=congrArg (List.drop 1) O;simpa[List.drop_drop] using this
  cases e:o p[j] with
  |true=>
   rw[Aq];refine AT ?_;rw[AR,AQ (by omega)];rw[e,if_pos rfl,List.append_nil] at et;refine⟨⟨i,j+1,L,by omega,y,rfl,hL,R5,by rw[et];exact ht,?_,m5⟩,by rw[BH,BH];omega⟩;exact J
  |false=>
   rw[Aq];refine Ao ?_;refine Ah (vs:=p[j].cells) rfl (fun q u hu=>g5.cell (S q u hu) fun h=>h) ?_;refine AZ (by omega) ?_;rw[AI];refine R5.store (i:=i) (x:=p[j]) (by omega) Chg.len (Hj.one (w:=W) (x:=p[j]) rfl) fun W6 R6 m6=>?_;rw[AR,AR,AQ (by omega),AQ (by omega)];rw[e,if_neg (by decide)] at et;refine⟨⟨i+1,j+1,L.set i p[j],by omega,y,rfl,by simp[hL],R6,?_,?_,m5.trans m6⟩,by rw[BH,BH];omega⟩
   .rw[et,<-ht,List.take_set,List.take_add_one,List.getElem?_eq_getElem (by omega),List.set_append_right _ _ (by simp;omega)];simp[Nat.min_eq_left (show i<=L.length by omega)]
   .rw[List.drop_set_of_lt (by omega)];exact J
 .obtain rfl:j=p.length:=by omega
  rw[List.take_length] at ht;refine Ai (EM (e:=133) (k:=6) (i:=Tryz.t133) (by kernel_rfl) (by kernel_rfl) (by kernel_rfl) (by omega) W) ?_;have a7:sliced (some (⟨g,0,none⟩:Addr)) i p.length c 6=.slice (some ⟨g,i*6,none⟩) (p.length-i) (c-i):=by
   unfold sliced;rw[if_neg (by omega)];simp only[Option.map_some,AI]
  rw[a7];obtain⟨W2,hr,m2,h2⟩:=Ls (P:=prog) (t:=81) (e:=133) (k:=6) (i:=Tryz.t133) (zv:=.agg (⟨0,false,BE.zero⟩:Chg).cells.toArray) (W:=W) (g:=g) (off:=i*6) (m:=p.length-i) (c:=c-i) (by kernel_rfl) (by kernel_rfl) (by kernel_rfl) (by kernel_rfl) (by decide)
   (fun u hu=>Hj.one (w:=W) (x:=⟨0,false,BE.zero⟩) rfl u (by simpa[Value.cells] using hu)) (by omega) fun q hq=>by
    have:=X.live (i+q/6) (q%6) (by omega) (Nat.mod_lt _ (by decide));rwa [show(i+q/6)*6+q%6=i*6+q by omega] at this
  refine Ai hr ?_;refine Ai (Ev (e:=133) (k:=6) (i:=Tryz.t133) (by kernel_rfl) (by kernel_rfl) (by kernel_rfl) (by omega) W2) ?_;refine⟨?_,hm.trans m2⟩;rw[<-ht];have Q:(L.take i).length=i:=by simp;omega
  refine⟨_,_,by rw[Q],by omega,by omega,fun m x hx=>?_⟩;obtain⟨b3,T⟩:=List.getElem?_eq_some_iff.1 hx;rw[List.getElem_take] at T;subst T;refine⟨⟨g,0,none⟩,_,rfl,rfl,rfl,fun q u hu=>?_,rfl⟩;have hq:q<6:=(List.getElem?_eq_some_iff.1 hu).1;rw[AI,h2 _ (by omega)];exact X.cells m (by omega) q u hu
def QJ(ks:List DKey)(b:Bool)(c:Chg):Bool:=match BY ks c.key with|some k=>decide (k.block=b)|none=>false
theorem UI{D:Nat->Prop}{sv:Value}{ks:List DKey}{b:Bool}{c:Chg}{B E:Nat}{w:World}(I:DG D w sv ks)(J:w.cell? ⟨B,0,none⟩=some sv)(O:w.cell? ⟨E,0,none⟩=some (.bool b)) :
  AB prog 130 [.agg c.cells.toArray,.pointer (some ⟨B,0,none⟩),.pointer (some ⟨E,0,none⟩)] (fun v' w'=>v'=.bool (!QJ ks b c)/\Grow w w') w:=by
 apply Xb;refine Da fun Y Z Q S o y _=>?_;refine AL (o.cell J fun h=>h) ?_;rw[AG];refine AL (y 0 _ rfl) ?_;refine AA (Ip (I.grow o) c.key) ?_;rintro _ w2 ⟨rfl,T⟩;refine BM ?_;refine BO (vs:=((BY ks c.key).getD DKey.zero).cells) rfl rfl (Fv.one (w:=w2) (x:=(BY ks c.key).getD DKey.zero) rfl) fun b4 w3 U V X j _=>?_;have i:=(o.trans T).trans X;rw[Aq];unfold QJ;cases e:BY ks c.key with
 |none=>exact Ao ⟨rfl,i⟩
 |some k=>
  rw[e] at j;refine AT ?_;rw[AG];refine AL (j 1 _ rfl) ?_;refine AL (i.cell O fun h=>h) ?_;rw[PI];refine⟨?_,i⟩;show Value.bool (k.block != b)=.bool (!decide (k.block=b));cases k.block<;>cases b<;>rfl
theorem Oa{D S:Nat->Prop}{sv V:Value}{ks:List DKey}{b:Bool}{p:List Chg}{w:World}(X:DG D w sv ks)(hp:Hh S w V p)(hl:p.length<=1099511627776) :
  AB prog 70 [sv,V,.bool b] (fun v' w'=>Hh (fun x=>w.heap.size<=x) w' v' (Fz ks b p)/\Grow w w') w:=by
 apply Ze;have J:sv.cells=#[sv]:=by
  obtain⟨b,m,kv,l,rfl,_⟩:=X;rfl
 have O:DG (fun x=>D x/\x<w.heap.size) w sv ks:=X.sub fun x B h=>⟨h,B⟩;refine⟨J,EE fun E w1 a1 a6 o Q _=>?_⟩;refine⟨rfl,EE fun I w2 a7 a8 j T _=>?_⟩;refine AA (Rq (hp.grow (o.trans j) (by decide) fun _ _ h=>h) (by omega)) ?_;rintro v3 w3 ⟨Y,U⟩;have c3:w2.cell? ⟨E,0,none⟩=some sv:=by have:=j.cell (Q 0 _ rfl) fun h=>h;rwa [AI] at this
 have c5:w2.cell? ⟨I,0,none⟩=some (.bool b):=by have:=T 0 _ rfl;rwa [AI] at this
 have i:∀x,v3.ownBlock=some x->w2.heap.size<=x:=fun x e=>(AF.BL Y x e).1;have y:=(o.trans j).trans U;have tl:Te (Mod (fun x=>v3.ownBlock=some x) w3) (.func (.func 130) #[] #[.pointer (some ⟨E,0,none⟩),.pointer (some ⟨I,0,none⟩)]) fun c=>!QJ ks b c:=by
  intro W c K m hK;refine .inl ⟨_,[],[.pointer (some ⟨E,0,none⟩),.pointer (some ⟨I,0,none⟩)],rfl,by kernel_rfl,?_⟩;refine AA (UI ((O.grow y).mod m fun x _ B e=>?_) (m.cell (U.cell c3 fun h=>h) fun e=>?_) (m.cell (U.cell c5 fun h=>h) fun e=>?_)) ?_
  .have:=i _ e;have:=B.2;have:=(o.trans j).size;omega
  .have h:w2.heap.size<=E:=i _ e;omega
  .have h:w2.heap.size<=I:=i _ e;omega
  .rintro _ W' ⟨rfl,g⟩;exact hK W' g
 refine AA (Wm Y hl tl) ?_;rintro v4 w4 ⟨Z,m4⟩;have e:(p.filter fun c=>!(!QJ ks b c))=Fz ks b p:=by simp only[Bool.not_not];rfl
 rw[e] at Z;refine⟨BJ.sub Z (fun x _ e=>by have:=i x e;have:=(o.trans j).size;omega) (by decide) fun _ _ h=>h,?_⟩;exact y.next m4 fun x B e=>by have:=i x e;have:=(o.trans j).size;omega
end Go.Proofs.YtmdhibffnkhcnaaGreatDoor
