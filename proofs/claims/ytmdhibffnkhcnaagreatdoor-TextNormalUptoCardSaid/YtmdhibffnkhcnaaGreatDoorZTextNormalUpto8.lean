/- parts of the proof, written short by a program of ours -/
import Derived.Test.YtmdhibffnkhcnaaGreatDoorZTextNormalUpto7
set_option linter.unusedSimpArgs false
set_option linter.unusedVariables false
namespace Go.Proofs.YtmdhibffnkhcnaaGreatDoor
open Go Proofs.Tryz
variable {i j c B E I:Nat}{w W w0:World}{F S C M:Nat->Prop}{v fr sv:Value}{most:Int}{α:Type}{a:List Dop}{rs:List Int}{ks:List DKey}{K:Cont}{P:Program}
section
variable {v0 v1 v2 v3 v4 v5 v6 v7 v8 v9:Value}{K:Cont}{w:World}
theorem fQ(h: Ae v1 fun B=>
 Aq [(.int .i64 0),(.int .i64 0)] (fun vs i w1=>∀_:Env,
 Bb .i64 (nth vs 1) B fun E=>
 AD E
 (BQ 5 v1 (nth vs 1) fun I=>
 Af 5 I (fun J w2=>
 Am 83 [(.int .u8 0),(.int .i64 0),(.slice none 0 0),(.slice none 0 0),(.slice none 0 0)] (fun t7 w3=>
 Ac 5 t7 J (fun w4=>
 Af 5 t7 (fun O w5=>
 AB prog 153 [v0,O] (fun j Q=>
 DJ .i64 j (.int .i64 3) fun S=>
 AD S
 (K j Q)
 (EB .i64 j (.int .i64 0) fun T=>
 AD T
 (AX .i64 (nth vs 1) (.int .i64 1) fun U=>
 i [j,U] Q)
 (AX .i64 (nth vs 1) (.int .i64 1) fun o=>
 i [(nth vs 0),o] Q))) w5) w4) w3) w2) w1)
 (AB prog 81 [v1] (fun V w7=>
 Eu .i64 V (.int .i64 536870912) fun X=>
 AD X
 (K (.int .i64 3) w7)
 (AB prog 84 [v1] (fun Y w8=>
 Eu .i64 Y (.int .i64 536870912) fun Z=>
 AD Z
 (K (.int .i64 3) w8)
 (K (nth vs 0) w8)) w7)) w1)) w):AB prog 80 [v0,v1] K w:=cO (aN (aN (aO (aN (.node [5,11] [(4,5),(7,8),(11,26)] (aN (aO aE (aO (aN (aN (aN (aO aE (aN aE))))) .nil))) .nil)) (aO (aN (aO aE .nil)) aE)))) func80 h (by kernel_rfl)
theorem Yx(h: Bh 83 v1 (fun t3 w1=>
 Ao (fun _vs w2=>∀_:Env,
 AM 3 t3 fun o=>
 AL o (fun B w3=>
 AB prog 142 [v0,B] (fun t22 w4=>
 EB .i64 t22 (.int .i64 0) fun E=>
 AD E
 (K t22 w4)
 (AM 4 t3 fun I=>
 AL I (fun O w5=>
 AB prog 240 [v0,O] (fun Q w6=>
 K Q w6) w5) w4)) w3) w2) (fun J=>
 Af 5 t3 (fun t6 w7=>
 AB prog 239 [t6] (fun t7 w8=>
 CE t7 fun t8=>
 AD t8
 (K (.int .i64 3) w8)
 (Af 5 t3 (fun S w9=>
 AB prog 155 [S] (fun T i=>
 Bb .i64 T (.int .i64 1) fun U=>
 AD U
 (K (.int .i64 3) i)
 (Af 5 t3 (fun V X=>
 AB prog 155 [V] (fun Y j=>
 Eu .i64 Y (.int .i64 536870912) fun Z=>
 AD Z
 (K (.int .i64 3) j)
 (J [] j)) X) i)) w9) w8)) w7) w1)) w):AB prog 153 [v0,v1] K w:=cO (aN (.cut [] [(4,4),(6,18)] (aN (aO aE .nil)) (aO (aN (aN (aO aE .nil))) aE))) func153 h (by kernel_rfl)
theorem ZP(h: Bh 83 v0 (fun i w1=>
 Ao (fun vs w2=>∀_:Env,
 AM 0 i fun B=>
 AL B (fun j o=>
 DJ .u8 j (.int .u8 1) fun E=>
 AD E
 (CE (nth vs 0) fun I=>
 K I o)
 (DJ .u8 j (.int .u8 3) fun O=>
 AD O
 (CE (nth vs 0) fun Q=>
 AD Q
 (AM 4 i fun t25=>
 AL t25 (fun S w4=>
 Ae S fun T=>
 DJ .i64 T (.int .i64 0) fun U=>
 K U w4) o)
 (K (.bool false) o))
 (DJ .u8 j (.int .u8 2) fun V=>
 AD V
 (AM 1 i fun X=>
 AL X (fun Y w5=>
 DJ .i64 Y (.int .i64 0) fun Z=>
 AD Z
 (AM 4 i fun a1=>
 AL a1 (fun a6 w6=>
 Ae a6 fun a7=>
 DJ .i64 a7 (.int .i64 0) fun t39=>
 AD t39
 (AM 2 i fun a8=>
 AL a8 (fun ak w7=>
 AB prog 224 [ak,(.func (.func 280) #[] #[])] (fun al w8=>
 CE al fun t45=>
 K t45 w8) w7) w6)
 (K (.bool false) w6)) w5)
 (K (.bool false) w5)) o)
 (K (.bool false) o)))) w2) (fun J=>
 AM 2 i fun t4=>
 AL t4 (fun t5 w9=>
 Ae t5 fun t6=>
 Eu .i64 t6 (.int .i64 0) fun t7=>
 AD t7
 (J [(.bool true)] w9)
 (AM 3 i fun t9=>
 AL t9 (fun an av=>
 Ae an fun ax=>
 Eu .i64 ax (.int .i64 0) fun ay=>
 J [ay] av) w9)) w1)) w):AB prog 239 [v0] K w:=cO (aN (.cut [3] [(3,13)] .nil (aO (aN (aN (aO aE (aN (aO aE (aN (aO aE .nil))))))) aE))) func239 h (by kernel_rfl)
theorem ZM(h: AB prog 194 [v0] (fun t4 i=>
 CE t4 fun t5=>
 K t5 i) w):AB prog 280 [v0] K w:=cO (aN aE) func280 h (by kernel_rfl)
theorem Yp(h: Bh 83 v0 (fun i o=>
 AM 0 i fun t3=>
 AL t3 (fun t4 w2=>
 DJ .u8 t4 (.int .u8 2) fun t5=>
 AD t5
 (AM 2 i fun B=>
 AL B (fun E I=>
 Ae E fun J=>
 K J I) w2)
 (AM 1 i fun t9=>
 AL t9 (fun j w4=>
 K j w4) w2)) o) w):AB prog 155 [v0] K w:=cO (aN (aO (aN (aO aE .nil)) aE)) func155 h (by kernel_rfl)
theorem fD(h: Ae v0 fun X=>
 Aq [(.int .i64 0),(.int .i64 0)] (fun vs i U=>∀_:Env,
 Bb .i64 (nth vs 1) X fun t9=>
 AD t9
 (BQ 5 v0 (nth vs 1) fun o=>
 Af 5 o (fun B w2=>
 Am 83 [(.int .u8 0),(.int .i64 0),(.slice none 0 0),(.slice none 0 0),(.slice none 0 0)] (fun t5 Y=>
 Ac 5 t5 B (fun w4=>
 AM 0 t5 fun E=>
 AL E (fun I V=>
 EB .u8 I (.int .u8 2) fun J=>
 AD J
 (AM 1 t5 fun O=>
 AL O (fun Q Z=>
 AX .i64 (nth vs 0) Q fun S=>
 AX .i64 (nth vs 1) (.int .i64 1) fun T=>
 i [S,T] Z) V)
 (AX .i64 (nth vs 1) (.int .i64 1) fun j=>
 i [(nth vs 0),j] V)) w4) Y) w2) U)
 (K (nth vs 0) U)) w):AB prog 81 [v0] K w:=cO (aN (aN (aO (aN (.node [3,8] [(3,3),(5,5),(8,19)] (aN (aO aE (aO (aN (aN aE)) .nil))) .nil)) aE))) func81 h (by kernel_rfl)
theorem fp(h: Ae v0 fun X=>
 Aq [(.int .i64 0),(.int .i64 0)] (fun vs i U=>∀_:Env,
 Bb .i64 (nth vs 1) X fun t9=>
 AD t9
 (BQ 5 v0 (nth vs 1) fun o=>
 Af 5 o (fun B w2=>
 Am 83 [(.int .u8 0),(.int .i64 0),(.slice none 0 0),(.slice none 0 0),(.slice none 0 0)] (fun t5 Y=>
 Ac 5 t5 B (fun w4=>
 AM 0 t5 fun E=>
 AL E (fun I V=>
 EB .u8 I (.int .u8 3) fun J=>
 AD J
 (Af 5 t5 (fun O Z=>
 AB prog 155 [O] (fun Q w7=>
 AX .i64 (nth vs 0) Q fun S=>
 AX .i64 (nth vs 1) (.int .i64 1) fun T=>
 i [S,T] w7) Z) V)
 (AX .i64 (nth vs 1) (.int .i64 1) fun j=>
 i [(nth vs 0),j] V)) w4) Y) w2) U)
 (K (nth vs 0) U)) w):AB prog 84 [v0] K w:=cO (aN (aN (aO (aN (.node [3,8] [(3,3),(5,5),(8,19)] (aN (aO aE (aO (aN (aN aE)) .nil))) .nil)) aE))) func84 h (by kernel_rfl)
theorem aT(h: AB prog 249 [v0] (fun t4 i=>
 K t4 i) w):AB prog 194 [v0] K w:=cO (aN aE) func194 h (by kernel_rfl)
theorem Y4(h: SQ .i32 (.int .i32 0) v0 fun t5=>
 AD t5
 (Bb .i32 v0 (.int .i32 55296) fun E=>
 AD E
 (K (.bool true) w)
 (Bb .i32 (.int .i32 57343) v0 fun o=>
 AD o
 (SQ .i32 v0 (.int .i32 1114111) fun B=>
 AD B
 (K (.bool true) w)
 (K (.bool false) w))
 (K (.bool false) w)))
 (Bb .i32 (.int .i32 57343) v0 fun i=>
 AD i
 (SQ .i32 v0 (.int .i32 1114111) fun j=>
 AD j
 (K (.bool true) w)
 (K (.bool false) w))
 (K (.bool false) w))):AB prog 249 [v0] K w:=cO (aN (aO (aN (aO aE (aN (aO aE .nil)))) aE)) func249 h (by kernel_rfl)
theorem Sr(h: AB prog 265 [v0,v1] (fun i j=>
 Kk .i64 i (.int .i64 0) fun o=>
 K o j) w):AB prog 224 [v0,v1] K w:=cO (aN aE) func224 h (by kernel_rfl)
theorem SR(h: Ae v0 fun O=>
 Aq [(.int .i64 0)] (fun vs i I=>∀_:Env,
 Bb .i64 (nth vs 0) O fun t9=>
 AD t9
 (BQ 1 v0 (nth vs 0) fun j=>
 AL j (fun o w2=>
 Ci prog Dh v1 [o] (fun B J=>
 AD B
 (K (nth vs 0) J)
 (AX .i64 (nth vs 0) (.int .i64 1) fun E=>
 i [E] J)) w2) I)
 (K (.int .i64 (-1)) I)) w):AB prog 265 [v0,v1] K w:=cO (aN (aO (aN (.node [8] [(4,5),(8,18)] (aN (aO aE (aO (aN (aN (aO aE .nil))) .nil))) .nil)) aE)) func265 h (by kernel_rfl)
theorem Zh(h: Ae v1 fun b3=>
 Eu .i64 b3 (.int .i64 64) fun b4=>
 AD b4
 (K (.int .i64 3) w)
 (Ae v1 fun b5=>
 Aq [(.int .i64 0),(.int .i64 0)] (fun vs B w1=>∀_:Env,
 Bb .i64 (nth vs 1) b5 fun b6=>
 AD b6
 (Ao (fun X w2=>∀_:Env,
 AX .i64 (nth vs 1) (.int .i64 1) fun b7=>
 B [(nth X 0),b7] w2) (fun J=>
 BQ 6 v1 (nth vs 1) fun b8=>
 Af 6 b8 (fun b9 w3=>
 Am 133 [(.int .i64 0),(.bool false),(.int .u8 0),(.int .i64 0),(.int .u64 0),(.string (ByteArray.mk #[]))] (fun j w4=>
 Ac 6 j b9 (fun w5=>
 AM 0 j fun t22=>
 AL t22 (fun ba w6=>
 AB prog 131 [v0,ba] (fun Y w7=>
 AQ 0 Y fun t25=>
 AQ 1 Y fun bb=>
 Am 65 [(.int .i64 0),(.bool false),(.int .u8 0),(.bool false),(.bool false),(.int .i64 0)] (fun t8 w8=>
 Ac 6 t8 t25 (fun w9=>
 Ao (fun Z E=>∀_:Env,
 AD (nth Z 0)
 (K (.int .i64 3) E)
 (CE bb fun bc=>
 AD bc
 (J [(.int .i64 4)] E)
 (AM 1 j fun bd=>
 AL bd (fun bk a1=>
 CE bk fun bl=>
 AD bl
 (AM 0 j fun bn=>
 AL bn (fun bp bs=>
 AM 2 j fun bx=>
 Af 4 bx (fun t70 c4=>
 AB prog 209 [v0,bp,t70] (fun c6 a6=>
 CE c6 fun c7=>
 AD c7
 (J [(.int .i64 4)] a6)
 (J [(nth vs 0)] a6)) c4) bs) a1)
 (J [(nth vs 0)] a1)) E))) (fun i=>
 Ao (fun o a7=>∀_:Env,
 AD (nth o 0)
 (i [(nth o 0)] a7)
 (AM 1 j fun c8=>
 AL c8 (fun c9 a8=>
 AD c9
 (AM 2 j fun ca=>
 Af 4 ca (fun t45 cc=>
 Ah [(0,1),(1,1),(2,1),(3,1)] [(.int .u8 0),(.int .i64 0),(.int .u64 0),(.string (ByteArray.mk #[]))] [] fun t46=>
 runK prog (BX .neq 77 (.tmp 45) (.tmp 46) t45 t46) (fun ak al=>
 AD ak
 (i [ak] al)
 (AM 1 j fun cd=>
 AL cd (fun t50 an=>
 CE t50 fun ch=>
 AD ch
 (AM 2 j fun t53=>
 Af 4 t53 (fun cn cv=>
 AB prog 208 [cn] (fun t55 cx=>
 CE t55 fun dk=>
 i [dk] cx) cv) an)
 (i [(.bool false)] an)) al)) cc) a8)
 (AM 1 j fun I=>
 AL I (fun O av=>
 CE O fun Q=>
 AD Q
 (AM 2 j fun S=>
 Af 4 S (fun T dv=>
 AB prog 208 [T] (fun U dT=>
 CE U fun V=>
 i [V] dT) dv) av)
 (i [(.bool false)] av)) a8)) a7)) (fun ax=>
 Cg w9 (fun C=>
 Eu .i64 (nth vs 1) (.int .i64 0) fun e1=>
 AD e1
 (BW .i64 (nth vs 1) (.int .i64 1) fun e2=>
 BQ 6 v1 e2 fun e3=>
 AM 0 e3 fun e4=>
 BJ C e4 fun e5=>
 AM 0 j fun e6=>
 BJ C e6 fun e7=>
 Kk .i64 e5 e7 fun t39=>
 ∀ay:World,C ay->
 ax [t39] ay)
 (∀ b0:World,C b0->
 ax [(.bool false)] b0))))) w8) w7) w6) w5) w4) w3) w1))
 (K (nth vs 0) w1)) w)):AB prog 240 [v0,v1] K w:=cO (aN (aO (aN (aO aE .nil)) (aN (aO (aN (.node [5,15] [(4,9),(15,75)] (aN (aO aE (.cut [5] [(4,9),(17,74)] (aN (aN (.cut [27] [(27,57)] (.cut [27] [(27,40)] .draw (aN (aN aE))) (aO aE (aN aE))))) .nil))) .nil)) aE)))) func240 h (by kernel_rfl)
theorem Ya(h: Ae v1 fun V=>
 Aq [(.slice none 0 0),(.int .i64 0),(.int .i64 0)] (fun vs I w1=>∀_:Env,
 Bb .i64 (nth vs 2) V fun X=>
 AD X
 (Ao (fun E w2=>∀_:Env,
 AX .i64 (nth vs 2) (.int .i64 1) fun t70=>
 I [(nth E 0),(nth E 1),t70] w2) (fun J=>
 BQ 6 v1 (nth vs 2) fun Y=>
 Af 6 Y (fun Z w3=>
 Am 133 [(.int .i64 0),(.bool false),(.int .u8 0),(.int .i64 0),(.int .u64 0),(.string (ByteArray.mk #[]))] (fun B w4=>
 Ac 6 B Z (fun w5=>
 Aq [(nth vs 0),(nth vs 1)] (fun i o w6=>∀_:Env,
 Ae v0 fun a1=>
 Bb .i64 (nth i 1) a1 fun a6=>
 AD a6
 (Ao (fun j w7=>∀_:Env,
 AM 1 B fun a7=>
 AL a7 (fun a8 w8=>
 CE a8 fun t50=>
 AD t50
 (AM 0 B fun ak=>
 AL ak (fun t53 w9=>
 AM 2 B fun al=>
 Af 4 al (fun t55 an=>
 Ah [(0,1),(1,4)] [(.int .i64 0),(.int .u8 0),(.int .i64 0),(.int .u64 0),(.string (ByteArray.mk #[]))] [(0,t53),(1,t55)] fun av=>
 Bg 79 5 1 [(.int .i64 0),(.int .u8 0),(.int .i64 0),(.int .u64 0),(.string (ByteArray.mk #[]))] [(0,av)] (fun ax ay=>
 runK prog (Builtin.append_ #[43,43] 43 [(nth j 0),ax].toArray) (fun b0 b3=>
 J [b0,(nth j 1)] b3) ay) an) w9) w8)
 (J [(nth j 0),(nth j 1)] w8)) w7) (fun T=>
 Cg w6 (fun C=>
 BQ 5 v0 (nth i 1) fun b4=>
 AM 0 b4 fun t25=>
 BJ C t25 fun b5=>
 AM 0 B fun b6=>
 BJ C b6 fun b7=>
 Bb .i64 b5 b7 fun b8=>
 ∀O:World,C O->
 AD b8
 (BQ 5 v0 (nth i 1) fun b9=>
 Af 5 b9 (fun ba bb=>
 Bg 79 5 1 [(.int .i64 0),(.int .u8 0),(.int .i64 0),(.int .u64 0),(.string (ByteArray.mk #[]))] [(0,ba)] (fun bc bd=>
 runK prog (Builtin.append_ #[43,43] 43 [(nth i 0),bc].toArray) (fun bk bl=>
 AX .i64 (nth i 1) (.int .i64 1) fun bn=>
 o [bk,bn] bl) bd) bb) O)
 (Cg O (fun Q=>
 BQ 5 v0 (nth i 1) fun bp=>
 AM 0 bp fun bs=>
 BJ Q bs fun bx=>
 AM 0 B fun c4=>
 BJ Q c4 fun c6=>
 DJ .i64 bx c6 fun t45=>
 ∀S:World,Q S->
 AD t45
 (AX .i64 (nth i 1) (.int .i64 1) fun c7=>
 T [(nth i 0),c7] S)
 (T [(nth i 0),(nth i 1)] S))))))
 (AM 1 B fun c8=>
 AL c8 (fun c9 U=>
 CE c9 fun ca=>
 AD ca
 (AM 0 B fun cc=>
 AL cc (fun cd ch=>
 AM 2 B fun cn=>
 Af 4 cn (fun t66 cv=>
 Ah [(0,1),(1,4)] [(.int .i64 0),(.int .u8 0),(.int .i64 0),(.int .u64 0),(.string (ByteArray.mk #[]))] [(0,cd),(1,t66)] fun cx=>
 Bg 79 5 1 [(.int .i64 0),(.int .u8 0),(.int .i64 0),(.int .u64 0),(.string (ByteArray.mk #[]))] [(0,cx)] (fun dk dv=>
 runK prog (Builtin.append_ #[43,43] 43 [(nth i 0),dk].toArray) (fun dT e1=>
 J [dT,(nth i 1)] e1) dv) cv) ch) U)
 (J [(nth i 0),(nth i 1)] U)) w6)) w5) w4) w3) w1))
 (runK prog (Instr.sliceAt 43 v0 (some (nth vs 1)) none none) (fun e2 e3=>
 runK prog (Builtin.append_ #[43,43] 43 [(nth vs 0),e2].toArray) (fun e4 e5=>
 K e4 e5) e3) w1)) w):AB prog 156 [v0,v1] K w:=cO (aN (aN (aN (aN (aO (aN (.node [5,6,11] [(5,6),(8,8),(11,70)] (aN (aO aE (.cut [5,6] [(5,6),(8,8),(13,69)] (aN (aO (.node [5,6] [(5,6),(15,58)] (aO (aN aE) (aO (.cut [5,6] [(5,6),(21,47)] (aO .draw (aO aE (aO .draw aE))) (aO (aN aE) .nil)) .nil)) .nil) (aN aE))) .nil))) .nil)) aE))))) func156 h (by kernel_rfl)
theorem dX(h: GM 24 v0 (fun t3 j=>
 GM 4 v2 (fun t5 w2=>
 AB prog 129 [v1] (fun o B=>
 AB prog 128 [o,(.func (.func 130) #[] #[t3,t5])] (fun i w4=>
 K i w4) B) w2) j) w):AB prog 70 [v0,v1,v2] K w:=cO (aN aE) func70 h (by kernel_rfl)
theorem Zw(h: Bh 133 v0 (fun t3 T=>
 AL v1 (fun U w2=>
 AM 0 t3 fun t9=>
 AL t9 (fun j V=>
 AB prog 131 [U,j] (fun i w4=>
 AQ 0 i fun o=>
 AQ 1 i fun B=>
 Am 65 [(.int .i64 0),(.bool false),(.int .u8 0),(.bool false),(.bool false),(.int .i64 0)] (fun t5 X=>
 Ac 6 t5 o (fun S=>
 CE B fun E=>
 AD E
 (K (.bool true) S)
 (AM 1 t5 fun I=>
 AL I (fun J Y=>
 AL v2 (fun O Z=>
 VD J O fun Q=>
 K Q Z) Y) S)) X) w4) V) w2) T) w):AB prog 130 [v0,v1,v2] K w:=cO (aN (aN aE)) func130 h (by kernel_rfl)
theorem YO(h: AB prog 202 [v0,v1] (fun j w1=>
 DJ .i64 j (.int .i64 (-1)) fun B=>
 AD B
 (K v0 w1)
 (AX .i64 j (.int .i64 1) fun E=>
 Aq [j,E] (fun vs i w2=>∀_:Env,
 Ae v0 fun I=>
 Bb .i64 (nth vs 1) I fun J=>
 AD J
 (BQ 6 v0 (nth vs 1) fun O=>
 Af 6 O (fun t25 w3=>
 Am 133 [(.int .i64 0),(.bool false),(.int .u8 0),(.int .i64 0),(.int .u64 0),(.string (ByteArray.mk #[]))] (fun Q w4=>
 Ac 6 Q t25 (fun w5=>
 Af 6 Q (fun S w6=>
 Ci prog Dh v1 [S] (fun T w7=>
 CE T fun U=>
 AD U
 (Af 6 Q (fun V w8=>
 BQ 6 v0 (nth vs 0) fun X=>
 Ac 6 X V (fun w9=>
 AX .i64 (nth vs 0) (.int .i64 1) fun Y=>
 AX .i64 (nth vs 1) (.int .i64 1) fun Z=>
 i [Y,Z] w9) w8) w7)
 (AX .i64 (nth vs 1) (.int .i64 1) fun o=>
 i [(nth vs 0),o] w7)) w6) w5) w4) w3) w2)
 (runK prog (Instr.sliceAt 81 v0 (some (nth vs 0)) none none) (fun a1 a6=>
 runK prog (Builtin.clear_ #[81] 0 [a1].toArray) (fun _u a7=>
 runK prog (Instr.sliceAt 81 v0 none (some (nth vs 0)) none) (fun a8 ak=>
 K a8 ak) a7) a6) w2)) w1)) w):AB prog 128 [v0,v1] K w:=cO (aN (aN (aO (aN (aO aE .nil)) (aO (aN (.node [5,6] [(5,7),(16,35)] (aO (aN aE) (aO (aN (aN (aO aE .nil))) .nil)) .nil)) (aN aE))))) func128 h (by kernel_rfl)
theorem Zv(h: Ae v0 fun O=>
 Aq [(.int .i64 0)] (fun vs i I=>∀_:Env,
 Bb .i64 (nth vs 0) O fun t9=>
 AD t9
 (BQ 6 v0 (nth vs 0) fun j=>
 Af 6 j (fun o w2=>
 Ci prog Dh v1 [o] (fun B J=>
 AD B
 (K (nth vs 0) J)
 (AX .i64 (nth vs 0) (.int .i64 1) fun E=>
 i [E] J)) w2) I)
 (K (.int .i64 (-1)) I)) w):AB prog 202 [v0,v1] K w:=cO (aN (aO (aN (.node [8] [(4,5),(8,18)] (aN (aO aE (aO (aN (aN (aO aE .nil))) .nil))) .nil)) aE)) func202 h (by kernel_rfl)
end
theorem Q7{t e k:Nat}{i:TypeInfo}{a:Option Addr}{n c l h m:Nat}(ht:P.underlying t=some (.slice e))(hi:P.info? e=some i)(hk:i.size=k)(h1:l<=h)(o:h<=m)(B:m<=c)(w:World) :
  (Instr.sliceAt t (.slice a n c) (some (.int .i64 l)) (some (.int .i64 h)) (some (.int .i64 m))).run P w=.ok (sliced a l h m k) w:=by
 have j:P.elem t=e:=by simp[Program.elem,ht]
 rw[me _ _ _ _ _ _ (by rw[j];exact ht),run_slice_lhm _ _ _ _ _ (by rw[j];exact ht) _ _ _ _ _ _ (by omega) (by omega) (by omega) (by omega),j];simp[sizeOf,typeInfo,hi,hk]
def jD(i:Value)(k:Nat):Value:=match i with
 |.slice a n _=>sliced a (32*k) (min (32*k+32) n) (min (32*k+32) n) 1
 |_=>undef
theorem fT{o:Value}{l:List Int}{k:Nat}(h:BB S 1 Bo W o l)(hk:32*k<l.length):BB S 1 Bo W (jD o k) ((l.drop (32*k)).take 32):=by
 obtain⟨a,c,rfl,h1,J,B⟩:=h;have i:((l.drop (32*k)).take 32).length=min (32*k+32) l.length-32*k:=by rw[Mp,K8];omega
 refine⟨_,_,by rw[i];rfl,by rw[i];omega,by omega,fun m x j=>?_⟩;rw[lQ] at j;split at j
 .rw[lL] at j;obtain⟨p,r,rfl,E,hr,hc,I⟩:=B _ x j;rw[C3 (by omega)];refine⟨p.add (32*k*1),r,rfl,by rw[BO];exact E,hr,fun y u hu=>?_,I⟩;rw[Addr.add_add,<-mB,<-ku];exact hc y u hu
 .cases j
theorem ZJ{c1 c2:Nat}{l:List Int}(h1:Bx W c1 [fr])(O:Bx W c2 [.int .i64 32])(ho:BB S 1 Bo W fr l)(hl:l.length<=1099511627776) :
  K5 True prog 223 [.pointer (some ⟨c1,0,none⟩),.pointer (some ⟨c2,0,none⟩)] (fun k=>[jD fr k]) ((l.length+31)/32) (fun b=>b=c1\/b=c2) W:=by
 intro yl J Jx w1 hg h0 Q X J8 j;apply YW;obtain⟨a,c,rfl,q1,q2,q3⟩:=ho;have l1:=h1.lt (Ty _);have l2:=O.lt (Ty _);have ht:=underlying80;obtain⟨ti,hi,Y⟩:∃i,prog.info? 21=some i/\i.size=1:=⟨Tryz.t21,by kernel_rfl,by rfl⟩;refine Ab (fun vs B=>∃k:Nat,k<=(l.length+31)/32/\vs=[.int .i64 ((32*k:Nat):Int)]/\J k (fun _=>False) B) (fun vs _=>l.length+32-Ds vs 0) ⟨0,Nn _,rfl,h0⟩ ?_;rintro vs B ⟨k,hk,rfl,hJ⟩ _;rw[B0,Of];have cell:∀{Z:World} {k:Nat} {b:Nat} {v:Value},J k (fun _=>False) Z->(b=c1\/b=c2)->W.cell? ⟨b,0,none⟩=some v->Z.cell? ⟨b,0,none⟩=some v:=fun T hb hc=>by
  rw[<-hc];exact lO (J8 _ _ _ T _ (by rcases hb with rfl|rfl<;>omega) hb)
 refine AK (cell hJ (.inl rfl) (h1.cells 0 _ rfl)) ?_;rw[AP,Ap];refine AF (fun a6=>?_) fun a7=>?_;rotate_left
 .obtain rfl:k=(l.length+31)/32:=by omega
  exact⟨_,.inl hJ⟩
 have a1:32*k<l.length:=by omega
 have gd:Grow B B.drew:=Mod.drew _ _;have o:J k (fun _=>False) B.drew:=Q k _ _ _ _ hJ (gd.mono fun _ _ h=>h.elim) fun b hb=>hb.elim;refine Ai (fun _ _=>False) ?_;refine AY ⟨cell o (.inr rfl) (O.cells 0 _ rfl),fun _ _ e=>e⟩ ?_;refine AY ⟨cell o (.inl rfl) (h1.cells 0 _ rfl),fun _ _ e=>e⟩ ?_;refine Ag (Er ht hi Y (by omega) _) ⟨Mod.refl _ _,?_⟩;unfold sliced;rw[AP,HY];have e1:(if((l.length-32*k:Nat):Int)<(32:Int) then((l.length-32*k:Nat):Int) else(32:Int))=((min 32 (l.length-32*k):Nat):Int):=by split<;>omega
 rw[e1];refine AK (cell o (.inl rfl) (h1.cells 0 _ rfl)) ?_;refine CK (by omega) (CK (by omega) ?_);refine Ag (Q7 ht hi Y (by omega) (Lc _) (by omega) _) ?_;refine .inr ⟨yl,rfl,?_⟩;have U:=j k _ B.drew (by omega) o;have e2:32*k+min 32 (l.length-32*k)=min (32*k+32) l.length:=by omega
 rw[e2];refine Gm U ?_;rintro vv W3 ⟨a8,V,_,⟨rfl,E⟩|⟨rfl,Rq⟩⟩
 .rw[Ar];refine AV ?_;refine AK (cell E (.inr rfl) (O.cells 0 _ rfl)) ?_;rw[AR,wrap64 (by omega) (by omega)];refine⟨⟨k+1,by omega,?_,E⟩,?_⟩
  .congr 2
  .rw[DG,DG];omega
 .rw[Ar];exact As ⟨_,.inr Rq⟩
theorem YH{r:Int}(h:EK r):AB prog 226 [.int .i32 r] (fun v' w'=>v'=.bool true/\w'=w) w:=by
 apply aA;unfold EK at h;rw[DX];refine AF (fun _=>?_) fun e=>by omega
 rw[IJ];refine AF (fun _=>?_) fun e=>by omega
 rw[Ap];refine AF (fun _=>⟨rfl,rfl⟩) fun e=>?_;rw[BR];exact⟨by rw[kj (by omega)],rfl⟩
theorem aj{l:List Int}(h:BB S 1 Bo w v l)(hm:∀r∈l,EK r) :
  AB prog 224 [v,.func (.func 225) #[] #[]] (fun v' w'=>v'=.bool false/\w'=w) w:=by
 apply Sr;refine AA (K:=fun v' w'=>v'=.int .i64 (-1)/\w'=w) ?_ ?_
 .apply SR;obtain⟨a,c,rfl,o⟩:=h.shape;simp only[maxLen] at o;rw[AP];refine Ab (fun vs W=>∃i:Nat,i<=l.length/\vs=[.int .i64 i]/\W=w) (fun vs _=>l.length-Ds vs 0) ⟨0,Nn _,rfl,rfl⟩ ?_;rintro vs _ ⟨i,hi,rfl,rfl⟩ _;rename World=>w
  rw[B0,Of,Ap];refine AF (fun B=>?_) fun E=>⟨rfl,rfl⟩;have j:i<l.length:=by omega
  obtain⟨q,r,rfl,_,hr,hc,rfl⟩:=h.get j;refine AU j (AK (by have:=hc 0 _ rfl;exact this) ?_);refine Hx (by kernel_rfl) ?_;apply YM;refine AA (YH (hm _ (gC j))) ?_;rintro _ _ ⟨rfl,rfl⟩;rename World=>w
  rw[Ar];refine AV ?_;rw[AR,AO (by omega)];exact⟨⟨i+1,j,rfl,rfl⟩,by rw[DG,DG];omega⟩
 .rintro _ _ ⟨rfl,rfl⟩;rw[DX];exact⟨rfl,rfl⟩
theorem gR{l:List Int}(h:BB S 1 Bo w v l)(hl:l.length<=32)(hm:∀r∈l,EK r) :
  AB prog 149 [v] (fun v' w'=>v'=.tuple #[.agg (Ck.cells ⟨l,hl⟩).toArray,.int .i64 0]/\Grow w w') w:=by
 apply Y9;refine Bx.zero fun b2 w1 ax Z B2=>?_;have h1:=h.grow Z (by decide) fun _ _ h=>h;refine AA (aj h1 hm) ?_;rintro _ _ ⟨rfl,rfl⟩;rename World=>w1
 refine AV ?_;obtain⟨a,c,rfl,hx⟩:=h1.shape;rw[AP,BR];refine AF (fun e=>by omega) fun _=>?_;refine Bx.zero fun B E ay X B4=>?_;have C2:Bx E b2 Ck.nil.cells:=B2.grow X;have C4:Bx E B Ck.nil.cells:=B4;have l2:=C2.lt (by rw[Ck.len];omega);have l4:=C4.lt (by rw[Ck.len];omega);have z1:=Z.size;have z7:=X.size;have av:=B2.lt (by decide);have hu:=underlying80;have hs:(prog.info? 21).map (·.size)=some 1:=by kernel_rfl
 have h7:=h1.grow X (by decide) fun _ _ h=>h;rw[AG,AH];refine MY ?_;have fin:∀I,Bx I B (Iy Ck.nil.cells 0 (l.map (Value.int .i32)))->Mod (fun x=>x=B) E I->(AM 32 (.pointer (some ⟨B,0,none⟩)) fun a1=>BC a1 (.int .i64 (l.length:Int)) (fun J=>Af 33 (.pointer (some ⟨B,0,none⟩)) (fun a6 a7=>Ac 33 (.pointer (some ⟨b2,0,none⟩)) a6 (fun O=>Af 33 (.pointer (some ⟨b2,0,none⟩)) (fun Q a8=>(fun(v':Value) (w':World)=>v'=Value.tuple #[.agg (Ck.cells ⟨l,hl⟩).toArray,.int .i64 0]/\Grow w w') (Value.tuple #[Q,(.int .i64 0)]) a8) O) a7) J) I):=fun I D4 Y=>by
  rw[AG,AH];refine D4.st (q:=32) (by rw[LH,Ck.len];omega) rfl rfl fun J E4 T=>?_;rw[Ck.WK hl] at E4;refine E4.FZ (Ck.len _) ?_;refine((C2.mod Y fun e=>by omega).mod T fun e=>by omega).over (Ck.len _) (Ck.len _) (Ck.one _) fun O F2 ak=>?_;refine F2.FZ (Ck.len _) ⟨rfl,?_⟩;exact(((Z.trans X).next Y fun y hy e=>by omega).next T fun y hy e=>by omega).next ak fun y hy e=>by omega
 have U:(l.map (Value.int .i32)).length=min l.length 32:=by rw[Es];omega
 by_cases o:l=[]
 .have hn:=run_copy_none E 80 80 3 21 (some ⟨B,0,none⟩) a 32 32 l.length c hu hs (by rw[o];rfl);have al:Bx E B (Iy Ck.nil.cells 0 (l.map (Value.int .i32))):=by rw[o];exact C4
  have e0:(goInt 0:Value)=.int .i64 (l.length:Int):=by rw[o];rfl
  rw[e0] at hn;exact Ag hn (fin E al (Mod.refl _ _))
 .have V:0<l.length:=lT.2 o;obtain⟨p,r',rfl,_,_,_,_⟩:=h7.get (i:=0) V;refine C4.copy hu hs (us:=l.map (Value.int .i32)) U (.inr (by rw[Es,Ck.len];omega)) (fun j v hv=>?_) (PN _) fun I D4 Y=>?_
  .obtain⟨hj,rfl⟩:=Bp.1 hv;rw[Es] at hj;obtain⟨p',r2,ep,_,b0,an,rfl⟩:=h7.get hj;cases ep;have:=an 0 _ rfl;rw[lV];simpa using this
  .rw[Es];exact fin I D4 Y
def piece(rs:List Int)(k:Nat):Ck:=⟨(rs.drop (32*k)).take 32,by rw[Mp];omega⟩
def pieces(rs:List Int):List Ck:=(List.range ((rs.length+31)/32)).map (piece rs)
theorem Mc(rs:List Int):(pieces rs).length=(rs.length+31)/32:=by simp[pieces]
theorem Qx(rs:List Int){k:Nat}(h:k<(pieces rs).length):(pieces rs)[k]=piece rs k:=by simp[pieces]
theorem Q3(rs:List Int):Bf (pieces rs)=rs:=by
 have key:∀n,Bf ((List.range n).map (piece rs))=rs.take (32*n):=by
  intro n;induction n with
  |zero=>simp[Bf]
  |succ n i=>
   rw[List.range_succ,S7,Bf,lU];have j:List.flatMap Ck.l ((List.range n).map (piece rs))=rs.take (32*n):=i;rw[j];have o:List.flatMap Ck.l ([n].map (piece rs))=(rs.drop (32*n)).take 32:=by simp[piece]
   rw[o,show 32*(n+1)=32*n+32 by omega,List.take_add]
 rw[pieces,key,lN (by omega)]
theorem UN{b bt N i:Nat}{l:List Ck}(h:Dj A6.toAvT F GV W b bt l N)(hN:N<=100000000000)(hi:i<=(Bf l).length)(hs:(Bf l).length+rs.length<=536870912)(hv:BB S 1 Bo W v rs)(hm:∀r∈rs,EK r) :
  AB prog 77 [.pointer (some ⟨b,0,none⟩),.int .i64 (i:Int),v] (fun v' w'=>v'=.int .i64 0/\∃F' l',(∀x,F x->F' x)/\(∀x,F' x->F x\/W.heap.size<=x)/\Dj A6.toAvT F' GV w' b bt l' (N+(pieces rs).length+4)/\Bf l'=(Bf l).take i++rs++(Bf l).drop i/\Mod F W w') W:=by
 apply fo;have hF:=h.lt;refine Bx.zero fun c6 w1 cv g1 B6=>?_;refine DS (AV ?_);refine Bx.zero fun Q w4 cx g4 B7=>?_;have l6:=B6.lt (by decide);have l7:=B7.lt (by decide);have z1:=g1.size;have z4:=g4.size;have b7:=hv.GQ (by decide);refine AA (K:=fun v' w'=>∃Z d2,v'=.func (.func 223) #[] #[.pointer (some ⟨Z,0,none⟩),.pointer (some ⟨d2,0,none⟩)]/\w4.heap.size<=Z/\w4.heap.size<=d2/\Bx w' Z [v]/\Bx w' d2 [.int .i64 32]/\Grow w4 w') ?_ ?_
 .apply aZ;obtain⟨a,c,rfl,o⟩:=hv.shape;refine GN rfl fun Z B b8 g5 D1=>?_;refine GN rfl fun d2 w6 ba g6 D2=>?_;have z5:=g5.size;refine AK (D2.cells 0 _ rfl) ?_;rw[Ap];refine AF (fun e=>by omega) fun _=>?_;exact⟨Z,d2,rfl,by omega,by omega,D1.grow g6,D2,g5.trans g6⟩
 rintro _ B ⟨Z,d2,rfl,b8,ba,D1,D2,g5⟩;have z5:=g5.size;have a1:=(g1.trans g4).trans g5;have av:=b7.grow a1 (by decide) fun _ _ h=>h;have dk:=D1.lt (Ty _);have dv:=D2.lt (Ty _);have C7:=B7.grow g5;have bb:=Mc rs;refine⟨True,_,[.pointer (some ⟨Z,0,none⟩),.pointer (some ⟨d2,0,none⟩)],_,_,_,rfl,by kernel_rfl,ZJ D1 D2 av (by omega),fun k _=>rfl,?_⟩;refine⟨fun k T W'=>∃out,aI 162 33 (fun _ r x=>r=Ck.cells x) B.heap.size Q B.heap.size T W' out ((pieces rs).take k)/\Mod (fun x=>x=Q) B W'/\k<=(pieces rs).length,fun _ _ _=>False,⟨_,⟨C7,AE.nil,fun g J=>nomatch J⟩,Mod.refl _ _,Nn _⟩,?_,fun x T bc W W' h=>h.elim,?_,?_,?_,fun x T W h=>h.elim⟩
 .rintro k T bc W' dT ⟨out,q,m,hk⟩ hm I;have hn:∀x,x<B.heap.size->¬((¬True/\T x)\/x=B.heap.size\/x=B.heap.size+1):=fun x o=>by rintro(⟨h,_⟩|h|h);exact h trivial;all_goals omega
  refine⟨out,⟨q.box.mod hm (hn Q (by omega)),AE.mod q.row hm (fun g J=>?_) fun _ _ _ h=>h,fun g J=>?_⟩,m.next hm fun x o=>?_,hk⟩
  .obtain⟨_,h2,h3,_⟩:=q.hc g J;rintro(⟨h,_⟩|h|h)
   .exact h trivial
   .exact h2 h
   .exact h3 h
  .obtain⟨h1,h2,h3,h4⟩:=q.hc g J;refine⟨h1,h2,h3,fun h=>?_⟩;rcases(I g h).1 with h|h
   .exact h4 h
   .have:=(AE.BA q.row g J).2;omega
  .intro e;exact absurd e (hn x o)
 .rintro k T W' ⟨out,q,m,hk⟩ b hb hr;exact m.same b hb fun e=>by rcases hr with hr|hr<;>omega
 .rintro k T W' hk ⟨out,q,m,e1⟩ hz I;have ax:32*k<rs.length:=by omega
  have U:k<(pieces rs).length:=by omega
  refine Lz (Mod.refl (fun _=>False) _) hz I (fun _ _ h=>h.elim) fun W6 O=>?_;have e2:=O.size;have cn:=q.box.lt (Ty _);have C6:=q.box.mod O (by omega);have o6:AE B.heap.size 162 33 (fun _ r x=>r=Ck.cells x) W6 out ((pieces rs).take k):=AE.mod q.row O (fun g J=>(q.hc g J).2.2.1) fun _ _ _ h=>h;have ay:BB (fun b=>S b/\b<W.heap.size) 1 Bo W' v rs:=BB.mono av (fun _ _ h=>h) (fun b hb hS=>m.same b hb fun e=>by have:=hS.2;omega) (by decide) fun _ _ h=>h;have bd:BB (fun b=>S b/\b<W.heap.size) 1 Bo W6 v rs:=BB.mono ay (fun _ _ h=>h) (fun b hb hS=>O.same b hb fun e=>by have:=hS.2;omega) (by decide) fun _ _ h=>h;refine AA (gR (fT bd ax) (piece rs k).le fun r hr=>hm r (kP (kO hr))) ?_;rintro _ w8 ⟨rfl,g8⟩;refine BV ?_;have z8:=g8.size;show Am _ _ (fun t9 w9=>Ac 33 t9 (.agg (piece rs k).cells.toArray) _ w9) w8;refine Bx.new (vs:=(piece rs k).cells) (Ck.len _) rfl (Ck.one _) fun b9 W9 e3 g9 B9=>?_;have z9:=g9.size;refine Qn ?_;have C9:=(C6.grow g8).grow g9;have o9:AE B.heap.size 162 33 (fun _ r x=>r=Ck.cells x) W9 out ((pieces rs).take k):=AE.mod (AE.mod (R':=fun _ r x=>r=Ck.cells x) o6 g8 (fun _ _ h=>h) fun _ _ _ h=>h) g9 (fun _ _ h=>h) fun _ _ _ h=>h;have bk:=B9.lt (by rw[Ck.len];omega);refine AK (C9.cells 0 _ rfl) ?_;refine B9.FZ (Ck.len _) ?_;have e4:((pieces rs).take k).length<=rs.length:=by rw[Mp];omega
  refine Dr A6.elE o9 (by omega) (cs:=(piece rs k).cells) (x:=piece rs k) (DW (v:=.agg (piece rs k).cells.toArray) rfl (by decide) rfl (Ck.len _)) (Ck.len _) rfl (fun _ _ _ h=>by subst h;exact Ck.one _) (fun _ _ _ _ _ _ h=>h) (by show _*136<=_;omega) (by simp only[maxLen];omega) fun b0 e5 b3 a6 b4=>?_;have e6:=a6.size;have e7:=AE.BA o9;have bl:=C9.mod a6 fun e=>(q.hc Q e).1 rfl;obtain⟨bn,bp⟩:=b3.one;refine bl.st (q:=0) (show 0<1 by decide) bn bp fun bs bx a7=>?_;have e8:=a7.size;have V:Mod (fun x=>x=Q\/out.ownBlock=some x) W6 bs:=(((g8.trans g9).mono fun _ _ h=>h.elim).trans (a6.mono fun _ _ e=>.inr e)).trans (a7.mono fun _ _ e=>.inl e);refine⟨Pd V (by omega) (fun b hb=>by have:=(I b hb).1;omega) (fun b _ e=>?_),b0,⟨bx,?_,fun g J=>?_⟩,?_,by omega⟩
  .rcases e with rfl|e
   .exact⟨fun h=>by have:=(I b h).2;omega,by omega,by omega⟩
   .obtain⟨h1,h2,h3,h4⟩:=q.hc b e;exact⟨h4,h2,h3⟩
  .have c4:(pieces rs).take (k+1)=(pieces rs).take k++[piece rs k]:=by rw[No,By U,Qx rs U];rfl
   rw [c4];exact AE.mod b3 a7 (fun g J e=>by
    rcases b4 g J with h|h
    .exact(q.hc g h).1 e
    .omega) fun _ _ _ h=>h
  .rcases b4 g J with h|h
   .exact q.hc g h
   .refine⟨by omega,by omega,by omega,fun hI=>by have:=(I g hI).1;omega⟩
  .refine(m.next O fun x o e=>by omega).next V fun x o e=>?_;rcases e with e|e
   .exact e
   .have:=(AE.BA q.row x e).1;omega
 .rintro T W' ⟨out,q,m,hk⟩ _ hz hd;rw[<-bb,Nr] at q;have gW:Mod (fun x=>x=Q) B W':=m;have X:¬F Q:=fun e=>by have:=hF Q (.inl e);omega
  have h5:Dj A6.toAvT F GV W' b bt l N:=(h.grow a1).mod m fun x o e=>by
   rcases o with o|o
   .exact X (e▸o)
   .exact o
  have zW:=m.size;refine AA (Jg El h5) ?_;rintro _ e9 ⟨rfl,b5⟩;rw[show Tr.sz A6.toAvT.k.μ l=(Bf l).length from Gx l,JQ (Lc _) hi,Bm];refine AW (fun _=>?_) fun e=>(e rfl).elim;obtain⟨a,c,rfl,o⟩:=hv.shape;rw[AP];refine AA (XJ (h5.grow b5)) ?_;rintro _ a8 ⟨rfl,c8⟩;rw[Av,wrap64 (by omega) (by omega),BR];refine AF (fun e=>by omega) fun _=>?_;have gd:Grow a8 a8.drew:=Mod.drew _ _;have E:=(b5.trans c8).trans gd;have hO:=h5.grow E;have q2:=q.box.grow E;have o2:AE B.heap.size 162 33 (fun _ r x=>r=Ck.cells x) a8.drew out (pieces rs):=AE.mod q.row E (fun _ _ h=>h) fun _ _ _ h=>h;have zd:=E.size;refine Ai (fun k y=>k=5/\F y) ?_;refine AA (EO El hO) ?_;rintro _ ea ⟨rfl,c9⟩;subst c9;refine⟨Mod.refl _ _,AY ⟨q2.cells 0 _ rfl,fun j hj e=>X e.2⟩ ?_⟩;have er:=PM l (pieces rs) (Lc i);have ep:=NR l (pieces rs) i i;rw[Q3] at er ep;have ca:(Bf (Ck.kd.Bw l i i (pieces rs))).length<=1099511627776:=by rw[er];simp only[Bq,Mp,K8];omega
  refine AA (Ix (Xl (g:=A6)) (L:=pieces rs) hO (by omega) o2.sl (fun x o cc=>by have:=hF x (.inl cc);have:=o.1;omega) (Lc i) (by omega) (My (by omega)) (My (l:=Ck.kd.Bw l i i (pieces rs)) ca) (My (l:=(Ck.kd.split l i).1.getLast?.toList++pieces rs++(Ck.kd.split (Ck.kd.split l i).2 (i-i)).2.head?.toList) (by omega))) ?_;rintro _ cd ⟨F',k1,k2,k3,k4⟩;refine⟨k4.mono fun _ _ e=>⟨rfl,e⟩,?_⟩;have ec:=k4.size;have Y:¬F c6:=fun e=>by have:=hF c6 (.inl e);omega
  have D6:Bx cd c6 [.int .i64 0]:=((((B6.grow g4).grow g5).mod m (by omega)).grow E).mod k4 Y;refine D6.st (q:=0) (show 0<1 by decide) rfl rfl fun b6 E6 ak=>?_;have al:¬F' c6:=fun e=>by
   rcases k2 c6 e with h|h
   .exact Y h
   .omega
  have ch:∀x,B.heap.size<=x->x<B.heap.size+1->¬F' x:=fun x o ed e=>by
   rcases k2 x e with h|h
   .have:=hF x (.inl h);omega
   .omega
  refine⟨?_,?_⟩
  .rw[ak.same _ (by omega) (by omega),k4.same _ (by omega) fun e=>by have:=hF _ (.inl e);omega,E.same _ (by omega) fun h=>h];exact hd
  have an:Mod (fun b=>b=B.heap.size) b6 (b6.putObj B.heap.size (.deferred none)):=Mod.putObj _ _ _ rfl;refine AK ((E6.mod an (by omega)).cells 0 _ rfl) ⟨rfl,F',_,k1,fun x o=>(k2 x o).imp (fun h=>h) fun h=>by omega,((k3.mod ak fun x o e=>by
    rcases o with o|o
    .exact al (e▸o)
    .exact o).mod an fun x o e=>by
    rcases o with o|o
    .exact ch x (by omega) (by omega) o
    .exact o),er,?_⟩
  exact((((a1.next m fun x o e=>by omega).trans E).mono fun _ _ h=>h.elim).trans k4 |>.next ak fun x o e=>by omega).next an fun x o e=>by omega
def LK:Kd Nat where
 μ:=fun _=>(1,0)
 cut:=fun x _=>(x,x)
 meld:=fun _ _=>none
theorem Lg(q:Nat)(l:List Nat)(i j:Nat):LK.over (q::l) i j=(if i<min j 1 then[q] else[])++LK.over l (i-1) (j-1):=by
 have e:∀p,LK.part q i p=q:=fun p=>by unfold Kd.part LK;simp only;split<;>split<;>rfl
 simp only[Kd.over,e];rfl
def Sf(W:World)(b E i:Nat):Value:=match W.cell? ⟨b,3,none⟩ with
 |some (.pointer (some c))=>match W.cell? c with
  |some (.slice (some p) _ _)=>(W.cell? (p.add (i*(E+6)))).getD undef
  |_=>undef
 |_=>undef
section
variable {α:Type}{g:AvT α}
theorem RB{b i:Nat}{A:ArS α}{n:Nd α}(h:Dl g F C W b most A)(hi:A.f i=some n) :
  ∃(c:Nat) (p:Addr) (m k:Nat),W.cell? ⟨b,3,none⟩=some (.pointer (some ⟨c,0,none⟩))/\W.cell? ⟨c,0,none⟩=some (.slice (some p) m k)/\F b/\F c/\F p.block/\(∃r,g.R C W r n.x/\∀j u,(r++(BY n++[.bool true]))[j]?=some u->W.cell? (p.add (i*(g.E+6)+j))=some u):=by
 obtain⟨c,pl,fr,B⟩:=h;obtain⟨Q,hp⟩:=ArS.Ir hi;have S:=(Bp.1 hp).2;obtain⟨X,Y,I,_⟩:=B.ar.GR.sl.shape;have J:=B.ar.GR.sl;rw[I] at J;obtain⟨q,r,rfl,U,hr,hc,O⟩:=J.get Q;rw[S] at O;obtain⟨x,rfl,V⟩:=O;have o:=B.ar.cells 0 pl rfl;rw[I] at o;exact⟨c,q,_,_,B.box.cells 3 _ rfl,o,B.fb.1,B.ar.fc.1,(B.ar.pF q.block (by rw[I];exact U.2)).1.1,x,V,hc⟩
theorem dY{b i:Nat}{o:Int}{A:ArS α}{n:Nd α}(h:Dl g F C w b o A)(hi:A.f i=some n)(j:∀x,F x\/C x->W.heap[x]?=w.heap[x]?):Sf W b g.E i=Sf w b g.E i:=by
 obtain⟨c,p,m,k,h1,B,I,J,O,_⟩:=RB h hi;have Q:W.cell? ⟨b,3,none⟩=w.cell? ⟨b,3,none⟩:=lO (j b (.inl I));have S:W.cell? ⟨c,0,none⟩=w.cell? ⟨c,0,none⟩:=lO (j c (.inl J));have T:W.cell? (p.add (i*(g.E+6)))=w.cell? (p.add (i*(g.E+6))):=lO (by rw[BO];exact j _ (.inl O));simp only[Sf,Q,h1,S,B,T]
end
section
variable {α:Type}{g:Av1 α}
theorem Zk{b i:Nat}{A:ArS α}{n:Nd α}{K:Value->World->Prop}(h:Dl g.toAvT F C W b most A)(hi:A.f i=some n)
 (hK:∀r Q w',Grow W w'->W.heap.size<=Q->Bx w' Q (r++BY n)->g.R C w' r n.x->r=[Sf W b g.E i]->K (.pointer (some ⟨Q,0,none⟩)) w') :
  AB prog g.fat [.pointer (some ⟨b,0,none⟩),.int .i64 i] (fun S Z=>Am g.tn g.toAvK.zN (fun t7 w2=>Ac (g.E+5) t7 S (fun w3=>K t7 w3) w2) Z) W:=by
 have key:AB prog g.fat [.pointer (some ⟨b,0,none⟩),.int .i64 i] (fun v' w'=>∃r,v'=.agg (r++BY n).toArray/\g.R C w' r n.x/\Grow W w'/\r=[Sf W b g.E i]) W:=by
  apply g.ok.at_;unfold iq;refine Bx.zero fun b4 Z a1 B B4=>?_;obtain⟨c,pl,fr,j⟩:=h;have I:=j.mod B fun _ _ h=>h;refine AI ?_;refine Bt (I.box.cells 3 _ rfl) ?_;refine AA (SJ I.ar hi) ?_;rintro _ w2 ⟨r,rfl,hr,g2,p,m,k,J,o⟩;refine BV ?_;have hl:=BI n hr;have ho:=Hb n hr;refine Bx.new hl IB ho fun b5 w3 a6 T B5=>?_;refine B5.FZ hl ?_;have U:=(B4.grow g2).grow T;refine U.over hl (IB) ho fun w4 O m4=>?_;refine O.FZ hl ?_;have V:Grow W w4:=((B.trans g2).trans T).next m4 fun y hy e=>by omega
  refine⟨r,rfl,g.BZ (g.BZ hr T fun _ _ _ h=>h) m4 fun y _ hy e=>by have:=j.ar.lt y (.inr hy);omega,V,?_⟩;have er:=WR hr;generalize g.toAvK.enc r=a at er;subst er;have e1:=j.box.cells 3 _ rfl;have X:=j.ar.cells 0 pl rfl;rw[J] at X;have e3:=o a rfl;obtain⟨c',p',m',k',q1,q2,f1,f2,f3,_⟩:=RB (g:=g.toAvT) ⟨c,pl,fr,j⟩ hi;rw[e1] at q1;cases q1;rw[X] at q2;cases q2;have e4:W.cell? (p.add (i*(g.E+6)))=some a:=by
   have Y:p.block<W.heap.size:=j.ar.lt _ (.inl (j.ar.pF _ (by rw[J];rfl)).1);rw[<-e3];exact(lO (by rw[BO];exact B.same _ Y fun h=>h)).symm
  simp only[Sf,e1,X,e4];rfl
 refine AA key ?_;rintro _ w4 ⟨r,rfl,hr,B,hv⟩;refine Bx.new (BI n hr) IB (Hb n hr) fun b7 w5 a7 g7 B7=>?_;exact hK r b7 w5 (B.trans g7) (by have:=B.size;omega) B7 (g.BZ hr g7 fun _ _ _ h=>h) hv
theorem dy(t:Tr α):Tr.sz LK.μ t.idx=Tr.sz g.k.μ t.toL:=by
 induction t with
 |nil=>rfl
 |node l i x r h1 j=>rw[Tr.idx,Tr.toL,Tr.CT,Tr.CT,Tr.Ba,Tr.Ba,h1,j,g.μ1];rfl
set_option maxRecDepth 4000 in
theorem Tj{b l N:Nat}{A:ArS α}{J:Nat->(Nat->Prop)->World->Prop}{Jx:(Nat->Prop)->World->Prop}{U:Nat->List Value}(hw:Dl g.toAvT F C w b most A)(hs:A.ps.length<=109951162777)(H:PD prog l J Jx w (fun x=>F x\/C x) U N) :
  ∀(t:Tr α) (i j V:Nat) (O:Nat->Prop) (W:World),Tr.Holds g.k.μ A.f t->EA g.toAvT t.toL->i<=1099511627776->j<=1099511627776->J V O W->w.heap.size<=W.heap.size->(∀x,O x->x<W.heap.size)->V+(LK.over t.idx i j).length<=N->(∀m (hm:m<(LK.over t.idx i j).length),U (V+m)=[Sf w b g.E (LK.over t.idx i j)[m]])->
   AB prog g.fover [.pointer (some ⟨b,0,none⟩),.int .i64 t.root,.int .i64 (i:Int),.int .i64 (j:Int),.func (.yield l) #[] #[]] (Px J Jx (V+(LK.over t.idx i j).length) O W) W:=by
 intro t;induction t with
 |nil=>
  intro i j V O W _ _ _ _ hJ hz al _ _;apply g.ok1.over;unfold Rp;simp only[Tr.root];refine AT (fun _ _=>False) (fun _ _ h=>h.elim) ?_;rw[Al];refine AF (fun _=>?_) fun e=>(e rfl).elim;exact⟨Lc _,fun _ _=>rfl,⟨rfl,rfl,rfl⟩,O,fun _ h=>h,al,.inl ⟨rfl,hJ⟩⟩
 |node lt q x a7 dT e4=>
  intro i j V O W hh hb hi hj hJ hz al hN Q;obtain⟨hl,hr,hq⟩:=id hh;have eL:(Tr.node lt q x a7).toL=lt.toL++x::a7.toL:=rfl;have eI:(Tr.node lt q x a7).idx=lt.idx++q::a7.idx:=rfl;rw[eL] at hb;rw[eI] at hN Q ⊢;have bx:(g.k.μ x).1=1:=by rw[g.μ1]
  have c4:Tr.sz LK.μ lt.idx=Tr.sz g.k.μ lt.toL:=dy lt;have e5:=hb.1;simp only[Tr.CT,Tr.Ba] at e5;rw[LK.Qd,c4] at hN Q ⊢;apply g.ok1.over;unfold Rp;simp only[Tr.root];refine AT (fun _ W'=>W'=W/\i<j) ?_ ?_;rotate_left
  .rw[Al];refine AF (fun e=>by omega) fun _=>?_;rw[DX];refine AF (fun e=>?_) fun e=>⟨rfl,by omega⟩;rw[LK.Ed _ (by omega:j<=i),LK.Ed _ (by omega:j-Tr.sz g.k.μ lt.toL<=i-Tr.sz g.k.μ lt.toL)];exact⟨Lc _,fun _ _=>rfl,⟨rfl,rfl,rfl⟩,O,fun _ h=>h,al,.inl ⟨rfl,hJ⟩⟩
  rintro _ W' ⟨rfl,ec⟩ _;rename World=>W
  have EH:∀{k O W'},J k O W'->w.heap.size<=W'.heap.size->Dl g.toAvT F C W' b most A:=fun{k O W'} h1 h2=>hw.heap (fun y o=>H.J8 k O W' h1 y (hw.lt y o) o) h2;refine Zk (EH hJ hz) hq fun rc S w4 g4 e9 B b6 c6=>?_;have b0:=g.rlen b6;rw[dY hw hq fun y o=>H.J8 V O W hJ y (hw.lt y o) o] at c6;have e6:=(EH hJ hz).grow g4;refine Bt (B.cells (g.E+0) _ (by rw[AZ b0];rfl)) ?_;refine AA (CB e6 hl) ?_;rintro _ w6 ⟨rfl,g6⟩;refine Kh ?_;have b7:Grow w6 w6.drew:=Mod.drew _ _;have c7:=(g4.trans g6).trans b7;obtain⟨c,pl,fr,hT⟩:=(EH hJ hz).grow c7;have B6:=(B.grow g6).grow b7;refine Ai (fun _ _=>False) ?_;refine AI ?_;rw[AG,AH,AG,AH];refine AY ⟨hT.box.cells 0 _ rfl,fun _ _ e=>e⟩ ?_;rw[AG,AH];refine JI (g:=g.toAvT) (r:=rc) b0 (fun j v hv=>⟨B6.cells j v (by rw[Q0 (Bp.1 hv).1];exact hv),fun _ _ e=>e⟩) ?_;refine Az (g.meas (C:=C) (x:=x) (g.BZ b6 (g6.trans b7) fun _ _ _ h=>h)) ?_;rintro _ w7 ⟨rfl,g7⟩;refine⟨g7.mono fun _ _ h=>h.elim,?_⟩;refine BV ?_;have a8:=c7.trans g7;have B7:=B6.grow g7;have dv:=B7.lt (by rw[BI _ b6];omega);have ed:=a8.size;have an:∀y,(O y\/y=S)->(O y\/W.heap.size<=y)/\y<w7.heap.size:=fun y o=>by
   rcases o with o|o
   .have:=al y o;exact⟨.inl o,by omega⟩
   .exact⟨.inr (by omega),by omega⟩
  have c8:=H.hJ V O (fun y=>O y\/y=S) W w7 hJ a8 an;have e7:∀y,O y->w7.heap[y]?=W.heap[y]?:=fun y o=>a8.same y (al y o) fun h=>h;obtain⟨Y,b8⟩:∃X,X=LK.over lt.idx i j:=⟨_,rfl⟩;obtain⟨i',b9⟩:∃i',i'=i-Tr.sz g.k.μ lt.toL:=⟨_,rfl⟩;obtain⟨j',b3⟩:∃j',j'=j-Tr.sz g.k.μ lt.toL:=⟨_,rfl⟩;obtain⟨X2,ba⟩:∃X,X=(if i'<min j' (g.k.μ x).1 then[q] else[]):=⟨_,rfl⟩;obtain⟨X3,ak⟩:∃X,X=LK.over a7.idx (i'-(g.k.μ x).1) (j'-(g.k.μ x).1):=⟨_,rfl⟩;have eX:LK.over lt.idx i j++LK.over (q::a7.idx) (i-Tr.sz g.k.μ lt.toL) (j-Tr.sz g.k.μ lt.toL)=Y++(X2++X3):=by rw[b8,ba,ak,b9,b3,bx,Lg]
  rw[eX] at hN Q ⊢;simp only[Bq] at hN;have bb:∀m (hm:m<Y.length),U (V+m)=[Sf w b g.E Y[m]]:=fun m hm=>by
   rw[Q m (by simp;omega)];simp[mK hm]
  have bc:∀m (hm:m<X2.length),U (V+Y.length+m)=[Sf w b g.E X2[m]]:=fun m hm=>by
   have:=Q (Y.length+m) (by simp;omega);rw[mB,this];simp[ln,mK hm]
  have bd:∀m (hm:m<X3.length),U (V+Y.length+X2.length+m)=[Sf w b g.E X3[m]]:=fun m hm=>by
   have:=Q (Y.length+(X2.length+m)) (by simp;omega);rw[show V+Y.length+X2.length+m=V+(Y.length+(X2.length+m)) by omega,this];simp[ln]
  let St:Nat->World->Prop:=fun k W'=>∃I,(∀y,O y->I y)/\I S/\(∀y,I y->y<W'.heap.size)/\J k I W'/\(w7.heap.size<=W'.heap.size/\Quiet w7 W')/\(∀y,O y\/y=S->W'.heap[y]?=w7.heap[y]?)
  have done:∀{k W'} (v:Value) (I:Nat->Prop),(∀y,O y->I y)->(∀y,I y->y<W'.heap.size)->w7.heap.size<=W'.heap.size/\Quiet w7 W'->(∀y,O y->W'.heap[y]?=w7.heap[y]?)->((v=.bool true/\J k I W')\/(v=.bool false/\Jx I W'))->Px J Jx k O W v W':=fun v I h1 h2 h3 h4 h5=>
   ⟨by omega,fun y o=>(h4 y o).trans (e7 y o),Quiet.trans ⟨a8.os,a8.tape,a8.output⟩ h3.2,I,h1,h2,h5⟩
  refine AT (fun _ W'=>St (V+Y.length) W') ?_ ?_;rotate_left
  .refine H6 (fun c9=>?_) fun ca=>?_
   .refine Bt (B7.cells (g.E+0) _ (by rw[AZ b0];rfl)) ?_;rw[HY];have em:(if((Tr.sz g.k.μ lt.toL:Nat):Int)<(j:Int) then((Tr.sz g.k.μ lt.toL:Nat):Int) else(j:Int))=((min j (Tr.sz g.k.μ lt.toL):Nat):Int):=by split<;>omega
    rw[em];have a6:LK.over lt.idx i (min j (Tr.sz g.k.μ lt.toL))=Y:=by rw[b8,<-c4,LK.MM]
    refine AA (dT i (min j (Tr.sz g.k.μ lt.toL)) V (fun y=>O y\/y=S) w7 hl hb.app.1 hi (by omega) c8 (by omega) (fun y o=>(an y o).2) (by rw[a6];omega) (fun m hm=>?_)) ?_
    .have bk:m<Y.length:=by rw[<-a6];exact hm
     rw[bb m bk];simp only[a6]
    rw[a6];rintro v W2 ⟨z1,z2,zq,I,q1,q2,q3⟩;rcases q3 with⟨rfl,bl⟩|⟨rfl,bl⟩
    .rw[Ar];exact AV ⟨I,fun y o=>q1 y (.inl o),q1 S (.inr rfl),q2,bl,⟨z1,zq⟩,z2⟩
    .rw[Ar];exact As (done (.bool false) I (fun y o=>q1 y (.inl o)) q2 ⟨z1,zq⟩ (fun y o=>z2 y (.inl o)) (.inr ⟨rfl,bl⟩))
   .have e0:Y=[]:=by rw[b8];exact NX LK lt.idx j (by omega)
    rw[e0];exact⟨fun y=>O y\/y=S,fun y o=>.inl o,.inr rfl,fun y o=>(an y o).2,c8,⟨Lc _,rfl,rfl,rfl⟩,fun _ _=>rfl⟩
  rintro _ W8 ⟨av,a1,a2,a3,cc,z8,T⟩ _;have B8:=B7.heap (T S (.inr rfl));rw[Av,wrap64 (by omega) (by omega),G1];have e8:(if(0:Int)>(i:Int)-((Tr.sz g.k.μ lt.toL:Nat):Int) then(0:Int) else(i:Int)-((Tr.sz g.k.μ lt.toL:Nat):Int))=(i':Int):=by rw[b9];split<;>omega
  rw[e8,Av,wrap64 (by omega) (by omega),HY];obtain⟨to,bn⟩:∃to:Int,to=(if(((g.k.μ x).1:Nat):Int)<(j:Int)-((Tr.sz g.k.μ lt.toL:Nat):Int) then(((g.k.μ x).1:Nat):Int) else(j:Int)-((Tr.sz g.k.μ lt.toL:Nat):Int)):=⟨_,rfl⟩;rw[<-bn];have b4:(i':Int)<to↔i'<min j' (g.k.μ x).1:=by rw[bn,b3];split<;>omega
  have cd:i'<min j' (g.k.μ x).1->to=((min j' (g.k.μ x).1:Nat):Int):=fun h=>by rw[bn,b3];split<;>omega
  refine AT (fun _ W'=>St (V+Y.length+X2.length) W') ?_ ?_
  .rintro _ W9 ⟨ch,c1,c2,c3,cn,z9,Z⟩ _;refine CK (by omega) ?_;rw[IJ];refine AF (fun ee=>?_) fun ef=>?_
   .have e3:X3=[]:=by rw[ak];exact LK.Ed _ (by omega)
    rw[e3];simp only[kG,Bq];exact done (.bool true) ch c1 c3 z9 (fun y o=>Z y (.inl o)) (.inl ⟨rfl,by rw[<-mB];exact cn⟩)
   .have B9:=B7.heap (Z S (.inr rfl));refine Bt (B9.cells (g.E+1) _ (by rw[AZ b0];rfl)) ?_;rw[Av,wrap64 (by omega) (by omega),Av,wrap64 (by omega) (by omega),G1];have e1:(if(0:Int)>(i:Int)-((Tr.sz g.k.μ lt.toL:Nat):Int)-(((g.k.μ x).1:Nat):Int) then(0:Int) else(i:Int)-((Tr.sz g.k.μ lt.toL:Nat):Int)-(((g.k.μ x).1:Nat):Int))=((i'-(g.k.μ x).1:Nat):Int):=by rw[b9];split<;>omega
    rw[e1,Av,wrap64 (by omega) (by omega),Av,wrap64 (by omega) (by omega)];have e2:(j:Int)-((Tr.sz g.k.μ lt.toL:Nat):Int)-(((g.k.μ x).1:Nat):Int)=((j'-(g.k.μ x).1:Nat):Int):=by rw[b3];omega
    rw[e2];refine AA (e4 (i'-(g.k.μ x).1) (j'-(g.k.μ x).1) (V+Y.length+X2.length) ch W9 hr hb.app.2.cons.1 (by omega) (by omega) cn (by omega) c3 (by rw[<-ak];omega) (fun m hm=>?_)) ?_
    .have bk:m<X3.length:=by rw[ak];exact hm
     rw[bd m bk];simp only[ak]
    rw[<-ak];rintro v W2 ⟨u1,u2,uq,I,q1,q2,q3⟩;refine done v I (fun y o=>q1 y (c1 y o)) q2 ⟨by omega,z9.2.trans uq⟩ (fun y o=>(u2 y (c1 y o)).trans (Z y (.inl o))) ?_;simp only[Bq];rwa [<-mB,<-mB]
  .refine H6 (fun c9=>?_) fun ca=>?_;rotate_left
   .have e2:X2=[]:=by rw[ba,C3 fun e=>ca (b4.2 e)]
    rw[e2];exact⟨av,a1,a2,a3,cc,z8,T⟩
   have b5:=b4.1 c9;have eh:=cd b5;have e2:X2=[q]:=by rw[ba,Io b5]
   have ej:i'=0:=by omega
   have ea:to=1:=by omega
   rw[c6] at B8;refine Bt (B8.cells 0 _ rfl) ?_;refine AT (fun vs W'=>vs=[Sf w b g.E q]/\W'=W8) ?_ ?_;rotate_left
   .rw[Ap];exact AF (fun e=>by omega) fun _=>⟨rfl,rfl⟩
   rintro _ _ ⟨rfl,rfl⟩ _;rename World=>W8
   refine AT (fun vs W'=>vs=[Sf w b g.E q]/\W'=W8) ?_ ?_;rotate_left
   .rw[BR];exact AF (fun e=>by omega) fun _=>⟨rfl,rfl⟩
   rintro _ bp ⟨rfl,rfl⟩ _;rename World=>bp
   simp only[B0,Of];have ek:=z8.1;refine .inr ⟨l,rfl,?_⟩;have cv:X2.length=1:=by rw[e2];rfl
   have ax:=bc 0 (by omega);simp only[kg,e2,qG] at ax;rw[<-ax];refine Gm (H.fz _ av bp (by omega) cc) ?_;rintro v cx ⟨y1,y2,yq,y3⟩;have ay:∀y,av y->cx.heap[y]?=bp.heap[y]?:=fun y o=>y2 y o;have dk:Quiet w7 cx:=z8.2.trans yq;rcases y3 with⟨rfl,bs⟩|⟨rfl,bs⟩
   .rw[Ar];refine AV ⟨av,a1,a2,fun y o=>by have:=a3 y o;omega,by rw[cv];exact bs,⟨by omega,dk⟩,fun y o=>?_⟩;exact(ay y (by rcases o with o|rfl;exact a1 y o;exact a2)).trans (T y o)
   .rw[Ar];exact As (done (.bool false) av a1 (fun y o=>by have:=a3 y o;omega) ⟨by omega,dk⟩ (fun y o=>(ay y (a1 y o)).trans (T y (.inl o))) (.inr ⟨rfl,bs⟩))
def TV:Tr α->List (Nat×α)
 |.nil=>[]
 |.node l i x r=>TV l++(i,x)::TV r
theorem Y6(t:Tr α):(TV t).map (·.1)=t.idx:=by
 induction t with
 |nil=>rfl
 |node l i x r h1 j=>simp only[TV,Tr.idx,S7,kL,h1,j]
theorem ZD(t:Tr α):(TV t).map (·.2)=t.toL:=by
 induction t with
 |nil=>rfl
 |node l i x r h1 j=>simp only[TV,Tr.toL,S7,kL,h1,j]
theorem TI{f:Nat->Option (Nd α)}{μ:α->Nat×Nat}{t:Tr α}(h:Tr.Holds μ f t):∀p∈TV t,∃n,f p.1=some n/\n.x=p.2:=by
 induction t with
 |nil=>intro p hp;simp[TV] at hp
 |node l i x r h1 j=>
  obtain⟨a,b,c⟩:=h;intro p hp;simp only[TV,DN,I3] at hp;rcases hp with hp|rfl|hp
  .exact h1 a p hp
  .exact⟨_,c,rfl⟩
  .exact j b p hp
def T9{β:Type}:List β->Nat->Nat->List β
 |[],_,_=>[]
 |x::t,i,j=>(if i<min j 1 then[x] else[])++T9 t (i-1) (j-1)
theorem SF{β o:Type}(f:β->o)(l:List β)(i j:Nat):T9 (l.map f) i j=(T9 l i j).map f:=by
 induction l generalizing i j with
 |nil=>rfl
 |cons x l B=>simp only[kL,T9,B,S7];split<;>rfl
theorem Z6(l:List α)(i j:Nat):∀x∈T9 l i j,x∈l:=by
 induction l generalizing i j with
 |nil=>intro x o;exact o
 |cons y l B=>
  intro x o;simp only[T9,DN] at o;rcases o with o|o
  .split at o
   .simp at o;simp[o]
   .simp at o
  .exact fX _ (B _ _ x o)
theorem gK(l:List Nat)(i j:Nat):LK.over l i j=T9 l i j:=by
 induction l generalizing i j with
 |nil=>rfl
 |cons x l o=>rw[Lg,o];rfl
theorem gy(l:List α)(i j:Nat):g.k.over l i j=T9 l i j:=by
 induction l generalizing i j with
 |nil=>rfl
 |cons x l o=>
  simp only[Kd.over,T9,o,g.μ1];congr 1
  split
  .rename_i h;have e:g.k.part x i (min j 1)=x:=by unfold Kd.part;rw[g.μ1,C3 (by omega),C3 (by simp only;omega)]
   rw[e]
  .rfl
theorem aK:VG g.toAvT:=by
 intro F C W b i j A T h hs V hu hb hi hj;apply g.ok.over;unfold Wc;refine GN rfl fun b3 w1 a1 X Y=>?_;refine GN rfl fun b4 w2 a6 O Z=>?_;refine GN rfl fun b5 Q a7 I B5=>?_;have o:=(X.trans O).trans I;have B:=h.grow o;have s1:=X.size;have s2:=O.size;have q3:=Y.lt (Ty _);have q4:=Z.lt (Ty _);have q5:=B5.lt (Ty _);have s3:=I.size;have S:g.k.over T.toL i j=(T9 (TV T) i j).map (·.2):=by rw[gy,<-ZD,SF]
 have eI:LK.over T.idx i j=(T9 (TV T) i j).map (·.1):=by rw[gK,<-Y6,SF]
 refine⟨[.pointer (some ⟨b3,0,none⟩),.pointer (some ⟨b4,0,none⟩),.pointer (some ⟨b5,0,none⟩)],(LK.over T.idx i j).map (Sf Q b g.E),_,rfl,o,by rw[Es,eI,S,Es,Es],fun m m1 m2=>?_,fun x U=>?_,Nx B ((Y.grow O).grow I) (Z.grow I) B5 fun l J Jx w4 g4 H hJ hz=>?_⟩
 .have hm:m<(T9 (TV T) i j).length:=by rw[S,Es] at m2;exact m2
  obtain⟨n,hn,U⟩:=TI V _ (Z6 _ i j _ (gC hm));obtain⟨c,p,m',k',e1,e2,_,_,_,r,hr,hc⟩:=RB B hn;have er:=WR hr;refine⟨r,?_,?_⟩
  .simp only[lV,eI];have e3:Q.cell? (p.add ((T9 (TV T) i j)[m].1*(g.E+6)))=some (g.toAvK.enc r):=by
    have:=hc 0 (g.toAvK.enc r) (by rw[Q0 (by rw[g.rlen hr];exact g.Epos),er];unfold AvK.enc;rw[g.one1];rfl);rwa [kg] at this
   simp only[Sf,e1,e2,e3];rfl
  .simp only[S,lV,<-U];exact hr
 .rcases U with e|e|e|e|e
  .exact⟨.inl e,B.lt x (.inl e)⟩
  .exact⟨.inr (.inl e),B.lt x (.inr e)⟩
  .exact⟨.inr (.inr (by omega)),by omega⟩
  .exact⟨.inr (.inr (by omega)),by omega⟩
  .exact⟨.inr (.inr (by omega)),by omega⟩
 .have H':PD prog l J Jx Q (fun x=>F x\/C x) _ _:=⟨H.hJ,H.Rq,fun k It W hJ b hb hr=>H.J8 k It W hJ b hb (hr.elim .inl fun h=>.inr (.inl h)),H.fz⟩;have key:=Tj B hs H' T i j 0 (fun _=>False) w4 V hb hi hj hJ hz (fun _ h=>h.elim) (by rw[Es];omega) (fun m hm=>?_)
  .rw[Es];rw[lp] at key;exact key
  .simp[List.getD,hm]
end
theorem SV{W0 E:World}{g c:Nat}{L M:List (List Attr)}{call:Value->Cont->World->Prop}{Kend:World->Prop}(a1:M.length=L.length)(hL:L.length<=109951162777)(hg:W0.heap.size<=g)(g1:Grow W0 E)
 (o:AE W0.heap.size 43 1 (Cx F) E (.slice (some ⟨g,0,none⟩) L.length c) L)(a6:∀b,F b->b≠g)
 (Q:∀(j:Nat) (h1:j<L.length) (h2:j<M.length) (sv:Value) (W':World) (K:Cont),Mod (fun b=>b=g) E W'->Cf F W' sv L[j]->(∀v' w',IH W'.heap.size w' v' M[j]->Grow W' w'->K v' w')->call sv K W')
 (hK:∀w',AE W0.heap.size 43 1 (Cx (fun b=>W0.heap.size<=b/\b≠g)) w' (.slice (some ⟨g,0,none⟩) L.length c) M->Mod (fun b=>b=g) E w'->Kend w') :
  Aq [(.int .i64 0)] (fun vs S w2=>∀_:Env,
   Bb .i64 (nth vs 0) (.int .i64 (L.length:Int)) fun a7=>
   AD a7
   (BQ 1 (.slice (some ⟨g,0,none⟩) L.length c) (nth vs 0) fun a8=>
   AL a8 (fun ak w3=>
   call ak (fun al w4=>
   BQ 1 (.slice (some ⟨g,0,none⟩) L.length c) (nth vs 0) fun an=>
   BC an al (fun w5=>
   AX .i64 (nth vs 0) (.int .i64 1) fun av=>
   S [av] w5) w4) w3) w2)
   (Kend w2)) E:=by
 have z1:=g1.size
 let Inv:Nat->World->Prop:=fun i W'=>AE W0.heap.size 43 1 (fun _ _ _=>True) W' (.slice (some ⟨g,0,none⟩) L.length c) L/\Mod (fun b=>b=g) E W'/\
  ∀j (h1:j<L.length) (h2:j<M.length),∃sv,W'.cell? ⟨g,j,none⟩=some sv/\Live W' ⟨g,j,none⟩/\(j<i->Cf (fun b=>W0.heap.size<=b/\b≠g) W' sv M[j])/\(i<=j->Cf F W' sv L[j])
 have U:Inv 0 E:=by
  refine⟨o.any,Mod.refl _ _,fun j h1 h2=>?_⟩;obtain⟨r,hr,ax,⟨sv,rfl,hs⟩,T⟩:=AE.cellsOf o h1;have e:∀x,j*1+x=j+x:=fun x=>by omega
  refine⟨sv,by have:=ax 0 sv rfl;rwa [e,kg] at this,by have:=T 0 (by decide);rwa [e,kg] at this,fun h=>by omega,fun _=>hs⟩
 refine Ab (fun vs W'=>∃i:Nat,i<=L.length/\vs=[.int .i64 i]/\Inv i W') (fun vs _=>L.length-Ds vs 0) ⟨0,Nn _,rfl,U⟩ ?_;rintro vs w2 ⟨i,hi,rfl,oA,mA,rows⟩ _;rw[B0,Of,Ap];have z2:=mA.size;have ba:g<E.heap.size:=(AE.BA o g rfl).2;refine AF (fun bb=>?_) fun bc=>?_
 .have B:i<L.length:=by omega
  obtain⟨sv,hc,T,_,ay⟩:=rows i B (by omega);refine AU B ?_;rw[AH,nA];refine AK hc ?_;refine Q i B (by omega) sv w2 _ mA (ay (Lc _)) fun v' w4 oS I=>?_;have z4:=I.size;obtain⟨V,b0⟩:=oS.one;refine AU B ?_;rw[AH,nA];refine Live.st (T.mod I fun h=>h) V b0 ?_;have b3:AE W0.heap.size 43 1 (fun _ _ _=>True) w4 (.slice (some ⟨g,0,none⟩) L.length c) L:=AE.mod oA I (fun _ _ h=>h) fun _ _ _ _=>trivial;have X:=AE.MP b3 B (j:=0) (by decide) V;rw[nA,kg] at X;have m5:=Lk w4 g i v';rw[AR,AO (by omega)];refine⟨⟨i+1,B,rfl,X,(mA.next I fun _ _ h=>h.elim).next m5 fun _ _ e=>e,fun j h1 h2=>?_⟩,by rw[DG,DG];omega⟩;obtain⟨b4,b5,Y,b6,Z⟩:=rows j h1 h2;have J:=I.cell b5 fun h=>h;have O:Live w4 ⟨g,j,none⟩:=Y.mod I fun h=>h;by_cases e:j=i
  .subst e;refine⟨v',kJ w4 _ v' J,O.set _ _,fun _=>?_,fun h=>by omega⟩;refine BB.mono oS.sl (fun b hb h=>⟨by have:=h.1;omega,fun e=>by have:=h.1;omega⟩) (fun b hb h=>m5.same b hb fun e=>by have:=h.1;omega) (by decide) fun r x hx=>hx
  .refine⟨b4,by rw[S4 w4 _ _ v' (by intro e2;simp only[Addr.mk.injEq] at e2;omega)];exact J,O.set _ _,fun h=>?_,fun h=>?_⟩
   .refine BB.mono (b6 (by omega)) (fun b hb h=>h) (fun b hb h=>?_) (by decide) fun r x hx=>hx;exact(m5.same b (by omega) fun e=>h.2 e).trans (I.same b hb fun h=>h)
   .refine BB.mono (Z (by omega)) (fun b hb h=>h) (fun b hb h=>?_) (by decide) fun r x hx=>hx;exact(m5.same b (by omega) fun e=>a6 b h e).trans (I.same b hb fun h=>h)
 .have b7:i=L.length:=by omega
  subst b7;refine hK w2 ?_ mA;refine AE.conv (AE.len oA M a1) fun j hj r b8 Z b9=>?_;obtain⟨sv,hc,_,hd,_⟩:=rows j (by omega) hj;obtain⟨u,rfl⟩:∃u,r=[u]:=List.length_eq_one_iff.1 b8;have:=b9 0 u rfl;rw[nA,kg,hc] at this;cases this;exact⟨_,rfl,hd (by omega)⟩
theorem Qv{L:List (List Attr)}(h:BB S 1 (Cx C) w v L)(hl:L.length*24<=140737488355328) :
  AB prog 176 [v] (fun v' w'=>AE w.heap.size 43 1 (Cx fun b=>C b/\b<w.heap.size) w' v' L/\Grow w w') w:=by
 apply Y1;have o:BB S 1 (Cx fun b=>C b/\b<w.heap.size) w v L:=BB.mono h (fun _ _ h=>h) (fun _ _ _=>rfl) (by decide) fun r x i=>BG.rsub i fun y j hc=>⟨hc,j⟩;exact JU BG.elE o hl (fun _ _ _ i=>BG.rone i) (fun I w2 r y J hm j=>BG.BZ j hm fun b hb B O=>by have:=B.2;omega) fun v' w' h1 E=>And.intro h1 E
theorem KL{L:List (List Attr)}(h:BB S 1 (Cx C) w v L)(hl:L.length<=5497558138)(O:∀x∈L,x.length*48<=140737488355328) :
  AB prog 102 [v] (fun v' w'=>AE w.heap.size 43 1 (Cx fun b=>w.heap.size<=b/\v'.ownBlock≠some b) w' v' L/\Grow w w') w:=by
 apply ZL;refine AA (Qv h (by omega)) ?_;rintro v1 J ⟨i,o⟩;obtain⟨Q,c1,rfl,T,U,hp,V⟩:=AE.shape i;rw[AP];cases Q with
 |none=>
  have:=V rfl;subst this;refine Ab (fun vs w2=>vs=[.int .i64 0]/\w2=J) (fun _ _=>0) ⟨rfl,rfl⟩ ?_;rintro vs _ ⟨rfl,rfl⟩ _;rename World=>J
  rw[B0,Of,Ap];exact AF (fun h=>by simp at h) fun _=>⟨AE.mod i (Mod.refl (fun _=>False) _) (fun _ _ h=>h) fun r y B=>by simp at B,o⟩
 |some p1=>
  obtain⟨g,rfl,E,X,_⟩:=hp _ rfl;refine SV (call:=fun sv K W'=>AB prog 52 [sv] K W') (Kend:=fun w2=>AE w.heap.size 43 1 (Cx fun b=>w.heap.size<=b/\(Value.slice (some ⟨g,0,none⟩) L.length c1).ownBlock≠some b) w2 (.slice (some ⟨g,0,none⟩) L.length c1) L/\Grow w w2) (M:=L) rfl (by omega) E o i (fun b hb e=>by have:=hb.2;omega) (fun j Y q2 sv W' K hm I Z=>?_) fun w' oM m=>⟨?_,o.next m fun b hb e=>by omega⟩
  .refine AA (Fz I (O _ (gC Y))) ?_;rintro v' w' ⟨k1,k2⟩;exact Z v' w' k1 k2
  .refine AE.mod oM (Mod.refl (fun _=>False) _) (fun _ _ h=>h) fun r y _ B=>BG.rsub B fun b hb h=>⟨h.1,fun e=>?_⟩;simp only[Value.ownBlock,i6] at e;exact h.2 e.symm
theorem QB{T vals:List Value}{X:List (List Attr)}(hs:K5 True prog I T (fun k=>[vals.getD k undef]) vals.length F W)(a8:Dh I=true)(hv:vals.length=X.length)(J:∀m (h1:m<vals.length) (U:m<X.length),Cf C W vals[m] X[m])(J8:∀x,F x->x<W.heap.size)(hl:X.length<=5497558138) :
  AB prog 103 [.func (.func I) #[] T.toArray] (fun v' w'=>AE W.heap.size 43 1 (Cx fun b=>C b/\b<W.heap.size) w' v' X/\Grow W w') W:=by
 apply Zn;apply Z3;refine GN rfl fun c E hc g1 B=>?_;have b4:=B.lt (Ty _);have z1:=g1.size;have G2:∀{M:Nat->Prop} {w2 w3:World} {r:List Value} {x:List Attr},Mod M w2 w3->(∀b,b<W.heap.size->¬M b)->Cx (fun b=>C b/\b<W.heap.size) w2 r x->Cx (fun b=>C b/\b<W.heap.size) w3 r x:=fun hm hn hy=>BG.BZ hy hm fun b _ hd=>hn b hd.2;have ak:∀m (h1:m<vals.length) (U:m<X.length),Cx (fun b=>C b/\b<W.heap.size) E [vals[m]] X[m]:=fun m q1 q2=>G2 (w2:=W) g1 (fun _ _ h=>h) ⟨_,rfl,(J m q1 q2).mono (fun b hb h=>⟨h,hb⟩) (fun _ _ _=>rfl) (by decide) fun _ _ h=>h⟩;refine⟨True,I,T,_,_,_,rfl,a8,hs.grow g1,fun k _=>rfl,?_⟩;refine⟨fun k O W'=>∃out,aI 43 1 (Cx fun b=>C b/\b<W.heap.size) E.heap.size c E.heap.size O W' out (X.take k)/\Mod (fun x=>x=c) E W'/\k<=X.length,fun _ _ _=>False,⟨_,⟨B,AE.nil,fun g i=>nomatch i⟩,Mod.refl _ _,Nn _⟩,?_,fun x O al W W' h=>h.elim,?_,?_,?_,fun x O W h=>h.elim⟩
 .rintro k O al W' b5 ⟨out,q,m,hk⟩ hm j;have a1:=q.box.lt (Ty _);have hn:∀x,x<E.heap.size->¬((¬True/\O x)\/x=E.heap.size\/x=E.heap.size+1):=fun x J=>by rintro(⟨h,_⟩|h|h);exact h trivial;all_goals omega
  refine⟨out,⟨q.box.mod hm (hn c (by omega)),AE.mod q.row hm (fun g i=>?_) fun _ _ _ h=>G2 hm (fun b hb=>hn b (by omega)) h,fun g i=>?_⟩,m.next hm fun x J=>?_,hk⟩
  .obtain⟨_,U,h3,_⟩:=q.hc g i;rintro(⟨h,_⟩|h|h)
   .exact h trivial
   .exact U h
   .exact h3 h
  .obtain⟨h1,U,h3,h4⟩:=q.hc g i;refine⟨h1,U,h3,fun h=>?_⟩;rcases(j g h).1 with h|h
   .exact h4 h
   .have:=(AE.BA q.row g i).2;omega
  .intro e;exact absurd e (hn x J)
 .rintro k O W' ⟨out,q,m,hk⟩ b hb hr;exact m.same b hb fun e=>by have:=J8 b hr;omega
 .rintro k O W' hk ⟨out,q,m,b6⟩ hz j;have Q:k<X.length:=by omega
  have V:(nth [vals.getD k undef] 0)=vals[k]:=by
   show vals.getD k undef=_;rw[lE,By hk,nz]
  rw[V];refine Lz (Mod.refl (fun _=>False) _) hz j (fun _ _ h=>h.elim) fun W6 o=>?_;have z6:=o.size;have zm:=m.size;have a1:=q.box.lt (Ty _);have B6:=q.box.mod o (by omega);have o6:AE E.heap.size 43 1 (Cx fun b=>C b/\b<W.heap.size) W6 out (X.take k):=AE.mod q.row o (fun g i=>(q.hc g i).2.2.1) fun _ _ _ h=>G2 o (fun b hb e=>by omega) h;have a6:=G2 o (fun b hb e=>by omega) (G2 m (fun b hb e=>by omega) (ak k hk Q));refine AK (B6.cells 0 _ rfl) ?_;have b7:(X.take k).length<=X.length:=by simp;omega
  have Y:(vals[k]).cells=[vals[k]].toArray:=by
   obtain⟨sv,e,an⟩:=a6;cases e;obtain⟨a,c,e,_⟩:=an.shape;rw[e];rfl
  refine Dr BG.elE o6 (by omega) (cs:=[vals[k]]) (x:=X[k]) (DW (v:=vals[k]) rfl (by decide) Y rfl) rfl a6 (fun _ _ _ h=>BG.rone h) (fun w2 w3 r y b8 hm hy=>G2 hm (fun b hb e=>?_) hy) (by show _*24<=_;omega) (by simp only[maxLen];omega) fun a7 W9 o9 m9 n9=>?_
  .rcases e with e|e
   .have:=(AE.BA o6 b e).1;omega
   .omega
  have z9:=m9.size;have b9:=AE.BA o6;have B9:=B6.mod m9 fun e=>(q.hc c e).1 rfl;obtain⟨av,ax⟩:=o9.one;refine B9.st (q:=0) (show 0<1 by decide) av ax fun ay b0 gf=>?_;have ba:=gf.size;have S:Mod (fun x=>x=c\/out.ownBlock=some x) W6 ay:=(m9.mono fun _ _ e=>.inr e).trans (gf.mono fun _ _ e=>.inl e);refine⟨Pd S (by omega) (fun b hb=>by have:=(j b hb).1;omega) (fun b _ e=>?_),a7,⟨b0,?_,fun g i=>?_⟩,?_,by omega⟩
  .rcases e with rfl|e
   .exact⟨fun h=>by have:=(j b h).2;omega,by omega,by omega⟩
   .obtain⟨h1,U,h3,h4⟩:=q.hc b e;exact⟨h4,U,h3⟩
  .have b3:X.take (k+1)=X.take k++[X[k]]:=by rw[No];simp[Q]
   rw [b3];exact AE.mod o9 gf (fun g i e=>by
    rcases n9 g i with h|h
    .exact(q.hc g h).1 e
    .omega) fun _ _ _ h=>G2 gf (fun b hb e=>by omega) h
  .rcases n9 g i with h|h
   .exact q.hc g h
   .refine⟨by omega,by omega,by omega,fun hI=>by have:=(j g hI).1;omega⟩
  .refine(m.next o fun x J e=>by omega).next S fun x J e=>?_;rcases e with e|e
   .exact e
   .have:=(AE.BA q.row x e).1;omega
 .rintro O W' ⟨out,q,m,hk⟩ _ _ hd;refine AK (q.box.cells 0 _ rfl) ⟨hd,?_⟩;have Z:Mod (fun b=>b=E.heap.size) W' (W'.putObj E.heap.size (.deferred none)):=Mod.putObj _ _ _ rfl;rw[hv,Nr] at q;refine⟨AE.base (AE.mod q.row Z (fun g i=>(q.hc g i).2.1) fun _ _ _ h=>G2 Z (fun b hb e=>by omega) h) fun g i=>?_,?_⟩
  .have:=(AE.BA q.row g i).1;omega
  exact(g1.next m fun x J e=>by omega).next Z fun x J e=>by omega
theorem Lj(l:List (List Attr)):Tr.sz Gi.μ l=l.length:=by
 induction l with
 |nil=>rfl
 |cons x l i=>rw[Tr.Ba,i,Vn];show 1+l.length=_;omega
theorem eW(l:List (List Attr)):Tr.mk Gi.μ l=0:=by
 induction l with
 |nil=>rfl
 |cons x l i=>rw[Tr.Cy,i];rfl
theorem KX{l:List (List Attr)}(h:l.length<=1099511627776):EA BG.toAvT l:=⟨by show Tr.sz Gi.μ l<=_;rw[Lj];exact h,by show Tr.mk Gi.μ l<=_;rw[eW];omega⟩
theorem Nw:Gi.FQ (fun x:List Attr=>[x]) where
 size:=fun _=>rfl
 cut1:=fun _ p h0 h1=>by simp at h1;omega
 melds:=fun a b c h=>by cases h
theorem PW(l:List (List Attr)):l.flatMap (fun x=>[x])=l:=by simp
theorem XK(l:List (List Attr))(i j:Nat):Gi.over l i j=(l.take j).drop i:=by
 have:=Nw.over l i j;rwa [PW,PW] at this
theorem Jc(t l:List (List Attr))(o:i<=j):Gi.Bw t i j l=t.take i++l++t.drop j:=by
 have:=Nw.Bw t l o;rwa [PW,PW,PW] at this
theorem Dl.sub{g:AvT α}{F C i:Nat->Prop}{b:Nat}{B:Int}{A:ArS α}(h:Dl g F C W b B A)(hC:∀x,C x->i x)(E:∀x,F x->¬i x)(o:∀x,i x->x<W.heap.size):Dl g F i W b B A:=by
 obtain⟨c,pl,fr,j⟩:=h;exact⟨c,pl,fr,j.box,j.ar.sub hC (fun x I=>E x I.1) o,j.fb.1,E b j.fb.1⟩
theorem Dj.sub{g:AvT α}{F C i:Nat->Prop}{b bt N:Nat}{l:List α}(h:Dj g F C W b bt l N)(hC:∀x,C x->i x)(o:∀x,F x->¬i x)(j:∀x,i x->x<W.heap.size):Dj g F i W b bt l N:=by
 obtain⟨A,T,h1,r⟩:=h.EH;exact⟨h.box,⟨A,T,h1.sub hC (fun x B=>o x B.1) j,r⟩,h.fb.1,o b h.fb.1⟩
theorem toList_le(o:Option α):o.toList.length<=1:=by cases o<;>simp
section
variable {F C:Nat->Prop}{W:World}{b bt N:Nat}{L:List (List Attr)}
theorem SN{k m:Nat}(h:Dj BG.toAvT F C W b bt L N)(hN:N<=109951162000)(B:k<=m)(hm:m<=L.length)(hl:L.length<=536870912)(hs:∀x∈L,x.length*48<=140737488355328) :
  AB prog 49 [.pointer (some ⟨b,0,none⟩),.int .i64 (k:Int),.int .i64 (m:Int)] (fun v' w'=>∃(j:Value) (W0:World),v'=.tuple #[j,.int .i64 0]/\Grow W W0/\Grow W0 w'/\AE W0.heap.size 43 1 (Cx fun b=>W0.heap.size<=b/\j.ownBlock≠some b) w' j ((L.take m).drop k)) W:=by
 apply cI;refine AA (Jg FU h) ?_;rintro _ w1 ⟨rfl,E⟩;rw[show Tr.sz BG.toAvT.k.μ L=L.length from Lj L,JQ B hm,Bm];refine AW (fun _=>?_) fun e=>(e rfl).elim;have U:=h.grow E;refine AA (EO FU U) ?_;rintro _ _ ⟨rfl,rfl⟩;rename World=>w1
 obtain⟨A,T,t1,t2,t3,rfl,t5⟩:=U.EH;refine AA (aK (g:=BG) t1 (by omega) t2 t3 (KX (by omega)) (by omega) (by omega)) ?_;rintro _ w3 ⟨a1,vals,Rd,rfl,V,I,J,J8,i⟩;have O:Gi.over T.toL k m=(T.toL.take m).drop k:=XK _ _ _;have a6:(Gi.over T.toL k m).length<=536870912:=by rw[O,K8,Mp];omega
 refine AA (QB (C:=C) (X:=Gi.over T.toL k m) i (by kernel_rfl) I (fun p q1 q2=>?_) (fun x o=>(J8 x o).2) (by omega)) ?_
 .obtain⟨r,e1,e2⟩:=J p q1 q2;obtain⟨sv,rfl,Q⟩:Cx C w3 r (Gi.over T.toL k m)[p]:=e2;rw[e1];exact Q
 rintro j w4 ⟨o4,Y⟩;refine AA (KL (AE.sl o4) (by omega) fun x o=>hs x ?_) ?_
 .rw[O] at o;exact kO (kP o)
 rintro S w5 ⟨Z,g5⟩;have z1:=E.size;have z3:=V.size;have z4:=Y.size;rw[O] at Z;exact⟨S,w4,rfl,(E.trans V).trans Y,g5,Z⟩
theorem TS{S D:Nat->Prop}{k:Nat}{R:List (List Attr)}(h:Dj BG.toAvT F C W b bt L N)(hN:N<=100000000000)(hk:k<=L.length)(hl:L.length+R.length<=536870912)(Z:BB S 1 (Cx D) W v R)(hs:∀x∈R,x.length*48<=140737488355328) :
  AB prog 76 [.pointer (some ⟨b,0,none⟩),.int .i64 (k:Int),v] (fun v' w'=>v'=.int .i64 0/\∃F' o,(∀x,F x->F' x)/\(∀x,C x->o x)/\(∀x,F' x->F x\/W.heap.size<=x)/\(∀x,o x->C x\/W.heap.size<=x)/\Dj BG.toAvT F' o w' b bt (L.take k++R++L.drop k) (N+R.length+4)/\Mod F W w') W:=by
 apply Up;refine AA (Jg FU h) ?_;rintro _ w1 ⟨rfl,I⟩;have B:∀M:List (List Attr),Tr.sz BG.toAvT.k.μ M=M.length:=Lj;rw[B,JQ (Lc _) hk,Bm];refine AW (fun _=>?_) fun e=>(e rfl).elim;obtain⟨a,c,rfl,_⟩:=Z.shape;rw[AP];refine AA (MV FU (h.grow I)) ?_;rintro _ w2 ⟨rfl,g2⟩;rw[B,Av,wrap64 (by omega) (by omega),BR];refine AF (fun e=>by omega) fun _=>?_;have h2:=(h.grow I).grow g2;refine AA (EO FU h2) ?_;rintro _ w3 ⟨rfl,e3⟩;subst e3;rename World=>w2
 have j:=I.trans g2;have J:BB (fun b=>S b/\b<W.heap.size) 1 (Cx fun b=>D b/\b<W.heap.size) w2 (.slice a R.length c) R:=BB.mono (Z.GQ (by decide)) (fun _ _ h=>h) (fun b hb _=>j.same b hb fun h=>h) (by decide) fun r x i=>BG.BZ (BG.rsub i fun y O E=>⟨E,O⟩) j fun _ _ _ h=>h;refine AA (KL J (by omega) hs) ?_;rintro v4 w4 ⟨o4,Q⟩;have a1:=j.size;have z4:=Q.size;have T:=h.lt
 let o:Nat->Prop:=fun x=>C x\/(w2.heap.size<=x/\x<w4.heap.size/\v4.ownBlock≠some x)
 have h4:Dj BG.toAvT F o w4 b bt L N:=(h2.grow Q).sub (fun x i=>.inl i) (fun x i e=>by
   rcases e with e|e
   .exact h.Is x i e
   .have:=T x (.inl i);omega) fun x e=>by
   rcases e with e|e
   .have:=T x (.inr e);omega
   .exact e.2.1
 have U:AE w2.heap.size 43 1 (Cx o) w4 v4 R:=AE.mod o4 (Mod.refl (fun _=>False) _) (fun _ _ h=>h) fun r y _ O=>BG.rsub O fun x i E=>.inr ⟨E.1,i,E.2⟩;have er:=Jc L R (Lc k);have V:(Gi.Bw L k k R).length<=1099511627776:=by rw[er];simp only[Bq,Mp,K8];omega
 refine AA (Ix (SL (g:=BG)) (L:=R) h4 (by omega) U.sl (fun x i X=>by have:=T x (.inl X);have:=i.1;omega) (Lc k) (by omega) (KX (by omega)) (KX (l:=Gi.Bw L k k R) V) (KX (l:=(Gi.split L k).1.getLast?.toList++R++(Gi.split (Gi.split L k).2 (k - k)).2.head?.toList) (by
  have q1:=toList_le (Gi.split L k).1.getLast?;have q2:=toList_le (Gi.split (Gi.split L k).2 (k - k)).2.head?;simp only [Bq];omega))) ?_
 rintro _ w5 ⟨F',k1,k2,k3,k4⟩;have Y:BG.toAvT.k.Bw L k k R=L.take k++R++L.drop k:=er;rw[Y] at k3;refine⟨rfl,F',o,k1,fun x i=>.inl i,fun x i=>(k2 x i).imp (fun h=>h) fun h=>by omega,fun x i=>i.imp (fun h=>h) fun h=>by omega,k3,((j.trans Q).mono fun _ _ h=>h.elim).trans k4⟩
theorem UR{k m:Nat}(h:Dj BG.toAvT F C W b bt L N)(V:N<=100000000000)(i:k<=m)(hm:m<=L.length)(hl:L.length<=536870912) :
  AB prog 87 [.pointer (some ⟨b,0,none⟩),.int .i64 (k:Int),.int .i64 (m:Int)] (fun v' w'=>v'=.int .i64 0/\∃F',(∀x,F x->F' x)/\(∀x,F' x->F x\/W.heap.size<=x)/\Dj BG.toAvT F' C w' b bt (L.take k++L.drop m) (N+4)/\Mod F W w') W:=by
 apply dD;refine AA (Jg FU h) ?_;rintro _ O ⟨rfl,j⟩;rw[show Tr.sz BG.toAvT.k.μ L=L.length from Lj L,JQ i hm,Bm];refine AW (fun _=>?_) fun e=>(e rfl).elim;have I:=h.grow j;refine AA (EO FU I) ?_;rintro _ _ ⟨rfl,rfl⟩;rename World=>O
 have o:=Jc L [] i;rw[kG] at o;have B:(Gi.Bw L k m []).length<=1099511627776:=by rw[o];simp only[Bq,Mp,K8];omega
 refine AA (Ix (SL (g:=BG)) (L:=[]) (S:=fun _=>False) I (by simp only [kl];omega) BB.nil (fun _ h=>h.elim) i (by omega) (KX (by omega)) (KX (l:=Gi.Bw L k m []) B) (KX (l:=(Gi.split L k).1.getLast?.toList++[]++(Gi.split (Gi.split L k).2 (m - k)).2.head?.toList) (by
  have X:=toList_le (Gi.split L k).1.getLast?;have Y:=toList_le (Gi.split (Gi.split L k).2 (m - k)).2.head?;simp only [Bq,kl];omega))) ?_
 rintro _ Q ⟨F',k1,k2,J,T⟩;have Z:=j.size;have E:BG.toAvT.k.Bw L k m []=L.take k++L.drop m:=o;rw[E] at J;exact⟨rfl,F',k1,fun x U=>(k2 x U).imp (fun h=>h) fun h=>by omega,J,(j.mono fun _ _ h=>h.elim).trans T⟩
end
abbrev Z8(l:List Chg):Prop:=l.Pairwise fun a b=>a.key<b.key
abbrev Le(l:List Attr):Prop:=l.Pairwise fun a b=>a.key<b.key
def Mv(c:Chg):List Attr->List Attr
 |[]=>[]
 |a::s=>if a.key<c.key then a::Mv c s else[]
def Gh(c:Chg):List Attr->List Attr
 |[]=>[]
 |a::s=>if a.key<c.key then Gh c s else if a.key=c.key then s else a::s
def Ob(c:Chg):List Attr:=if c.gone then[] else[⟨c.key,c.val⟩]
def Bz:List Attr->List Chg->List Attr
 |s,[]=>s
 |s,c::p=>Mv c s++Ob c++Bz (Gh c s) p
def aV(l:List Attr)(k:Int):List Attr:=l.filter fun a=>decide (a.key≠k)
theorem J3{c:Chg}{p:List Attr}{x:Attr}(h:x∈Mv c p):x∈p/\x.key<c.key:=by
 induction p with
 |nil=>simp[Mv] at h
 |cons a p i=>
  simp only[Mv] at h;split at h
  .rcases I3.1 h with rfl|h
   .exact⟨by simp,by assumption⟩
   .exact⟨by simp[(i h).1],(i h).2⟩
  .simp at h
theorem UW{c:Chg}{p:List Attr}{x:Attr}(h:x∈Gh c p):x∈p:=by
 induction p with
 |nil=>simp[Gh] at h
 |cons a p i=>
  simp only[Gh] at h;split at h
  .simp[i h]
  .split at h
   .simp[h]
   .exact h
theorem V1{c:Chg}{p:List Attr}(hp:Le p){x:Attr}(h:x∈Gh c p):c.key<x.key:=by
 induction p with
 |nil=>simp[Gh] at h
 |cons a p i=>
  rw[Le,mV] at hp;simp only[Gh] at h;split at h
  .exact i hp.2 h
  .split at h
   .have:=hp.1 x h;omega
   .rcases I3.1 h with rfl|h
    .omega
    .have:=hp.1 x h;omega
theorem XL{c:Chg}{p:List Attr}(hp:Le p):Le (Mv c p):=by
 induction p with
 |nil=>exact List.Pairwise.nil
 |cons a p i=>
  rw[Le,mV] at hp;simp only[Mv];split
  .exact mV.2 ⟨fun x j=>hp.1 x (J3 j).1,i hp.2⟩
  .exact List.Pairwise.nil
theorem Tv{c:Chg}{p:List Attr}(hp:Le p):Le (Gh c p):=by
 induction p with
 |nil=>exact List.Pairwise.nil
 |cons a p j=>
  have i:=hp;rw[Le,mV] at hp;simp only[Gh];split
  .exact j hp.2
  .split
   .exact hp.2
   .exact i
theorem Ld{c:Chg}{x:Attr}(h:x∈Ob c):c.gone=false/\x=⟨c.key,c.val⟩:=by
 unfold Ob at h;split at h
 .simp at h
 .rename_i i;exact⟨by simpa using i,by simpa using h⟩
theorem Mg{s:List Attr}{p:List Chg}{x:Attr}(h:x∈Bz s p):x∈s\/∃c∈p,c.gone=false/\x=⟨c.key,c.val⟩:=by
 induction p generalizing s with
 |nil=>exact .inl h
 |cons c p i=>
  simp only[Bz] at h;rcases DN.1 h with h|h
  .rcases DN.1 h with h|h
   .exact .inl (J3 h).1
   .exact .inr ⟨c,by simp,Ld h⟩
  .rcases i h with h|⟨d,j,h⟩
   .exact .inl (UW h)
   .exact .inr ⟨d,by simp[j],h⟩
theorem VW{s:List Attr}{p:List Chg}(i:Le s)(hp:Z8 p):Le (Bz s p):=by
 induction p generalizing s with
 |nil=>exact i
 |cons c p j=>
  rw[Z8,mV] at hp;simp only[Bz];have o:∀x∈Bz (Gh c s) p,c.key<x.key:=fun x B=>by
   rcases Mg B with h|⟨d,E,_,rfl⟩
   .exact V1 i h
   .exact hp.1 d E
  refine pD.2 ⟨pD.2 ⟨XL i,?_,fun a ha b hb=>?_⟩,j (Tv i) hp.2,fun a ha b hb=>?_⟩
  .unfold Ob;split
   .exact List.Pairwise.nil
   .exact List.pairwise_singleton _ _
  .obtain⟨_,rfl⟩:=Ld hb;exact(J3 ha).2
  .have I:=o b hb;rcases DN.1 ha with h|h
   .have:=(J3 h).2;omega
   .obtain⟨_,rfl⟩:=Ld h;exact I
theorem jR{key:α->Int}{l:List α}{ids:List Int}(h:l.Pairwise fun a b=>key a<key b)(hm:∀x∈l,key x∈ids):l.length<=ids.length:=by
 induction l generalizing ids with
 |nil=>simp
 |cons a l j=>
  rw[mV] at h;have ha:=hm a (by simp);have:=j (ids:=ids.erase (key a)) h.2 fun x i=>by
   rw[qY]
   .exact hm x (by simp[i])
   .have:=h.1 x i;omega
  rw[pr ha] at this;have:0<ids.length:=oe ha;simp only[Vn];omega
theorem VK{key:α->Int}{l:List α}(h:∀i,1<=i->i<l.length->∀a b,l[i-1]?=some a->l[i]?=some b->key a<key b):l.Pairwise fun a b=>key a<key b:=by
 rw[mT];intro i j hi o B;obtain⟨d,rfl⟩:∃d,j=i+1+d:=⟨j-i-1,by omega⟩;clear B;induction d with
 |zero=>exact h (i+1) (by omega) o _ _ (by simp) (By o)
 |succ d E=>
  have:=E (by omega);have:=h (i+1+d+1) (by omega) o (l[i+1+d]'(by omega)) _ (by simp) (By o);simp only[mB] at *;omega
theorem Xs{key:α->Int}{l:List α}(h:l.Pairwise fun a b=>key a<key b):∀i,1<=i->i<l.length->∀a b,l[i-1]?=some a->l[i]?=some b->key a<key b:=by
 intro i h1 j a b ha hb;rw[mT] at h;have:=h (i-1) i (by omega) j (by omega);rw[By (by omega)] at ha;rw[By j] at hb;cases ha;cases hb;exact this
def CD(o:Dop):Nat:=if o.kind=2 then o.Ak.length else o.n.toNat
def Un(o:Dop):List Dop:=if o.kind=2 then o.Ak.map fun r=>⟨2,0,[r],o.set,o.patch⟩ else List.replicate o.n.toNat ⟨o.kind,1,[],o.set,o.patch⟩
theorem MS{x:Int}(h0:0<=x)(h1:x<=1099511627776):IntKind.i64.wrap x=x:=by
 simp only[IntKind.wrap,IntKind.bits,IntKind.signed];simp;omega
def iG(n:Nat)(o:Dop):Dop:=if o.kind=2 then⟨2,o.n,o.Ak.drop n,o.set,o.patch⟩ else⟨o.kind,o.n-n,o.Ak,o.set,o.patch⟩
def behind(n:Nat):List Dop->List Dop
 |[]=>[]
 |o::x=>if n<CD o then iG n o::x else x
def total(x:List Dop):Nat:=(x.map CD).sum
section
variable {one:Dop->Dop->List Dop}
end
def Gf(ks:List DKey)(b:Bool)(p:List Chg):List Chg:=p.filter fun c=>match Bj ks c.key with|some k=>decide (k.block=b)|none=>false
def P8(ks:List DKey)(set:List Attr)(p:List Chg)(r:Int):List Attr:=Bz set (Gf ks (decide (r=10)) p)
def Good(PS:List Attr->Prop)(PP:List Chg->Prop)(o:Dop):Prop:=(o.kind=1/\o.Ak=[]/\o.set=[]/\1<=o.n/\PP o.patch)\/(o.kind=3/\o.Ak=[]/\o.set=[]/\o.patch=[]/\1<=o.n)\/
 (o.kind=2/\(∀r∈o.Ak,EK r)/\o.n=0/\o.patch=[]/\o.Ak≠[]/\PS o.set)
theorem DC(x y:List Dop):total (x++y)=total x+total y:=by simp[total]
theorem Ec(o:Dop):total [o]=CD o:=by simp[total]
theorem Ng{x:List Dop}{o:Dop}(h:o∈x):CD o<=total x:=by
 induction x with
 |nil=>simp at h
 |cons a x i=>
  simp only[total,kL,lX] at *;rcases I3.1 h with rfl|h
  .omega
  .have:=i h;omega
theorem Sl(i:List Dop)(b o:Dop):(i++[b]).set ((i++[b]).length-1) o=i++[o]:=by
 rw[lC _ _ (by simp)];simp
section
variable {PS:List Attr->Prop}{PP:List Chg->Prop}
theorem QY{g:Int}(h:∀o∈a,Good PS PP o/\o.kind=2):∀o∈BH a g,Good PS PP o:=by
 intro o i;unfold BH at i;split at i
 .rcases DN.1 i with j|j
  .exact(h o j).1
  .simp at j;subst j;exact .inr (.inl ⟨rfl,rfl,rfl,rfl,by simp only;omega⟩)
 .exact(h o i).1
theorem N0(ins:List Dop)(g:Int):total (BH ins g)=total ins+g.toNat:=by
 unfold BH;split
 .rw[DC,Ec];simp[CD]
 .omega
structure Qe (PS:List Attr->Prop) (PP:List Chg->Prop) (s:Gw) (t:Nat):Prop where
 done:∀o∈s.done,Good PS PP o
 ins:∀o∈s.ins,Good PS PP o/\o.kind=2
 gone:0<=s.gone
 EC:total s.done+total s.ins+s.gone.toNat<=t
theorem TE{s:Gw}{t:Nat}{o:Dop}(h:Qe PS PP s t)(j:Good PS PP o)(ht:t+CD o<=1099511627776):Qe PS PP (CC s o) (t+CD o):=by
 obtain⟨done,ins,gone⟩:=s;obtain⟨h1,S,h3,h4⟩:=h;simp only at h1 S h3 h4;obtain⟨k,n,rs,set,p⟩:=o;rcases j with⟨J,E,O,Q,B⟩|⟨J,E,O,Q,B⟩|⟨J,E,O,Q,B,e6⟩
 .simp only at J E O Q B;subst J;subst E;subst O;simp only[CD,show ¬(1:Int)=2 by decide,kZ] at ht ⊢;simp only[CC,km,LA,C3 (show ¬n<1 by omega)];have Y:∀o∈done++BH ins gone,Good PS PP o:=fun o j=>by
   rcases DN.1 j with h|h
   .exact h1 o h
   .exact QY S o h
  have T:total (done++BH ins gone)<=t:=by rw[DC,N0];omega
  generalize done++BH ins gone=d at Y T ⊢;have new:Qe PS PP ⟨d++[⟨1,n,[],[],p⟩],[],0⟩ (t+n.toNat):=by
   refine⟨fun o j=>?_,by simp,by simp,?_⟩
   .rcases DN.1 j with h|h
    .exact Y o h
    .simp at h;subst h;exact .inl ⟨rfl,rfl,rfl,Q,B⟩
   .simp only[DC,Ec,CD,show ¬(1:Int)=2 by decide,kZ];simp[total];simp[total] at T;omega
  unfold FO;rcases kb d with rfl|⟨i,q,rfl⟩
  .exact new
  .simp only[k6,S5,X1,ki] at *;by_cases e:q.kind=1/\q.patch=p
   .rw[Io e];have U:=Y q (by simp);obtain⟨kq,nq,rq,sq,pq⟩:=q;simp only at e;obtain⟨rfl,rfl⟩:=e;rcases U with⟨I,V,X,Z,f5⟩|⟨I,_⟩|⟨I,_⟩
    .simp only at V X Z;subst V;subst X;rw[DC,Ec] at T;simp only[CD,show ¬(1:Int)=2 by decide,kZ] at T;dsimp only;rw[MS (by omega) (by omega),Sl];refine⟨fun o j=>?_,by simp,by simp,?_⟩
     .rcases DN.1 j with h|h
      .exact Y o (by simp[h])
      .simp at h;subst h;exact .inl ⟨rfl,rfl,rfl,by simp only;omega,B⟩
     .simp only[DC,Ec,CD,show ¬(1:Int)=2 by decide,kZ];simp[total];simp[total] at T;omega
    .simp at I
    .simp at I
   .rw[C3 e];exact new
 .simp only at J E O Q B;subst J;subst E;subst O;subst Q;simp only[CD,show ¬(3:Int)=2 by decide,kZ] at ht ⊢;simp only[CC,show ¬(3:Int)=1 by decide,show ¬(3:Int)=2 by decide,kZ,Qf];have:J7 n 0=n:=by unfold J7;rw[C3 (by omega)]
  rw[this,MS (by omega) (by omega)];exact⟨h1,S,by simp only;omega,by simp only;omega⟩
 .simp only at J E O Q B e6;subst J;subst O;subst Q;simp only[CD,km] at ht ⊢;simp only[CC,show ¬(2:Int)=1 by decide,km,kZ,Md,C3 B];have new:Qe PS PP ⟨done,ins++[⟨2,0,rs,set,[]⟩],gone⟩ (t+rs.length):=by
   refine⟨h1,fun o j=>?_,h3,?_⟩
   .rcases DN.1 j with h|h
    .exact S o h
    .simp at h;subst h;exact⟨.inr (.inr ⟨rfl,E,rfl,rfl,B,e6⟩),rfl⟩
   .simp only[DC,Ec,CD,km];omega
  unfold Fg;rcases kb ins with rfl|⟨i,q,rfl⟩
  .exact new
  .simp only[k6,S5,X1,ki] at *;by_cases e:q.set=set
   .rw[Io e];have U:=S q (by simp);obtain⟨kq,nq,rq,sq,pq⟩:=q;simp only at e;subst e;obtain⟨U,hk⟩:=U;simp only at hk;subst hk;rcases U with⟨I,_⟩|⟨I,_⟩|⟨I,V,X,Z,f5,f6⟩
    .simp at I
    .simp at I
    .simp only at V X Z f5 f6;subst X;subst Z;rw[Sl];refine⟨h1,fun o j=>?_,h3,?_⟩
     .rcases DN.1 j with h|h
      .exact S o (by simp[h])
      .simp at h;subst h;exact⟨.inr (.inr ⟨rfl,fun r hr=>by rcases DN.1 hr with h|h;exact V r h;exact E r h,rfl,rfl,by simp[B],f6⟩),rfl⟩
     .simp only[DC,Ec,CD,km,Bq] at h4 ⊢;omega
   .rw[C3 e];exact new
theorem WO(x:List Dop)(h:∀o∈x,Good PS PP o)(hb:total x<=1099511627776):Qe PS PP (BP x) (total x):=by
 induction x using IW with
 |h0=>exact⟨by simp[BP,Gw.z],by simp[BP,Gw.z],by simp[BP,Gw.z],by simp[BP,Gw.z,total]⟩
 |h1 x o i=>
  rw[DC,Ec] at hb ⊢;have:=TE (i (fun o j=>h o (by simp[j])) (by omega)) (h o (by simp)) hb;simpa[BP] using this
theorem UE(x:List Dop)(h:∀o∈x,Good PS PP o)(hb:total x<=1099511627776):(∀o∈CG x,Good PS PP o)/\total (CG x)<=total x:=by
 obtain⟨h1,I,J,O⟩:=WO x h hb;have j:∀o∈(BP x).done++BH (BP x).ins (BP x).gone,Good PS PP o:=fun o E=>by
  rcases DN.1 E with h|h
  .exact h1 o h
  .exact QY I o h
 have B:total ((BP x).done++BH (BP x).ins (BP x).gone)<=total x:=by rw[DC,N0];omega
 unfold CG RC;generalize (BP x).done++BH (BP x).ins (BP x).gone=d at j B;unfold EG;rcases kb d with rfl|⟨i,q,rfl⟩
 .exact⟨j,B⟩
 .simp only[k6,S5,X1,ki,k9] at *;split
  .rw[DC] at B;exact⟨fun o E=>j o (by simp[E]),by omega⟩
  .exact⟨j,B⟩
end
section
variable {ks:List DKey}
def Ik(ks:List DKey)(l:List Attr):Prop:=Le l/\l.length<=64/\∀a∈l,DV a.val/\Hh ks a.key a.val
def K6(ks:List DKey)(p:List Chg):Prop:=Z8 p/\p.length<=64/\∀c∈p,(c.gone=true->c.val=BK.zero)/\(c.gone=false->DV c.val/\Hh ks c.key c.val)/\Bj ks c.key≠none
theorem FM{l:List Attr}:Bl ks l=0↔Ik ks l:=by
 unfold Bl;constructor
 .intro h;split at h
  .cases h
  .split at h
   .cases h
   .rename_i h1 j;refine⟨ke fun i=>h1 (.inl fun hr=>i (VK hr)),ke fun i=>h1 (.inr (.inl (by omega))),fun a ha=>⟨ke fun i=>h1 (.inr (.inr ⟨a,ha,i⟩)),ke fun i=>j ⟨a,ha,i⟩⟩⟩
 .rintro⟨h1,j,o⟩;rw[C3,C3]
  .rintro⟨a,ha,i⟩;exact i (o a ha).2
  .rintro(i|i|⟨a,ha,i⟩)
   .exact i (Xs h1)
   .omega
   .exact i (o a ha).1
theorem G3{l:List Chg}:Dd ks l=0↔K6 ks l:=by
 unfold Dd;constructor
 .intro h;split at h
  .cases h
  .split at h
   .cases h
   .rename_i h1 B;refine⟨ke fun i=>h1 (.inl fun hr=>i (VK hr)),ke fun i=>h1 (.inr (.inl (by omega))),fun a ha=>⟨fun j=>ke fun i=>h1 (.inr (.inr ⟨a,ha,.inl ⟨j,i⟩⟩)),fun j=>⟨ke fun i=>h1 (.inr (.inr ⟨a,ha,.inr ⟨j,i⟩⟩)),ke fun i=>B ⟨a,ha,.inr ⟨j,i⟩⟩⟩,fun i=>B ⟨a,ha,.inl i⟩⟩⟩
 .rintro⟨h1,B,o⟩;rw[C3,C3]
  .rintro⟨a,ha,i|⟨j,i⟩⟩
   .exact(o a ha).2.2 i
   .exact i ((o a ha).2.1 j).2
  .rintro(i|i|⟨a,ha,⟨j,i⟩|⟨j,i⟩⟩)
   .exact i (Xs h1)
   .omega
   .exact i ((o a ha).1 j)
   .exact i ((o a ha).2.1 j).1
theorem IK:Ik ks []:=⟨List.Pairwise.nil,by simp,by simp⟩
theorem IM:K6 ks []:=⟨List.Pairwise.nil,by simp,by simp⟩
theorem R3{id:Int}{k:DKey}(h:Bj ks id=some k):id∈ks.map DKey.id:=by
 have h1:=List.find?_some h;simp at h1;exact kQ.2 ⟨k,pg h,h1⟩
theorem PA{id:Int}(h:Bj ks id≠none):id∈ks.map DKey.id:=by
 cases e:Bj ks id with
 |none=>exact(h e).elim
 |some k=>exact R3 e
theorem XC(o:ks.length<=64){s:List Attr}{p:List Chg}(j:Ik ks s)(hp:Z8 p)(i:∀c∈p,c.gone=false->DV c.val/\Hh ks c.key c.val):Ik ks (Bz s p):=by
 have hm:∀a∈Bz s p,DV a.val/\Hh ks a.key a.val:=fun a ha=>by
  rcases Mg ha with h|⟨c,hc,B,rfl⟩
  .exact j.2.2 a h
  .exact i c hc B
 have hr:=VW j.1 hp;refine⟨hr,?_,hm⟩;have:=jR (key:=Attr.key) (ids:=ks.map DKey.id) hr fun a ha=>by
  obtain⟨k,hk,_⟩:=(hm a ha).2;exact R3 hk
 rw[Es] at this;omega
abbrev CO(ks:List DKey)(o:Dop):Prop:=Good (Ik ks) (K6 ks) o
theorem CO.form{o:Dop}(h:CO ks o)(hl:CD o<=536870912):Ff o/\Ik ks o.set/\K6 ks o.patch:=by
 rcases h with⟨h1,B,i,j,E⟩|⟨h1,B,i,j,E⟩|⟨h1,B,i,j,E,I⟩
 .simp only[CD,h1,show ¬(1:Int)=2 by decide,kZ] at hl;exact⟨.inl ⟨h1,B,i,j,by omega⟩,by rw[i];exact IK,E⟩
 .simp only[CD,h1,show ¬(3:Int)=2 by decide,kZ] at hl;exact⟨.inr (.inl ⟨h1,B,i,j,E,by omega⟩),by rw[i];exact IK,by rw[j];exact IM⟩
 .simp only[CD,h1,km] at hl;exact⟨.inr (.inr ⟨h1,B,i,j,lT.2 E,hl⟩),I,by rw[j];exact IM⟩
theorem Ff.Fc{o:Dop}(h:Ff o)(J:Ik ks o.set)(hp:K6 ks o.patch):CO ks o/\CD o<=536870912:=by
 rcases h with⟨h1,i,j,B,E⟩|⟨h1,i,j,B,E,I⟩|⟨h1,i,j,B,E,I⟩
 .exact⟨.inl ⟨h1,i,j,B,hp⟩,by simp only[CD,h1,show ¬(1:Int)=2 by decide,kZ];omega⟩
 .exact⟨.inr (.inl ⟨h1,i,j,B,E⟩),by simp only[CD,h1,show ¬(3:Int)=2 by decide,kZ];omega⟩
 .exact⟨.inr (.inr ⟨h1,i,j,B,by intro e;rw[e] at E;simp at E,J⟩),by simp only[CD,h1,km];exact I⟩
theorem Jr{x:List Dop}(h:Ct ks x=0):∀o∈x,CO ks o/\CD o<=536870912:=by
 unfold Ct at h;split at h
 .cases h
 .split at h
  .cases h
  .rename_i h1 B;intro o j;refine Ff.Fc (ke fun i=>h1 (.inl ⟨o,j,.inl i⟩)) (FM.1 (ke fun i=>B ⟨o,j,.inl i⟩)) (G3.1 (ke fun i=>B ⟨o,j,.inr i⟩))
theorem MW{f:Dop->Int}(x:List Dop)(h:∀o∈x,0<=f o/\f o<=CD o)(hb:total x<=1099511627776):0<=Cj f x/\Cj f x<=total x:=by
 induction x using IW with
 |h0=>exact⟨by simp[Cj],by simp[Cj]⟩
 |h1 x o i=>
  rw[DC,Ec] at hb ⊢;have B:=i (fun o j=>h o (by simp[j])) (by omega);have E:=h o (by simp);have e:Cj f (x++[o])=IntKind.i64.wrap (Cj f x+f o):=by simp[Cj]
  rw[e,MS (by omega) (by omega)];omega
theorem L9{x:List Dop}(h:∀o∈x,CO ks o)(hb:total x<=536870912):Ct ks x=0:=by
 have B:∀o∈x,Ff o/\Ik ks o.set/\K6 ks o.patch:=fun o j=>CO.form (h o j) (by have:=Ng j;omega);have i:∀o∈x,0<=o.n:=fun o j=>by
  rcases h o j with⟨_,_,_,E,_⟩|⟨_,_,_,_,E⟩|⟨_,_,E,_⟩<;>omega
 have ht:=MW (f:=Bn) x (fun o j=>by
  have:=i o j;unfold Bn CD;split <;> omega) (by omega)
 have hm:=MW (f:=CA) x (fun o j=>by
  have:=i o j;unfold CA CD L1;split
  .split<;>omega
  .split <;> omega) (by omega)
 unfold Ct;rw[C3,C3]
 .rintro⟨o,j,i|i⟩
  .exact i (FM.2 (B o j).2.1)
  .exact i (G3.2 (B o j).2.2)
 .rintro(⟨o,j,i|i|i⟩|i|i)
  .exact i (B o j).1
  .rw[FM.2 (B o j).2.1] at i;cases i
  .rw[G3.2 (B o j).2.2] at i;cases i
  .omega
  .omega
end
theorem iQ{t e k bytes:Nat}{R:World->List Value->α->Prop}{v x:Value}{l m:List α}(E:DU P t e k bytes)(h:AE w0.heap.size e k R w v l)(B:Grow w0 w)(I:BB S k R w x m)
 (i:∀r y,R w r y->∀u∈r,u.oneCell'=true)(J:∀O w2 r y,R O r y->R w2 r y)(j:(l.length+m.length)*bytes<=140737488355328)(o:l.length+m.length<=maxLen)
 (Q:∀v' w',AE w0.heap.size e k R w' v' (l++m)->Grow w0 w'->K v' w'):runK P (Builtin.append_ #[t,t] t [v,x].toArray) K w:=by
 obtain⟨v',w',h1,T,U,_⟩:=AE.append (ty:=t) E h I i j B.size o fun w' _ r y V=>J _ _ _ _ V;exact Ag h1 (Q v' w' T (B.next (Mod.of_grownBy U) fun b hb e=>by have:=(AE.BA h b e).1;omega))
def G4(Ql:Value)(w4 W:World)(ov:Value):Prop:=Mod (fun b=>Ql.ownBlock=some b) w4 W/\∀b,ov.ownBlock=some b->Ql.ownBlock=some b\/w4.heap.size<=b
section
variable {Ql ov v':Value}{w w4 W W':World}
theorem G4.start:G4 ov w4 w4 ov:=⟨Mod.refl _ _,fun _ h=>.inl h⟩
theorem G4.grow(h:G4 Ql w4 W ov)(g:Grow W W'):G4 Ql w4 W' ov:=⟨h.1.next g fun _ _ e=>e.elim,h.2⟩
theorem G4.push(h:G4 Ql w4 W ov)(m:Mod (fun b=>ov.ownBlock=some b) W W')(i:∀g,v'.ownBlock=some g->ov.ownBlock=some g\/W.heap.size<=g):G4 Ql w4 W' v':=
 ⟨h.1.next m fun b hb e=>by rcases h.2 b e with e | e;exact e;omega,fun b hb=>by
  rcases i b hb with e|e
  .exact h.2 b e
  .exact .inr (k8 h.1.size e)⟩
theorem G4.g(h:G4 Ql w4 W ov)(g:Grow w w4)(i:∀b,Ql.ownBlock=some b->w.heap.size<=b):Grow w W:=g.next h.1 fun b hb e=>by have:=i b e;omega
end
theorem drop_cons{l:List α}(h:i<l.length):l.drop i=l[i]::l.drop (i+1):=lA h
set_option maxRecDepth 20000 in
theorem Sp{s:List Attr}{p:List Chg}(hs:Cf S w sv s)(hp:FY F w v p)(hb:s.length+p.length<=1099511627776) :
  AB prog 156 [sv,v] (fun v' w'=>IH w.heap.size w' v' (Bz s p)/\Grow w w') w:=by
 apply Ya;obtain⟨sa,sc,rfl,_⟩:=hs.shape;obtain⟨pa,pc,rfl,_⟩:=hp.shape;rw[AP];refine Ab (fun vs W=>∃(k i:Nat) (ov:Value) (out:List Attr),k<=p.length/\i<=s.length/\vs=[ov,.int .i64 i,.int .i64 k]/\IH w.heap.size W ov out/\Grow w W/\out.length+(s.length-i)+(p.length-k)<=s.length+p.length/\out++Bz (s.drop i) (p.drop k)=Bz s p) (fun vs _=>p.length-Ds vs 2) ⟨0,0,_,[],by omega,by omega,rfl,AE.nil,Mod.refl _ _,by simp,rfl⟩ ?_;rintro vs W ⟨k,i,Ql,out,hk,hi,rfl,I,g,o,he⟩ _;simp only[GJ];refine H6 (fun Y=>?_) fun av=>?_
 .have J:k<p.length:=by omega
  rw[drop_cons J] at he;simp only[Bz] at he;refine AT (fun vs W=>∃(i:Nat) (ov:Value) (out:List Attr),i<=s.length/\vs=[ov,.int .i64 i]/\IH w.heap.size W ov out/\Grow w W/\out.length+(s.length-i)+(p.length-(k+1))<=s.length+p.length/\out++Bz (s.drop i) (p.drop (k+1))=Bz s p) ?_ ?_
  .rintro vs W ⟨i,ov,out,hi,rfl,I,V,o,he⟩ _;simp only[GJ];rw[AR,AO (by omega)];refine⟨⟨k+1,i,ov,out,J,hi,rfl,I,V,o,he⟩,?_⟩;show p.length-((k+1:Nat):Int).toNat<p.length-(k:Int).toNat;omega
  obtain⟨a,r,rfl,_,hr,hc,rfl⟩:=(hp.grow g (by decide) fun _ _ h=>h).get J;refine AU J (Aj hr (fun j u hu=>by rw[Addr.add_add];exact hc j u hu) ?_);refine BS (vs:=p[k].cells) rfl rfl (Ep.one (w:=W) (x:=p[k]) rfl) fun Z w4 bk bl g4 a7 _=>?_;have a8:=g.trans g4;have hB:∀b,Ql.ownBlock=some b->w.heap.size<=b:=fun b e=>(AE.BA I b e).1;have h8:Ql.ownBlock≠some Z:=fun e=>by have:=(AE.BA I Z e).2;omega
  have ak:IH w.heap.size w4 Ql out:=AE.mod I g4 (fun _ _ h=>h) fun _ _ _ h=>h;have put:∀(i:Nat) (ov:Value) (out:List Attr) (X:World),IH w.heap.size X ov out->G4 Ql w4 X ov->i<=s.length->out.length+(s.length-i)+(p.length-k)<=s.length+p.length->out++Ob p[k]++Bz (s.drop i) (p.drop (k+1))=Bz s p->
    (AM 1 (.pointer (some ⟨Z,0,none⟩)) fun ax=>AL ax (fun ay w8=>CE ay fun t50=>AD t50
     (AM 0 (.pointer (some ⟨Z,0,none⟩)) fun b0=>AL b0 (fun t53 w9=>AM 2 (.pointer (some ⟨Z,0,none⟩)) fun b3=>Af 4 b3 (fun t55 b4=>
      Ah [(0,1),(1,4)] [(.int .i64 0),(.int .u8 0),(.int .i64 0),(.int .u64 0),(.string (ByteArray.mk #[]))] [(0,t53),(1,t55)] fun b5=>
      Bg 79 5 1 [(.int .i64 0),(.int .u8 0),(.int .i64 0),(.int .u64 0),(.string (ByteArray.mk #[]))] [(0,b5)] (fun b6 b7=>
      runK prog (Builtin.append_ #[43,43] 43 [ov,b6].toArray) (fun b9 al=>
       ∃ (O:Nat) (Q:Value) (B:List Attr),O<=s.length/\[b9,.int .i64 (i:Int)]=[Q,.int .i64 (O:Int)]/\IH w.heap.size al Q B/\Grow w al/\B.length+(s.length - O)+(p.length - (k+1))<=s.length+p.length/\B++Bz (s.drop O) (p.drop (k+1))=Bz s p) b7) b4) w9) w8)
     (∃ (O:Nat) (Q:Value) (B:List Attr),O<=s.length/\[ov,.int .i64 (i:Int)]=[Q,.int .i64 (O:Int)]/\IH w.heap.size w8 Q B/\Grow w w8/\B.length+(s.length - O)+(p.length - (k+1))<=s.length+p.length/\B++Bz (s.drop O) (p.drop (k+1))=Bz s p)) X):=by
   intro i ov out X I V hi o he;have c8:∀j u,p[k].cells[j]?=some u->X.cell? ((⟨Z,0,none⟩:Addr).add j)=some u:=fun j u hu=>V.1.cell (a7 j u hu) (by rw[BO];exact h8);rw[AG];refine AK (c8 1 _ rfl) ?_;rw[Ar];have T:=V.g a8 hB;cases hg:p[k].gone with
   |true=>
    refine AV ?_;rw[Ob,hg,Io rfl,kG] at he;exact⟨i,ov,out,hi,rfl,I,T,by omega,he⟩
   |false=>
    refine As ?_;rw[Ob,hg,C3 (by decide)] at he;rw[AG];refine AK (c8 0 _ rfl) ?_;rw[AG];refine Aj (vs:=p[k].val.cells) rfl (fun j u hu=>by rw[Addr.add_add];exact c8 (2+j) u (by rw[pR];exact hu)) ?_;refine⟨(⟨p[k].key,p[k].val⟩:Attr).cells.toArray,by kernel_rfl,?_⟩;refine Lm (w0:=w) IX I T (cs:=(⟨p[k].key,p[k].val⟩:Attr).cells) (x:=⟨p[k].key,p[k].val⟩) (by kernel_rfl) rfl rfl (fun _ _ _=>DD.one) (fun _ _ _ _ _ _ h=>h) (by omega) (by simp only[maxLen];omega) fun v' w' o' g'=>?_;exact⟨i,v',_,hi,rfl,o',g',by simp only[Bq,Vn,kl];omega,he⟩
  refine Ab (fun vs W=>∃(i:Nat) (ov:Value) (out:List Attr),i<=s.length/\vs=[ov,.int .i64 i]/\IH w.heap.size W ov out/\G4 Ql w4 W ov/\out.length+(s.length-i)+(p.length-k)<=s.length+p.length/\out++(Mv p[k] (s.drop i)++Ob p[k]++Bz (Gh p[k] (s.drop i)) (p.drop (k+1)))=Bz s p) (fun vs _=>s.length-Ds vs 1) ⟨i,Ql,out,hi,rfl,ak,G4.start,o,he⟩ ?_;clear I ak o he hi;rintro vs X ⟨i,ov,out,hi,rfl,I,V,o,he⟩ _;have T:=V.g a8 hB;have c8:X.cell? ((⟨Z,0,none⟩:Addr).add 0)=some (.int .i64 p[k].key):=V.1.cell (a7 0 _ rfl) (by rw[BO];exact h8);simp only[GJ];rw[AP,Ap];refine AF (fun hl=>?_) fun av=>?_
  .have E:i<s.length:=by omega
   rw[drop_cons E] at he;simp only[Mv,Gh] at he;refine AT (fun vs W=>∃(i:Nat),i<=s.length/\vs=[ov,.int .i64 i]/\Grow X W/\out.length+(s.length-i)+(p.length-k)<=s.length+p.length/\out++Ob p[k]++Bz (s.drop i) (p.drop (k+1))=Bz s p) ?_ ?_
   .rintro vs W2 ⟨O,ba,rfl,U,a1,bb⟩ _;simp only[GJ];exact put O ov out W2 (AE.mod I U (fun _ _ h=>h) fun _ _ _ h=>h) (V.grow U) ba a1 bb
   obtain⟨a,r,e,_,hr,hc,hx⟩:=(hs.grow T (by decide) fun _ _ h=>h).get E;subst hx;cases e;refine Ce (fun W=>Grow X W) (Mod.drew _ _) ?_;refine AU E ?_;rw[AG,Addr.add_add];refine Au (fun W hW=>hW.cell (hc 0 _ rfl) fun h=>h) ?_;rw[AG];refine Au (fun W hW=>hW.cell c8 fun h=>h) ?_;rw[Ap];intro W2 U;have bc:IH w.heap.size W2 ov out:=AE.mod I U (fun _ _ h=>h) fun _ _ _ h=>h;refine AF (fun Y=>?_) fun an=>?_
   .rw[Io Y,Io Y] at he;refine AU E (Aj hr (fun j u hu=>by rw[Addr.add_add];exact U.cell (hc j u hu) fun h=>h) ?_);refine Dr IX bc (T.trans U).size (cs:=s[i].cells) (x:=s[i]) (by kernel_rfl) rfl rfl (fun _ _ _=>DD.one) (fun _ _ _ _ _ _ h=>h) (by omega) (by simp only[maxLen];omega) fun v' w' o' m' a6=>?_;rw[AR,AO (by omega)];refine⟨⟨i+1,v',out++[s[i]],E,rfl,o',(V.grow U).push m' a6,by simp only[Bq,Vn,kl];omega,by rw[<-he];simp⟩,by rw[BL,BL];omega⟩
   .rw[C3 an,C3 an] at he;refine Ce (fun W=>Grow W2 W) (Mod.drew _ _) ?_;refine AU E ?_;rw[AG,Addr.add_add];refine Au (fun W hW=>hW.cell (U.cell (hc 0 _ rfl) fun h=>h) fun h=>h) ?_;rw[AG];refine Au (fun W hW=>hW.cell (U.cell c8 fun h=>h) fun h=>h) ?_;rw[Al];intro W3 g7;refine AF (fun heq=>?_) fun bd=>?_
    .rw[Io heq] at he;rw[AR,AO (by omega)];exact⟨i+1,E,rfl,U.trans g7,by omega,by rw[<-he];simp⟩
    .rw[C3 bd] at he;exact⟨i,hi,rfl,U.trans g7,o,by rw[drop_cons E,<-he];simp⟩
  .have e:s.drop i=[]:=lq (by omega);rw[e] at he;simp only[Mv,Gh,kS] at he;exact put i ov out X I V hi o (by rw[e,<-he];simp)
 .obtain rfl:k=p.length:=by omega
  rw[mU] at he;simp only[Bz] at he;refine Hq (e:=79) (k:=5) (i:=Tryz.t79) (by kernel_rfl) (by kernel_rfl) (by kernel_rfl) (hs.grow g (by decide) fun _ _ h=>h) hi fun v' a6=>?_;refine iQ (w0:=w) IX I g a6 (fun _ _=>DD.one (w:=W)) (fun _ _ _ _ h=>h) (by rw[K8];omega) (by simp only[maxLen,K8];omega) fun bn w' o' g'=>?_;rw[he] at o';exact⟨o',g'⟩
section
variable {F C:Nat->Prop}{W:World}{b bt N:Nat}{L:List (List Attr)}
theorem Xi{k m:Nat}{p:List Chg}(h:Dj BG.toAvT F C W b bt L N)(hN:N<=100000000000)(E:k<=m)(hm:m<=L.length)(hl:L.length<=536870912)(hs:∀x∈L,x.length*48<=140737488355328)(hp:FY S W v p)(hb:∀x∈L,x.length+p.length<=1099511627776) :
  AB prog 85 [.pointer (some ⟨b,0,none⟩),.int .i64 (k:Int),.int .i64 (m:Int),v] (fun v' w'=>v'=.int .i64 0/\∃F' B,(∀x,F x->F' x)/\(∀x,C x->B x)/\(∀x,F' x->F x\/W.heap.size<=x)/\(∀x,B x->C x\/W.heap.size<=x)/\Dj BG.toAvT F' B w' b bt (L.take k++((L.take m).drop k).map (fun x=>Bz x p)++L.drop m) (N+L.length+4)/\Mod F W w') W:=by
 apply dV;refine AA (SN h (by omega) E hm hl hs) ?_;rintro _ J ⟨O,W0,rfl,gA,gB,o⟩;refine BV ?_;refine Qn ?_;have zA:=gA.size;have zB:=gB.size;have hF:=h.lt;have I:=gA.trans gB;generalize hX:(L.take m).drop k=X at *;have b3:X.length<=L.length:=by rw[<-hX,K8,Mp];omega
 have a6:∀x∈X,x∈L:=fun x i=>by rw[<-hX] at i;exact kO (kP i)
 have a7:=hp.GQ (by decide);have fin:∀(w2:World) (D2:Nat->Prop),(∀x,D2 x->W0.heap.size<=x/\O.ownBlock≠some x)->AE W0.heap.size 43 1 (Cx D2) w2 O (X.map fun x=>Bz x p)->Mod (fun x=>O.ownBlock=some x) J w2->
   AB prog 104 [.pointer (some ⟨b,0,none⟩)] (fun a8 w6=>AB prog 147 [a8,.int .i64 (k:Int),.int .i64 (m:Int),O] (fun _ w'=>(Value.int .i64 0:Value)=.int .i64 0/\∃F' B,(∀x,F x->F' x)/\(∀x,C x->B x)/\(∀x,F' x->F x\/W.heap.size<=x)/\(∀x,B x->C x\/W.heap.size<=x)/\Dj BG.toAvT F' B w' b bt (L.take k++X.map (fun x=>Bz x p)++L.drop m) (N+L.length+4)/\Mod F W w') w6) w2:=by
  intro w2 D2 Q o2 m2;have z2:=m2.size;have U:=AE.BA o;have b0:=AE.BA o2
  let B:Nat->Prop:=fun x=>C x\/(D2 x/\x<w2.heap.size)
  have h2:Dj BG.toAvT F C w2 b bt L N:=(h.grow I).mod m2 fun x i e=>by
   have:=hF x i;have:=(U x e).1;omega
  have h4:Dj BG.toAvT F B w2 b bt L N:=h2.sub (fun x i=>.inl i) (fun x i e=>by
    rcases e with e|e
    .exact h.Is x i e
    .have:=hF x (.inl i);have:=(Q x e.1).1;omega) fun x e=>by
    rcases e with e|e
    .have:=hF x (.inr e);omega
    .exact e.2
  have o4:AE W0.heap.size 43 1 (Cx B) w2 O (X.map fun x=>Bz x p):=AE.mod o2 (Mod.refl (fun _=>False) _) (fun _ _ h=>h) fun r y _ hy=>BG.rsub hy fun x i hd=>.inr ⟨hd,i⟩;have er:=Jc L (X.map fun x=>Bz x p) E;have V:(X.map fun x=>Bz x p).length=X.length:=Es _;have ak:(Gi.Bw L k m (X.map fun x=>Bz x p)).length<=1099511627776:=by rw[er];simp only[Bq,Mp,K8,V];omega
  refine AA (EO FU h4) ?_;rintro _ w3 ⟨rfl,e3⟩;subst e3;refine AA (Ix (SL (g:=BG)) (L:=X.map fun x=>Bz x p) h4 (by omega) o4.sl (fun x i al=>by have:=hF x (.inl al);have:=i.1;omega) E (by omega) (KX (by omega)) (KX (l:=Gi.Bw L k m (X.map fun x=>Bz x p)) ak) (KX (l:=(Gi.split L k).1.getLast?.toList++(X.map fun x=>Bz x p)++(Gi.split (Gi.split L k).2 (m - k)).2.head?.toList) (by
   have q1:=toList_le (Gi.split L k).1.getLast?;have q2:=toList_le (Gi.split (Gi.split L k).2 (m - k)).2.head?;simp only [Bq,V];omega))) ?_
  rintro _ w5 ⟨F',k1,k2,k3,k4⟩;have an:BG.toAvT.k.Bw L k m (X.map fun x=>Bz x p)=L.take k++X.map (fun x=>Bz x p)++L.drop m:=er;rw[an] at k3;obtain⟨A,T,t1,t2,t3,t4,t5⟩:=k3.EH;refine⟨rfl,F',B,k1,fun x i=>.inl i,fun x i=>(k2 x i).imp (fun h=>h) fun h=>by omega,fun x i=>i.imp (fun h=>h) fun h=>by have:=(Q x h.1).1;omega,⟨k3.box,⟨A,T,t1,t2,t3,t4,by omega⟩,k3.fb⟩,((I.next m2 fun x i e=>by have:=(U x e).1;omega).mono fun _ _ h=>h.elim).trans k4⟩
 obtain⟨a1,c1,rfl,b4,b5,hq,hn⟩:=AE.shape o;rw[AP];cases a1 with
 |none=>
  have:=hn rfl;subst this;refine Ab (fun vs w2=>vs=[.int .i64 0]/\w2=J) (fun _ _=>0) ⟨rfl,rfl⟩ ?_;rintro vs _ ⟨rfl,rfl⟩ _;rename World=>J
  rw[B0,Of,Ap];exact AF (fun h=>by simp at h) fun _=>fin J (fun _=>False) (fun _ h=>h.elim) (AE.mod (R':=Cx fun _=>False) o (Mod.refl (fun _=>False) _) (fun _ _ h=>h) fun r y hy _=>by simp at hy) (Mod.refl _ _)
 |some p1=>
  obtain⟨g,rfl,av,b6,_⟩:=hq _ rfl;refine SV (W0:=W0) (call:=fun sv K W'=>AB prog 156 [sv,v] K W') (M:=X.map fun x=>Bz x p) (Es _) (by omega) av gB o (fun x i e=>i.2 (by rw[e];rfl)) (fun j q1 q2 sv W' K Y ax hK=>?_) fun w' oM mm=>?_
  .have b7:=Y.size;have ay:FY (fun x=>S x/\x<W.heap.size) W' v p:=BB.mono (BB.mono (R':=Ep) (w':=J) a7 (fun _ _ h=>h) (fun x i _=>I.same x i fun h=>h) (by decide) fun _ _ h=>h) (fun _ _ h=>h) (fun x i hS=>Y.same x i fun e=>by have:=hS.2;omega) (by decide) fun _ _ h=>h;refine AA (Sp ax ay (hb _ (a6 _ (gC q1)))) ?_;rintro v' w' ⟨k1,k2⟩;exact hK v' w' (by rw[lV];exact k1) k2
  .refine fin w' _ (fun x i=>⟨i.1,fun e=>?_⟩) oM (mm.mono fun x _ e=>by subst e;rfl);simp only[Value.ownBlock,i6] at e;exact i.2 e.symm
end
theorem fL:AB prog 36 [] (fun v' w'=>∃b,v'=.pointer (some ⟨b,0,none⟩)/\W.heap.size<=b/\Bx w' b [.pointer none]/\Grow W w') W:=by
 apply eJ;refine⟨[Value.pointer none].toArray,by kernel_rfl,?_⟩;exact Bx.box fun b j hb i B=>⟨b,rfl,hb,B,i⟩
theorem cg:AB prog 37 [] (fun v' w'=>∃b,v'=.pointer (some ⟨b,0,none⟩)/\W.heap.size<=b/\Bx w' b [.pointer none]/\Grow W w') W:=by
 apply cH;refine⟨[Value.pointer none].toArray,by kernel_rfl,?_⟩;exact Bx.box fun b j hb i B=>⟨b,rfl,hb,B,i⟩
theorem db:AB prog 38 [] (fun v' w'=>∃b,v'=.pointer (some ⟨b,0,none⟩)/\W.heap.size<=b/\Bx w' b [.pointer none]/\Grow W w') W:=by
 apply cY;refine⟨[Value.pointer none].toArray,by kernel_rfl,?_⟩;exact Bx.box fun b j hb i B=>⟨b,rfl,hb,B,i⟩
theorem TZ:∀(l:List Spn) (j:Nat),(∀s∈l,0<s.n)->Ef l<=j->Spn.kd.over l 0 j=l:=by
 intro l;induction l with
 |nil=>intro j _ _;rfl
 |cons s l E=>
  intro j o I;have h0:0<s.n:=o s (by simp);have i:Ef (s::l)=s.n+Ef l:=Tr.Ba Spn.kd.μ s l;rw[i] at I;have B:(Spn.kd.μ s).1=s.n:=rfl;rw[Kd.over,B,Nat.zero_sub,E (j-s.n) (fun x J=>o x (by simp[J])) (by omega),Io (by omega)];have O:∀q,s.n<=q->Spn.kd.part s 0 q=s:=fun q Q=>by
   unfold Kd.part;rw[C3 (by omega),B,C3 (by omega)]
  rw[O _ (by omega)];rfl
theorem UG{S:Value}{l:List Spn}(hv:Bx W c [S])(T:AE B 108 2 Dx W S l)(hl:l.length<=1099511627776) :
  K5 True prog 112 [.pointer (some ⟨c,0,none⟩)] (fun k=>[.agg ((l[k]?.getD ⟨0,0⟩).cells.toArray)]) l.length (fun b=>b=c\/S.ownBlock=some b) W:=by
 intro yl J Jx w1 hg h0 U a8 J8 o;apply YV;refine AK ((hv.grow hg).cells 0 _ rfl) ?_;obtain⟨a,n,e,_⟩:=T.shape;have I:=T.sl;have V:=AE.BA T;rw[e,AP];rw[e] at I;refine Ab (fun vs X=>∃k:Nat,k<=l.length/\vs=[.int .i64 k]/\J k (fun _=>False) X) (fun vs _=>l.length-Ds vs 0) ⟨0,Nn _,rfl,h0⟩ ?_;rintro vs X ⟨k,hk,rfl,hJ⟩ _;rw[B0,Of,Ap];refine AF (fun ak=>?_) fun al=>?_;rotate_left
 .obtain rfl:k=l.length:=by omega
  exact⟨_,.inl hJ⟩
 have i:k<l.length:=by omega
 obtain⟨q,r,rfl,hq,hr,Y,Z⟩:=I.get i;have O:r=l[k].cells:=Z;subst O;have Q:S.ownBlock=some q.block:=by rw[e];exact hq.2
 refine AU i (Aj (vs:=l[k].cells) rfl (fun j u hu=>?_) ?_)
 .rw[Addr.add_add,<-Y j u hu];exact lO (by rw[BO];exact J8 k _ X hJ q.block (V _ Q).2 (.inr Q))
 refine Bx.new (vs:=l[k].cells) rfl rfl (Spn.one _) fun b4 W4 an g4 B4=>?_;refine B4.FZ rfl ?_;have a1:J k (fun _=>False) W4:=U k _ _ _ _ hJ (g4.mono fun _ _ h=>h.elim) fun b hb=>hb.elim;refine .inr ⟨yl,rfl,?_⟩;have E:=o k _ W4 i a1;dsimp only at E;rw[By i] at E;refine Gm E ?_;rintro vv W3 ⟨av,a6,_,⟨rfl,a7⟩|⟨rfl,Rq⟩⟩
 .rw[Ar];refine AV ?_;rw[AR,AO (by omega)];exact⟨⟨k+1,i,rfl,a7⟩,by rw[DG,DG];omega⟩
 .rw[Ar];exact As ⟨_,.inr Rq⟩
theorem ez{b bt N:Nat}{l:List Spn}(h:Dj DI.toAvT F GV W b bt l N)(hN:N<=109951162000)(hs:Ef l<=1099511627776)(hl:l.length<=109951162777)(hp:∀s∈l,0<s.n) :
  AB prog 55 [.pointer (some ⟨b,0,none⟩)] (fun v' w'=>∃c T,v'=.func (.func 112) #[] #[.pointer (some ⟨c,0,none⟩)]/\Grow W w'/\(∀x,T x->W.heap.size<=x)/\K5 True prog 112 [.pointer (some ⟨c,0,none⟩)] (fun k=>[.agg ((l[k]?.getD ⟨0,0⟩).cells.toArray)]) l.length T w') W:=by
 apply cq;refine AA (MV Hu h) ?_;rintro _ U ⟨rfl,I⟩;have h1:=h.grow I;refine AA (J9 (i:=0) (j:=Ef l) h1 hN (Nn _) (Lc _) hs hl) ?_;rintro _ w2 ⟨V,rfl,J,X⟩;rw[TZ l _ hp (Lc _)] at J;refine BV ?_;refine Bx.zero fun c w3 hc O B=>?_;have Y:=B.lt (by decide);have Z:AE U.heap.size 108 2 Dx w3 V l:=AE.mod (R':=Dx) J O (fun _ _ h=>h) fun _ _ _ h=>h;obtain⟨Q,S⟩:=Z.one;have z1:=I.size;have z2:=X.size;have z3:=O.size;have E:=AE.BA J;refine B.st (q:=0) (show 0<1 by decide) Q S fun w4 B4 m4=>?_;have o4:AE U.heap.size 108 2 Dx w4 V l:=AE.mod (R':=Dx) Z m4 (fun x o e=>by have:=(E x o).2;omega) fun _ _ _ h=>h;refine⟨c,_,rfl,((I.trans X).trans O).next m4 fun x o e=>by omega,fun x o=>?_,UG B4 o4 (by omega)⟩;rcases o with rfl|o
 .omega
 .have:=(E x o).1;omega
theorem Qb{b:Nat}(i:Bx W b [.pointer none]) :
  AB prog 53 [.pointer (some ⟨b,0,none⟩),.int .i64 0] (fun v' w'=>v'=.tuple #[.int .i64 0,.int .i64 0]/\∃bt F,Dj A6.toAvT F GV w' b bt [] 0/\(∀x,F x->x=b\/W.heap.size<=x)/\Mod (fun x=>x=b) W w') W:=by
 apply U5;have j:=i.lt (Ty _);refine AA (K:=fun v' w'=>v'=.int .i64 0/\∃bt F,Dj A6.toAvT F GV w' b bt [] 0/\(∀x,F x->x=b\/W.heap.size<=x)/\Mod (fun x=>x=b) W w') ?_ ?_
 .apply El.iz;unfold Yb;refine DS (AV ?_);rw[Ap];refine AF (fun e=>by omega) fun _=>?_;rw[BR];refine AF (fun e=>by omega) fun _=>?_;refine AA (VH (g:=A6.toAvT) (C:=GV) El i (fun h=>h) fun _ h=>h.elim) ?_;rintro _ o ⟨rfl,h⟩;rw[BR];exact AF (fun e=>by omega) fun _=>⟨rfl,h⟩
 rintro _ o ⟨rfl,bt,F,h,E,I⟩;refine Qn ?_;refine AA (EO El h) ?_;rintro _ _ ⟨rfl,rfl⟩;rename World=>o
 obtain⟨A,T,J,O,t3,t4,t5⟩:=h.EH;refine AA (Qa (p:=0) J O (Nn _) (My (by rw[t4];exact Nn _))) ?_;rintro _ w2 ⟨rfl,B⟩;refine⟨by rw[mX];rfl,bt,F,h.grow B,E,I.next B fun _ _ h=>h.elim⟩
theorem QG{S D:Nat->Prop}{b:Nat}{R:List (List Attr)}(hB:Bx W b [.pointer none])(hl:R.length<=536870912)(hv:BB S 1 (Cx D) W v R)(O:∀x,S x\/D x->x≠b)(hs:∀x∈R,x.length*48<=140737488355328) :
  AB prog 76 [.pointer (some ⟨b,0,none⟩),.int .i64 0,v] (fun v' w'=>v'=.int .i64 0/\∃bt F' I,(∀x,F' x->x=b\/W.heap.size<=x)/\(∀x,I x->W.heap.size<=x)/\Dj BG.toAvT F' I w' b bt R (R.length+4)/\Mod (fun x=>x=b) W w') W:=by
 apply Up;have a7:=hB.lt (Ty _);refine AA (K:=fun v' w'=>v'=.int .i64 0/\∃bt F,Dj BG.toAvT F GV w' b bt [] 0/\(∀x,F x->x=b\/W.heap.size<=x)/\Mod (fun x=>x=b) W w') ?_ ?_
 .apply FU.iz;unfold Yb;refine DS (AV ?_);rw[Ap];refine AF (fun e=>by omega) fun _=>?_;rw[BR];refine AF (fun e=>by omega) fun _=>?_;refine AA (VH (g:=BG.toAvT) (C:=GV) FU hB (fun h=>h) fun _ h=>h.elim) ?_;rintro _ w1 ⟨rfl,h⟩;rw[BR];exact AF (fun e=>by omega) fun _=>⟨rfl,h⟩
 rintro _ w1 ⟨rfl,bt,F,h1,hF,m1⟩;refine Qn ?_;obtain⟨a,c,rfl,_⟩:=hv.shape;have Q:∀M:List (List Attr),Tr.sz BG.toAvT.k.μ M=M.length:=Lj;rw[AP];refine AA (MV FU h1) ?_;rintro _ w2 ⟨rfl,T⟩;rw[Q,Av,wrap64 (by simp) (by simp),BR];refine AF (fun e=>by simp only[kl] at e;omega) fun _=>?_;have U:=h1.grow T;refine AA (EO FU U) ?_;rintro _ w3 ⟨rfl,e3⟩;subst e3;rename World=>w2
 have z1:=m1.size;have z2:=T.size;have B:Mod (fun x=>x=b) W w2:=m1.next T fun _ _ h=>h.elim;have V:BB (fun x=>(S x/\x<W.heap.size)/\x≠b) 1 (Cx fun x=>(D x/\x<W.heap.size)/\x≠b) w2 (.slice a R.length c) R:=BB.mono (hv.GQ (by decide)) (fun x _ h=>⟨h,O x (.inl h.1)⟩) (fun x o h=>B.same x o fun e=>O x (.inl h.1) e) (by decide) fun r x o=>BG.BZ (BG.rsub o fun y X E=>⟨⟨E,X⟩,O y (.inr E)⟩) B fun y _ E e=>E.2 e;refine AA (KL V (by omega) hs) ?_;rintro v4 w4 ⟨o4,Y⟩;have z4:=Y.size;have J:=U.lt
 let I:Nat->Prop:=fun x=>w2.heap.size<=x/\x<w4.heap.size/\v4.ownBlock≠some x
 have h4:Dj BG.toAvT F I w4 b bt [] 0:=(U.grow Y).sub (fun x o=>o.elim) (fun x o e=>by have:=J x (.inl o);have:=e.1;omega) fun x e=>e.2.1;have Z:AE w2.heap.size 43 1 (Cx I) w4 v4 R:=AE.mod o4 (Mod.refl (fun _=>False) _) (fun _ _ h=>h) fun r y _ X=>BG.rsub X fun x o E=>⟨E.1,o,E.2⟩;have er:=Jc [] R (Lc 0);simp only [List.take_nil,List.drop_nil,kS,kG] at er;refine AA (Ix (SL (g:=BG)) (i:=0) (j:=0) (L:=R) h4 (by omega) Z.sl (fun x o a1=>by have:=J x (.inl a1);have:=o.1;omega) (Lc 0) (by omega) (KX (l:=[]) (by simp)) (KX (l:=Gi.Bw [] 0 0 R) (by rw [er];omega)) (KX (l:=(Gi.split [] 0).1.getLast?.toList++R++(Gi.split (Gi.split [] 0).2 (0 - 0)).2.head?.toList) (by
  have q1:=toList_le (Gi.split [] 0).1.getLast?;have q2:=toList_le (Gi.split (Gi.split [] 0).2 (0 - 0)).2.head?;simp only [Bq];omega))) ?_
 rintro _ w5 ⟨F',k1,k2,k3,k4⟩;have a6:BG.toAvT.k.Bw [] 0 0 R=R:=er;rw[a6,lp] at k3;refine⟨rfl,bt,F',I,fun x o=>?_,fun x o=>by have:=o.1;omega,k3,(B.next Y fun _ _ h=>h.elim).next k4 fun x o e=>?_⟩
 .rcases k2 x o with e|e
  .exact(hF x e)
  .exact .inr (by omega)
 .rcases hF x e with e|e
  .exact e
  .omega
theorem HW(g o x:Nat):(⟨g,o,none⟩:Addr).add x=⟨g,o+x,none⟩:=by unfold Addr.add;split<;>simp_all
theorem Sn{g off:Nat}:∀(vs:List Value) (q:Nat) (W:World),(∀j,q<=j->j<q+vs.length->Live W ⟨g,off+j,none⟩)->
  Mod (fun x=>x=g) W (EW W ⟨g,off,none⟩ q vs)/\(∀j u,vs[j]?=some u->(EW W ⟨g,off,none⟩ q vs).cell? ⟨g,off+q+j,none⟩=some u)/\(∀j,(j<off+q\/off+q+vs.length<=j)->(EW W ⟨g,off,none⟩ q vs).cell? ⟨g,j,none⟩=W.cell? ⟨g,j,none⟩)/\(∀a,Live W a->Live (EW W ⟨g,off,none⟩ q vs) a):=by
 intro vs;induction vs with
 |nil=>intro q W _;exact⟨Mod.refl _ _,fun j u hu=>by simp at hu,fun _ _=>rfl,fun _ h=>h⟩
 |cons x vs E=>
  intro q W hl;simp only[EW];rw[HW];have i:=hl q (Lc _) (by simp);obtain⟨I,J,B,O⟩:=E (q+1) (W.setCell ⟨g,off+q,none⟩ x) fun j h1 S=>(hl j (by omega) (by simp;omega)).set _ _;refine⟨(Mod.setCell (M:=fun x=>x=g) W ⟨g,off+q,none⟩ x rfl).trans I,fun j u hu=>?_,fun j Q=>?_,fun a ha=>O a (ha.set _ _)⟩
  .cases j with
   |zero=>
    simp at hu;subst hu;obtain⟨T,o⟩:=jV.1 i.1;rw[B _ (.inl (by omega))];exact kJ _ _ _ o
   |succ j=>
    have:=J j u (by simpa using hu);rw[show off+q+(j+1)=off+(q+1)+j by omega];exact this
  .simp only[Vn] at Q;rw[B j (by omega),S4 _ _ _ _ (by intro e;simp only[Addr.mk.injEq] at e;omega)]
structure Jl {α:Type} (k:Nat) (cs:α->List Value) (W:World) (g:Nat) (L:List α):Prop where
 cells:∀m (h:m<L.length) j u,(cs L[m])[j]?=some u->W.cell? ⟨g,m*k+j,none⟩=some u
 live:∀m j,m<L.length->j<k->Live W ⟨g,m*k+j,none⟩
section
variable {α:Type}{k:Nat}{cs:α->List Value}{W W':World}{g:Nat}{L:List α}
theorem Jl.mod(h:Jl k cs W g L)(m:Mod M W W')(o:¬M g):Jl k cs W' g L:=⟨fun i hi j u hu=>m.cell (h.cells i hi j u hu) o,fun i j hi B=>(h.live i j hi B).mod m o⟩
theorem Jl.store{x:α}{K:World->Prop}(h:Jl k cs W g L)(hi:i<L.length)(hk:∀y,(cs y).length=k)(h1:∀v∈cs x,v.oneCell'=true)
 (I:∀W',Jl k cs W' g (L.set i x)->Mod (fun b=>b=g) W W'->K W'):Ac k (.pointer (some ⟨g,i*k,none⟩)) (.agg (cs x).toArray) K W:=by
 have lv:∀j,j<k->Live W ((⟨g,i*k,none⟩:Addr).add j):=fun j o=>by rw[HW];exact h.live i j hi o
 obtain⟨J,O,Q,S⟩:=Sn (g:=g) (off:=i*k) (cs x) 0 W fun j _ o=>h.live i j hi (by have:=hk x;omega);refine⟨_,cs x,rfl,rfl,hk x,h1,fun j o=>lv j o,I _ ⟨fun m hm j u hu=>?_,fun m j hm o=>S _ (h.live m j (by simpa using hm) o)⟩ J⟩;rw[List.getElem_set] at hu;split at hu
 .rename_i e;subst e;have:=O j u hu;rwa [kg] at this
 .rename_i B;have E:m<L.length:=by simpa using hm
  have o:j<k:=by have:=(Bp.1 hu).1;rw[hk] at this;exact this
  rw[Q]
  .exact h.cells m E j u hu
  .rw[hk];rcases pT B with e|e
   .right;have:(i+1)*k<=m*k:=lF _ e;rw[ku] at this;omega
   .left;have:(m+1)*k<=i*k:=lF _ e;rw[ku] at this;omega
theorem Jl.of{B e n c:Nat}{R:World->List Value->α->Prop}(h:AE B e k R W (.slice (some ⟨g,0,none⟩) n c) L)(hk:0<k)(o:∀r x,R W r x->r=cs x):Jl k cs W g L:=by
 refine⟨fun m hm j u hu=>?_,fun m j hm E=>?_⟩
 .obtain⟨rows,h1,J,O,Q⟩:=id h;obtain⟨a,r,i,_,hr,hc,I⟩:=(AE.sl h).get hm;cases i;have:=hc j u (by rw[o _ _ I];exact hu);rwa [HW,lp] at this
 .obtain⟨g',i,_,hl⟩:=AE.live h hm E;cases i;rwa [HW,lp] at hl
end
theorem WD{zero:Array Value}{n:Nat}(o:0<zero.size)(h1:∀v∈zero.toList,v.oneCell'=true):∀v∈(Builtin.zeroCells zero n).toList,v.oneCell'=true:=by
 intro v j;simp only[Builtin.zeroCells,Array.toList_map,kQ] at j;obtain⟨i,_,rfl⟩:=j;refine h1 _ ?_;have:i%zero.size<zero.size:=pU _ o;rw[oE zero _ this];exact Array.getElem_mem_toList this
theorem NO{t e k:Nat}{i:TypeInfo}{zv:Value}{g off m c:Nat}(hu:P.underlying t=some (.slice e))(hi:P.info? e=some i)(I:i.zero=some zv)(hk:zv.cells.size=k)(J:0<k)(h1:∀v∈zv.cells.toList,v.oneCell'=true)(hm:0<m)
 (hl:∀j,j<m*k->Live W ⟨g,off+j,none⟩):∃W',(Builtin.clear_ #[t] 0 [.slice (some ⟨g,off,none⟩) m c].toArray).run P W=.ok (.tuple #[]) W'/\Mod (fun x=>x=g) W W'/\∀j,j<off->W'.cell? ⟨g,j,none⟩=W.cell? ⟨g,j,none⟩:=by
 have E:(Builtin.zeroCells zv.cells m).toList.length=m*k:=by rw[mO,qU,hk]
 have lv:∀j,0<=j->j<0+(Builtin.zeroCells zv.cells m).toList.length->Live W ⟨g,off+j,none⟩:=fun j _ B=>hl j (by omega);obtain⟨O,_,Q,_⟩:=Sn (g:=g) (off:=off) (Builtin.zeroCells zv.cells m).toList 0 W lv;have o:=QT (P:=P) (⟨g,off,none⟩:Addr) (Builtin.zeroCells zv.cells m).toList 0 W (WD (by omega) h1) (fun j h0 B=>by rw[HW];exact lv j h0 B);refine⟨_,?_,O,fun j B=>Q j (.inl (by omega))⟩;have S:(zeroValue e).run P W=.ok zv W:=by simp[zeroValue,typeInfo,hi,I]
 obtain⟨m,rfl⟩:∃q,m=q+1:=⟨m-1,by omega⟩;simp[Builtin.clear_,run_underlying hu,S,o]
def Va(G:World->Prop)(j:Value)(i:Chg->Bool):Prop:=∀W c (K:Cont),G W->(∀W',Grow W W'->K (.bool (i c)) W')->Ci prog Dh j [.agg c.cells.toArray] K W
theorem Yk{p:List Chg}{B:Chg->Bool}(h:FY S w v p)(J:Va (Grow w) fr B) :
  AB prog 202 [v,fr] (fun v' w'=>Grow w w'/\((v'=.int .i64 (-1)/\∀c∈p,B c=false)\/∃i:Nat,∃hi:i<p.length,v'=.int .i64 i/\B p[i]=true/\∀c∈p.take i,B c=false)) w:=by
 apply Zv;obtain⟨a,c,rfl,hm⟩:=h.shape;simp only[maxLen] at hm;rw[AP];refine Ab (fun vs W=>∃i:Nat,i<=p.length/\vs=[.int .i64 i]/\Grow w W/\∀c∈p.take i,B c=false) (fun vs _=>p.length-Ds vs 0) ⟨0,Nn _,rfl,Mod.refl _ _,by simp⟩ ?_;rintro vs W ⟨i,hi,rfl,g,E⟩ _;rw[B0,Of,Ap];refine AF (fun O=>?_) fun Q=>?_
 .have o:i<p.length:=by omega
  obtain⟨q,r,rfl,_,hr,hc,rfl⟩:=(h.grow g (by decide) fun _ _ h=>h).get o;refine AU o (Aj hr (fun j u hu=>by rw[Addr.add_add];exact hc j u hu) ?_);refine J W p[i] _ g fun W' g'=>?_;cases e:B p[i] with
  |true=>exact As ⟨g.trans g',.inr ⟨i,o,rfl,e,E⟩⟩
  |false=>
   refine AV ?_;rw[AR,AO (by omega)];refine⟨⟨i+1,o,rfl,g.trans g',fun c hc=>?_⟩,by rw[DG,DG];omega⟩;rw[No,By o] at hc;rcases DN.1 hc with hc|hc
   .exact E c hc
   .simp at hc;subst hc;exact e
 .have:i=p.length:=by omega
  subst this;exact⟨g,.inl ⟨rfl,fun c hc=>E c (by rw[Nr];exact hc)⟩⟩
theorem Chg.len(c:Chg):c.cells.length=6:=rfl
set_option maxRecDepth 20000 in
theorem ZE{p:List Chg}{o:Chg->Bool}(V:AE B 133 6 Ep w v p)(al:p.length<=1099511627776)(Z:Va (Mod (fun b=>v.ownBlock=some b) w) fr o) :
  AB prog 128 [v,fr] (fun v' w'=>FY (fun b=>v.ownBlock=some b) w' v' (p.filter fun c=>!o c)/\Mod (fun b=>v.ownBlock=some b) w w') w:=by
 apply YO;refine AA (Yk (AE.sl V) fun W c K g hK=>Z W c K (g.mono fun _ _ e=>e.elim) hK) ?_;rintro _ w1 ⟨X,⟨rfl,I⟩|⟨i0,J,rfl,hd,I⟩⟩
 .rw[Al];refine AF (fun _=>?_) fun e=>(e rfl).elim;rw[mn.2 fun c hc=>by rw[I c hc];rfl];exact⟨BB.sub (AE.sl (AE.mod V X (fun _ _ h=>h) fun _ _ _ h=>h)) (fun b _ h=>h.2) (by decide) fun _ _ h=>h,X.mono fun _ _ e=>e.elim⟩
 rw[Al];refine AF (fun e=>absurd e (by omega)) fun _=>?_;obtain⟨a,c,rfl,an,av,hp,hn⟩:=AE.shape V;cases a with
 |none=>rw[hn rfl] at J;simp at J
 |some q=>
 obtain⟨g,rfl,ax,a1,ak⟩:=hp q rfl;have a6:∀b,(Value.slice (some ⟨g,0,none⟩) p.length c).ownBlock=some b↔b=g:=fun b=>⟨fun e=>by cases e;rfl,fun e=>by subst e;rfl⟩;simp only[a6] at Z ⊢;have R0:Jl 6 Chg.cells w g p:=Jl.of V (by decide) fun _ _ h=>h;have R1:=R0.mod X fun h=>h;rw[AR,AO (by omega)];refine Ab (fun vs W=>∃(i j:Nat) (L:List Chg),i<j/\j<=p.length/\vs=[.int .i64 i,.int .i64 j]/\L.length=p.length/\Jl 6 Chg.cells W g L/\L.take i=(p.take j).filter (fun c=>!o c)/\L.drop j=p.drop j/\Mod (fun b=>b=g) w W) (fun vs _=>p.length-Ds vs 1)
  ⟨i0,i0+1,p,by omega,J,rfl,rfl,R1,?_,rfl,X.mono fun _ _ e=>e.elim⟩ ?_
 .rw[No,By J,nY,mn.2 fun c hc=>by rw[I c hc];rfl];simp[hd]
 rintro vs W ⟨i,j,L,ay,hj,rfl,hL,Y,ht,Q,hm⟩ _;simp only[GJ];rw[AP,Ap];refine AF (fun S=>?_) fun b0=>?_
 .have E:j<p.length:=by omega
  have a7:L[j]'(by omega)=p[j]:=by
   have e:=kM List.head? Q;rw[pK,pK,By (by omega),By E] at e;exact kK e
  refine AU E ?_;rw[AH];refine Aj (vs:=p[j].cells) rfl (fun q u hu=>by rw[HW];exact Y.cells j (by omega) q u (by rw[a7];exact hu)) ?_;refine BS (vs:=p[j].cells) rfl rfl (Ep.one (w:=W) (x:=p[j]) rfl) fun b7 w4 b3 b4 g4 T _=>?_;have b5:g<W.heap.size:=WL a1 hm.size;refine Aj (vs:=p[j].cells) rfl T ?_;refine Z w4 p[j] _ (hm.next g4 fun _ _ e=>e.elim) fun W5 g5=>?_;have R5:=(Y.mod g4 fun h=>h).mod g5 fun h=>h;have m5:=(hm.next g4 fun _ _ e=>e.elim).next g5 fun _ _ e=>e.elim;have et:(p.take (j+1)).filter (fun c=>!o c)=(p.take j).filter (fun c=>!o c)++if o p[j] then[] else[p[j]]:=by
   rw[No,By E,nY];cases e:o p[j]<;>simp[e]
  have O:L.drop (j+1)=p.drop (j+1):=by have:=kM (List.drop 1) Q;simpa[nT] using this
  cases e:o p[j] with
  |true=>
   rw[Ar];refine AV ?_;rw[AR,AO (by omega)];rw[e,Io rfl,kG] at et;refine⟨⟨i,j+1,L,by omega,E,rfl,hL,R5,by rw[et];exact ht,?_,m5⟩,by rw[BL,BL];omega⟩;exact O
  |false=>
   rw[Ar];refine As ?_;refine Aj (vs:=p[j].cells) rfl (fun q u hu=>g5.cell (T q u hu) fun h=>h) ?_;refine AU (by omega) ?_;rw[AH];refine R5.store (i:=i) (x:=p[j]) (by omega) Chg.len (Ep.one (w:=W) (x:=p[j]) rfl) fun W6 R6 m6=>?_;rw[AR,AR,AO (by omega),AO (by omega)];rw[e,C3 (by decide)] at et;refine⟨⟨i+1,j+1,L.set i p[j],by omega,E,rfl,by simp[hL],R6,?_,?_,m5.trans m6⟩,by rw[BL,BL];omega⟩
   .rw[et,<-ht,List.take_set,No,By (by omega),lC _ _ (by simp;omega)];simp[kY (show i<=L.length by omega)]
   .rw[pN (by omega)];exact O
 .obtain rfl:j=p.length:=by omega
  rw[Nr] at ht;refine Ag (Er (e:=133) (k:=6) (i:=Tryz.t133) (by kernel_rfl) (by kernel_rfl) (by kernel_rfl) (by omega) W) ?_;have a8:sliced (some (⟨g,0,none⟩:Addr)) i p.length c 6=.slice (some ⟨g,i*6,none⟩) (p.length-i) (c-i):=by
   unfold sliced;rw[C3 (by omega)];simp only[mF,AH]
  rw[a8];obtain⟨W2,hr,m2,h2⟩:=NO (P:=prog) (t:=81) (e:=133) (k:=6) (i:=Tryz.t133) (zv:=.agg (⟨0,false,BK.zero⟩:Chg).cells.toArray) (W:=W) (g:=g) (off:=i*6) (m:=p.length-i) (c:=c-i) (by kernel_rfl) (by kernel_rfl) (by kernel_rfl) (by kernel_rfl) (by decide)
   (fun u hu=>Ep.one (w:=W) (x:=⟨0,false,BK.zero⟩) rfl u (by simpa[Value.cells] using hu)) (by omega) fun q hq=>by
    have:=Y.live (i+q/6) (q%6) (by omega) (pU _ (by decide));rwa [show(i+q/6)*6+q%6=i*6+q by omega] at this
  refine Ag hr ?_;refine Ag (Fj (e:=133) (k:=6) (i:=Tryz.t133) (by kernel_rfl) (by kernel_rfl) (by kernel_rfl) (by omega) W2) ?_;refine⟨?_,hm.trans m2⟩;rw[<-ht];have S:(L.take i).length=i:=by simp;omega
  refine⟨_,_,by rw[S],by omega,by omega,fun m x hx=>?_⟩;obtain⟨b6,U⟩:=Bp.1 hx;rw[nG] at U;subst U;refine⟨⟨g,0,none⟩,_,rfl,rfl,rfl,fun q u hu=>?_,rfl⟩;have hq:q<6:=(Bp.1 hu).1;rw[AH,h2 _ (by omega)];exact Y.cells m (by omega) q u hu
def Rx(ks:List DKey)(b:Bool)(c:Chg):Bool:=match Bj ks c.key with|some k=>decide (k.block=b)|none=>false
theorem WI{D:Nat->Prop}{b:Bool}{c:Chg}(J:De D w sv ks)(O:w.cell? ⟨E,0,none⟩=some sv)(Q:w.cell? ⟨I,0,none⟩=some (.bool b)) :
  AB prog 130 [.agg c.cells.toArray,.pointer (some ⟨E,0,none⟩),.pointer (some ⟨I,0,none⟩)] (fun v' w'=>v'=.bool (!Rx ks b c)/\Grow w w') w:=by
 apply Zw;refine Dq fun Z w1 S T o B _=>?_;refine AK (o.cell O fun h=>h) ?_;rw[AG];refine AK (B 0 _ rfl) ?_;refine AA (Jw (J.grow o) c.key) ?_;rintro _ w2 ⟨rfl,U⟩;refine BV ?_;refine BS (vs:=((Bj ks c.key).getD DKey.zero).cells) rfl rfl (G0.one (w:=w2) (x:=(Bj ks c.key).getD DKey.zero) rfl) fun b4 w3 V X Y j _=>?_;have i:=(o.trans U).trans Y;rw[Ar];unfold Rx;cases e:Bj ks c.key with
 |none=>exact As ⟨rfl,i⟩
 |some k=>
  rw[e] at j;refine AV ?_;rw[AG];refine AK (j 1 _ rfl) ?_;refine AK (i.cell Q fun h=>h) ?_;rw[Qt];refine⟨?_,i⟩;show Value.bool (k.block != b)=.bool (!decide (k.block=b));cases k.block<;>cases b<;>rfl
theorem QF{D S:Nat->Prop}{sv X:Value}{b:Bool}{p:List Chg}(Y:De D w sv ks)(hp:FY S w X p)(hl:p.length<=1099511627776) :
  AB prog 70 [sv,X,.bool b] (fun v' w'=>FY (fun x=>w.heap.size<=x) w' v' (Gf ks b p)/\Grow w w') w:=by
 apply dX;have O:sv.cells=#[sv]:=by
  obtain⟨b,m,kv,l,rfl,_⟩:=Y;rfl
 have Q:De (fun x=>D x/\x<w.heap.size) w sv ks:=Y.sub fun x E h=>⟨h,E⟩;refine⟨O,Dc fun I w1 a1 a6 o T _=>?_⟩;refine⟨rfl,Dc fun J w2 a7 a8 j U _=>?_⟩;refine AA (NY (hp.grow (o.trans j) (by decide) fun _ _ h=>h) (by omega)) ?_;rintro v3 w3 ⟨Z,V⟩;have c3:w2.cell? ⟨I,0,none⟩=some sv:=by have:=j.cell (T 0 _ rfl) fun h=>h;rwa [AH] at this
 have c5:w2.cell? ⟨J,0,none⟩=some (.bool b):=by have:=U 0 _ rfl;rwa [AH] at this
 have i:∀x,v3.ownBlock=some x->w2.heap.size<=x:=fun x e=>(AE.BA Z x e).1;have B:=(o.trans j).trans V;have tl:Va (Mod (fun x=>v3.ownBlock=some x) w3) (.func (.func 130) #[] #[.pointer (some ⟨I,0,none⟩),.pointer (some ⟨J,0,none⟩)]) fun c=>!Rx ks b c:=by
  intro W c K m hK;refine .inl ⟨_,[],[.pointer (some ⟨I,0,none⟩),.pointer (some ⟨J,0,none⟩)],rfl,by kernel_rfl,?_⟩;refine AA (WI ((Q.grow B).mod m fun x _ E e=>?_) (m.cell (V.cell c3 fun h=>h) fun e=>?_) (m.cell (V.cell c5 fun h=>h) fun e=>?_)) ?_
  .have:=i _ e;have:=E.2;have:=(o.trans j).size;omega
  .have h:w2.heap.size<=I:=i _ e;omega
  .have h:w2.heap.size<=J:=i _ e;omega
  .rintro _ W' ⟨rfl,g⟩;exact hK W' g
 refine AA (ZE Z hl tl) ?_;rintro v4 w4 ⟨h4,m4⟩;have e:(p.filter fun c=>!(!Rx ks b c))=Gf ks b p:=by simp only[qI];rfl
 rw[e] at h4;refine⟨BB.sub h4 (fun x _ e=>by have:=i x e;have:=(o.trans j).size;omega) (by decide) fun _ _ h=>h,?_⟩;exact B.next m4 fun x E e=>by have:=i x e;have:=(o.trans j).size;omega
end Go.Proofs.YtmdhibffnkhcnaaGreatDoor
