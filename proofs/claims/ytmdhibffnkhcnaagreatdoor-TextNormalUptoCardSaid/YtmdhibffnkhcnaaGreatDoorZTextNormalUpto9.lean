/- parts of the proof, written short by a program of ours -/
import Derived.Test.YtmdhibffnkhcnaaGreatDoorZTextNormalUpto8
import Derived.Lib.Zigzag
import Derived.Laws.Cover3
set_option linter.unusedSimpArgs false
set_option linter.unusedVariables false
namespace Go.Proofs.YtmdhibffnkhcnaaGreatDoor
open Go Proofs.Tryz
variable {i j c B E I:Nat}{w W w' W':World}{F S C M:Nat->Prop}{v fr sv:Value}{α:Type}{rs:List Int}{ks:List DKey}{K:Cont}{P:Program}{yo xo:Operand}
section
variable {v0 v1 v2 v3 v4 v5 v6 v7 v8 v9:Value}{K:Cont}{w:World}
theorem iH(h: AB prog 8 [v0] (fun O w1=>
 AQ 0 O fun Q=>
 AQ 1 O fun ak=>
 Ao (fun _vs w2=>∀_:Env,
 AB prog 11 [Q,v1] (fun S w3=>
 AQ 0 S fun t39=>
 AQ 1 S fun al=>
 AB prog 11 [Q,v1] (fun T w4=>
 AQ 0 T fun t45=>
 AQ 1 T fun t46=>
 Ao (fun _vs_1 w5=>∀_:Env,
 Ae v2 fun t55=>
 BW .i64 t55 (.int .i64 1) fun an=>
 Aq [(.int .i64 0)] (fun i j w6=>∀_:Env,
 Bb .i64 (nth i 0) an fun av=>
 AD av
 (BQ 3 v2 (nth i 0) fun ax=>
 AM 0 ax fun ay=>
 AL ay (fun b0 w7=>
 AB prog 12 [t39,b0] (fun _t66 w8=>
 BQ 3 v2 (nth i 0) fun t70=>
 AM 0 t70 fun b3=>
 AL b3 (fun b4 w9=>
 AB prog 12 [t45,b4] (fun _t73 b5=>
 AX .i64 (nth i 0) (.int .i64 1) fun b6=>
 j [b6] b5) w9) w8) w7) w6)
 (Ae v2 fun t77=>
 BW .i64 t77 (.int .i64 1) fun b7=>
 BQ 3 v2 b7 fun b8=>
 AM 0 b8 fun b9=>
 AL b9 (fun U ba=>
 AB prog 12 [t39,U] (fun bb V=>
 EB .i64 bb (.int .i64 0) fun bc=>
 AD bc
 (AB prog 10 [] (fun bd bk=>
 K bd bk) V)
 (AB prog 24 [U] (fun bl bn=>
 AB prog 12 [t45,bl] (fun bp X=>
 DJ .i64 bp (.int .i64 0) fun bs=>
 AD bs
 (AB prog 26 [t39] (fun bx c4=>
 AB prog 26 [t45] (fun c6 c7=>
 AB prog 25 [bx,c6] (fun c8 Y=>
 AD c8
 (AB prog 27 [t39] (fun Z c9=>
 AB prog 27 [t45] (fun a1 a6=>
 DJ .i64 Z a1 fun a7=>
 AD a7
 (AB prog 10 [] (fun a8 ca=>
 K a8 ca) a6)
 (K (.bool false) a6)) c9) Y)
 (K (.bool false) Y)) c7) c4) X)
 (K (.bool false) X)) bn) V)) ba) w6)) w5) (fun cc=>
 EB .i64 al (.int .i64 0) fun cd=>
 AD cd
 (AB prog 10 [] (fun t53 ch=>
 K t53 ch) w4)
 (EB .i64 t46 (.int .i64 0) fun cn=>
 AD cn
 (AB prog 10 [] (fun o cv=>
 K o cv) w4)
 (cc [] w4)))) w3) w2) (fun J=>
 EB .i64 ak (.int .i64 0) fun cx=>
 AD cx
 (AB prog 10 [] (fun dk dv=>
 K dk dv) w1)
 (AB prog 9 [v0,v1,v2] (fun dT B=>
 CE dT fun e1=>
 AD e1
 (AB prog 10 [] (fun E e2=>
 K E e2) B)
 (Ae v2 fun e3=>
 DJ .i64 e3 (.int .i64 0) fun e4=>
 AD e4
 (AB prog 10 [] (fun I e5=>
 K I e5) B)
 (J [] B))) w1))) w):AB prog 6 [v0,v1,v2] K w:=cO (aN (aN (.cut [] [(6,6),(20,34)] (aN (aO aE .nil)) (aN (aN (.cut [] [(6,6),(47,53)] (aN (aO aE .nil)) (aO (aN (.node [57] [(13,13),(57,74)] (aN (aO aE (aO (aN aE) .nil))) .nil)) (aN (aO (aN (aO aE .nil)) aE))))))))) func6 h (by kernel_rfl)
theorem iJ(h: Ao (fun _vs U=>∀_:Env,
 Ae v2 fun o=>
 Aq [(.int .i64 0)] (fun i j w2=>∀_:Env,
 Bb .i64 (nth i 0) o fun B=>
 AD B
 (BQ 3 v2 (nth i 0) fun t22=>
 AM 0 t22 fun E=>
 AL E (fun I V=>
 AB prog 34 [I] (fun t25 w4=>
 Eu .i64 t25 (.int .i64 100) fun O=>
 AD O
 (K (.bool false) w4)
 (AX .i64 (nth i 0) (.int .i64 1) fun Q=>
 j [Q] w4)) V) w2)
 (K (.bool true) w2)) U) (fun J=>
 Ae v2 fun t9=>
 Eu .i64 t9 (.int .i64 30) fun S=>
 AD S
 (K (.bool false) w)
 (Eu .i64 v1 (.int .i64 2000) fun T=>
 AD T
 (K (.bool false) w)
 (J [] w)))):AB prog 9 [v0,v1,v2] K w:=cO (aN (.cut [] [(6,6),(8,14)] (aN (aO aE .nil)) (aO (aN (.node [17] [(6,7),(17,27)] (aN (aO aE (aO (aN (aN (aO aE .nil))) .nil))) .nil)) aE))) func9 h (by kernel_rfl)
theorem fC(h: Ah [(0,1),(1,1),(2,1),(3,1),(4,1),(5,1)] [(.int .i64 0),(.bool false),(.int .u8 0),(.bool false),(.bool false),(.int .i64 0)] [(0,(.int .i64 1)),(2,(.int .u8 1))] fun t9=>
 Bg 65 6 1 [(.int .i64 0),(.bool false),(.int .u8 0),(.bool false),(.bool false),(.int .i64 0)] [(0,t9)] (fun V w1=>
 AB prog 8 [V] (fun j w2=>
 AQ 0 j fun X=>
 AQ 1 j fun Y=>
 AB prog 11 [X,(.int .i64 100)] (fun o U=>
 AQ 0 o fun i=>
 AQ 1 o fun Z=>
 Ao (fun _vs w4=>∀_:Env,
 Ah [(0,1),(1,1),(2,1),(3,1)] [(.int .u8 0),(.int .i64 0),(.int .u64 0),(.string (ByteArray.mk #[]))] [(0,(.int .u8 1)),(1,(.int .i64 1))] fun a1=>
 Ah [(0,1),(1,4)] [(.int .i64 0),(.int .u8 0),(.int .i64 0),(.int .u64 0),(.string (ByteArray.mk #[]))] [(0,(.int .i64 1)),(1,a1)] fun a6=>
 Bg 79 5 1 [(.int .i64 0),(.int .u8 0),(.int .i64 0),(.int .u64 0),(.string (ByteArray.mk #[]))] [(0,a6)] (fun B w5=>
 Ao (fun _vs_1 w6=>∀_:Env,
 Ao (fun _vs_2 w7=>∀_:Env,
 AB prog 14 [i,(.int .i64 1)] (fun E w8=>
 AQ 0 E fun a7=>
 AQ 1 E fun t70=>
 DJ .i64 a7 (.int .i64 2) fun a8=>
 AD a8
 (DJ .i64 t70 (.int .i64 0) fun ak=>
 AD ak
 (Ah [(0,1),(1,1),(2,1),(3,1),(4,1)] [(.int .u8 0),(.int .i64 0),(.slice none 0 0),(.slice none 0 0),(.slice none 0 0)] [(0,(.int .u8 3)),(1,(.int .i64 4))] fun al=>
 Bg 83 5 1 [(.int .u8 0),(.int .i64 0),(.slice none 0 0),(.slice none 0 0),(.slice none 0 0)] [(0,al)] (fun an w9=>
 AB prog 12 [i,an] (fun av ax=>
 DJ .i64 av (.int .i64 6) fun ay=>
 K ay ax) w9) w8)
 (K (.bool false) w8))
 (K (.bool false) w8)) w7) (fun b0=>
 Ah [(0,1),(1,1),(2,1),(3,1),(4,1)] [(.int .u8 0),(.int .i64 0),(.slice none 0 0),(.slice none 0 0),(.slice none 0 0)] [(0,(.int .u8 1)),(1,(.int .i64 1))] fun t55=>
 Bg 21 1 1 [(.int .i32 0)] [(0,(.int .i32 10))] (fun b3 b4=>
 Ah [(0,1),(1,1),(2,1),(3,1),(4,1)] [(.int .u8 0),(.int .i64 0),(.slice none 0 0),(.slice none 0 0),(.slice none 0 0)] [(0,(.int .u8 2)),(2,b3)] fun b5=>
 Bg 83 5 2 [(.int .u8 0),(.int .i64 0),(.slice none 0 0),(.slice none 0 0),(.slice none 0 0)] [(0,t55),(1,b5)] (fun b6 b7=>
 AB prog 12 [i,b6] (fun b8 I=>
 EB .i64 b8 (.int .i64 0) fun b9=>
 AD b9
 (K (.bool false) I)
 (AB prog 13 [i] (fun ba O=>
 EB .i64 ba (.int .i64 2) fun bb=>
 AD bb
 (K (.bool false) O)
 (b0 [] O)) I)) b7) b4) w6)) (fun bc=>
 Bg 21 1 2 [(.int .i32 0)] [(0,(.int .i32 97)),(1,(.int .i32 98))] (fun bd bk=>
 Ah [(0,1),(1,1),(2,1),(3,1),(4,1)] [(.int .u8 0),(.int .i64 0),(.slice none 0 0),(.slice none 0 0),(.slice none 0 0)] [(0,(.int .u8 2)),(2,bd),(3,B)] fun bl=>
 Bg 83 5 1 [(.int .u8 0),(.int .i64 0),(.slice none 0 0),(.slice none 0 0),(.slice none 0 0)] [(0,bl)] (fun bn bp=>
 AB prog 12 [i,bn] (fun bs Q=>
 EB .i64 bs (.int .i64 0) fun bx=>
 AD bx
 (K (.bool false) Q)
 (AB prog 18 [i] (fun c4 c6=>
 Ah [(0,1),(1,1)] [(.int .i64 0),(.slice none 0 0)] [(0,(.int .i64 2)),(1,B)] fun c7=>
 Ah [(0,1),(1,1)] [(.int .i64 0),(.slice none 0 0)] [(0,(.int .i64 1))] fun c8=>
 Bg 53 2 2 [(.int .i64 0),(.slice none 0 0)] [(0,c7),(1,c8)] (fun t45 c9=>
 AB prog 35 [c4,t45] (fun t46 S=>
 CE t46 fun ca=>
 AD ca
 (K (.bool false) S)
 (AB prog 27 [i] (fun cc T=>
 EB .i64 cc (.int .i64 2) fun cd=>
 AD cd
 (K (.bool false) T)
 (bc [] T)) S)) c9) c6) Q)) bp) bk) w5)) w4) (fun J=>
 EB .i64 Y (.int .i64 0) fun ch=>
 AD ch
 (K (.bool false) U)
 (EB .i64 Z (.int .i64 0) fun cn=>
 AD cn
 (K (.bool false) U)
 (CY i fun cv=>
 AD (.bool cv)
 (K (.bool false) U)
 (J [] U))))) w2) w1) w):AB prog 10 [] K w:=cO (aN (aN (aN (.cut [] [(0,0),(19,28)] (aN (aO aE .nil)) (aN (.cut [] [(0,0),(32,53)] (aN (aO aE .nil)) (.cut [] [(0,0),(54,65)] (aN (aO aE .nil)) (aN aE)))))))) func10 h (by kernel_rfl)
theorem bw(h: Ao (fun _vs S=>∀_:Env,
 AB prog 36 [] (fun j w2=>
 AB prog 37 [] (fun o T=>
 AB prog 38 [] (fun B w4=>
 AB prog 39 [v0] (fun E U=>
 Ah [(0,1),(1,1),(2,1),(3,1),(4,1),(5,1)] [(.pointer none),(.int .i64 0),(.pointer none),(.pointer none),(.pointer none),(.pointer none)] [(0,v0),(1,v1),(2,j),(3,o),(4,B),(5,E)] fun I=>
 Bh 94 I (fun i V=>
 Bg 21 1 1 [(.int .i32 0)] [(0,(.int .i32 10))] (fun O X=>
 AB prog 40 [i,(.int .i64 0),O,(.slice none 0 0)] (fun _t24 Y=>
 K (.tuple #[i,(.int .i64 0)]) Y) X) V) U) w4) T) w2) S) (fun J=>
 Bb .i64 v1 (.int .i64 1) fun Z=>
 AD Z
 (K (.tuple #[(.pointer none),(.int .i64 2)]) w)
 (Kk .i64 v1 (.int .i64 536870912) fun Q=>
 AD Q
 (K (.tuple #[(.pointer none),(.int .i64 2)]) w)
 (J [] w)))):AB prog 11 [v0,v1] K w:=cO (aN (.cut [] [(4,5),(7,12)] (aN (aO aE .nil)) (aN (aN aE)))) func11 h (by kernel_rfl)
def S12(v0 v1:Value)(K:Cont)(w:World):Prop:=
 AB prog 41 [v0] (fun Z Y=>
 CE Z fun a1=>
 AD a1
 (K (.int .i64 1) Y)
 (Ay [6,11] [[],[0],[0,1],[0,1,2],[],[],[5],[],[7],[7,8],[7,8,9],[0,1,2,3,4,5,6,7,8,9,10],[0,1,2,3,4,5,6,7,8,9,10,11]] Y.drew (fun M St=>
 AJ v0 fun a6=>
 AM 0 a6 fun a7=>
 BF (St 3) a7 fun a8=>
 AB prog 17 [v0] (fun ak w2=>
 Mod (M 6) Y.drew w2/\
 AJ v0 fun t22=>
 AM 1 t22 fun al=>
 BF (St 10) al fun an=>
 AB prog 42 [a8,v1,ak,an] (fun t25 w3=>
 Mod (M 11) w2 w3/\
 EB .i64 t25 (.int .i64 0) fun av=>
 AD av
 (K t25 w3)
 (Ae v1 fun ax=>
 Aq [(.int .i64 0),(.int .i64 0)] (fun vs o w4=>∀_:Env,
 Bb .i64 (nth vs 1) ax fun ay=>
 AD ay
 (BQ 5 v1 (nth vs 1) fun b0=>
 Af 5 b0 (fun b3 w5=>
 Am 83 [(.int .u8 0),(.int .i64 0),(.slice none 0 0),(.slice none 0 0),(.slice none 0 0)] (fun S w6=>
 Ac 5 S b3 (fun w7=>
 AM 0 S fun b4=>
 AL b4 (fun T w8=>
 DJ .u8 T (.int .u8 1) fun b5=>
 AD b5
 (AM 1 S fun b6=>
 AL b6 (fun b7 w9=>
 AX .i64 (nth vs 0) b7 fun b8=>
 AM 4 S fun t45=>
 AL t45 (fun t46 b9=>
 AB prog 43 [v0,(nth vs 0),b8,t46] (fun _t47 ba=>
 AM 1 S fun bb=>
 AL bb (fun t50 bc=>
 AX .i64 (nth vs 0) t50 fun bd=>
 AX .i64 (nth vs 1) (.int .i64 1) fun bk=>
 o [bd,bk] bc) ba) b9) w9) w8)
 (DJ .u8 T (.int .u8 3) fun t53=>
 AD t53
 (AM 1 S fun bl=>
 AL bl (fun bn bp=>
 AX .i64 (nth vs 0) bn fun bs=>
 AB prog 44 [v0,(nth vs 0),bs] (fun _t60 bx=>
 AX .i64 (nth vs 1) (.int .i64 1) fun I=>
 o [(nth vs 0),I] bx) bp) w8)
 (AX .i64 (nth vs 1) (.int .i64 1) fun O=>
 o [(nth vs 0),O] w8))) w7) w6) w5) w4)
 (Ae v1 fun c4=>
 Aq [(.int .i64 0),(.int .i64 0)] (fun i j U=>∀_:Env,
 Bb .i64 (nth i 1) c4 fun c6=>
 AD c6
 (BQ 5 v1 (nth i 1) fun t66=>
 Af 5 t66 (fun c7 c8=>
 Am 83 [(.int .u8 0),(.int .i64 0),(.slice none 0 0),(.slice none 0 0),(.slice none 0 0)] (fun B c9=>
 Ac 5 B c7 (fun ca=>
 Ao (fun E cc=>∀_:Env,
 AM 0 B fun cd=>
 AL cd (fun t76 V=>
 DJ .u8 t76 (.int .u8 2) fun t77=>
 AD t77
 (AM 2 B fun ch=>
 AL ch (fun cn cv=>
 AM 3 B fun cx=>
 AL cx (fun dk dv=>
 AB prog 40 [v0,(nth E 0),cn,dk] (fun _t84 dT=>
 AM 2 B fun e1=>
 AL e1 (fun e2 e3=>
 Ae e2 fun e4=>
 AX .i64 (nth E 0) e4 fun e5=>
 AX .i64 (nth i 1) (.int .i64 1) fun e6=>
 j [e5,e6] e3) dT) dv) cv) V)
 (AX .i64 (nth i 1) (.int .i64 1) fun Q=>
 j [(nth E 0),Q] V)) cc) (fun J=>
 AM 0 B fun e7=>
 AL e7 (fun e8 X=>
 DJ .u8 e8 (.int .u8 1) fun t70=>
 AD t70
 (AM 1 B fun e9=>
 AL e9 (fun ea ec=>
 AX .i64 (nth i 0) ea fun ed=>
 J [ed] ec) X)
 (J [(nth i 0)] X)) ca)) c9) c8) U)
 (K (.int .i64 0) U)) w4)) w3)) w2) Y.drew))) w
theorem fN(h:S12 v0 v1 K w):AB prog 12 [v0,v1] K w:=cO (aN (aO (aN (aO aE .nil)) (aO (aO (.dc [6,11] [[],[0],[0,1],[0,1,2],[],[],[5],[],[7],[7,8],[7,8,9],(aR 11),(aR 12)] []) (aN (aO aE .nil))) (aN (aO (aN (.node [6,31] [(6,6),(8,8),(31,61)] (aN (aO aE (aO (aN (aN (aN (aO aE (aN aE))))) .nil))) .nil)) (aN (aO (aN (.node [6,64] [(6,6),(10,10),(64,90)] (aN (aO aE (aO (aN (.cut [6] [(6,6),(68,74)] (aN aE) (aN (aO aE .nil)))) .nil))) .nil)) aE))))))) func12 h (by kernel_rfl)
theorem dz(h: AB prog 41 [v0] (fun t4 j=>
 CE t4 fun t5=>
 AD t5
 (K (.int .i64 0) j)
 (AJ v0 fun o=>
 AM 2 o fun B=>
 AL B (fun t9 w2=>
 AB prog 45 [t9] (fun i E=>
 K i E) w2) j)) w):AB prog 13 [v0] K w:=cO (aN (aO (aN (aO aE .nil)) aE)) func13 h (by kernel_rfl)
theorem dr(h: AB prog 41 [v0] (fun O J=>
 CE O fun Q=>
 AD Q
 (K (.tuple #[(.int .i64 0),(.int .i64 1)]) J)
 (AJ v0 fun j=>
 AM 2 j fun o=>
 AL o (fun B w2=>
 AB prog 46 [B,v1] (fun i S=>
 AQ 0 i fun E=>
 AQ 1 i fun I=>
 K (.tuple #[E,I]) S) w2) J)) w):AB prog 14 [v0,v1] K w:=cO (aN (aO (aN (aO aE .nil)) aE)) func14 h (by kernel_rfl)
theorem cZ(h: AB prog 41 [v0] (fun t4 j=>
 CE t4 fun t5=>
 AD t5
 (K (.int .i64 0) j)
 (AJ v0 fun o=>
 AM 2 o fun B=>
 AL B (fun t9 w2=>
 AB prog 54 [t9] (fun i E=>
 K i E) w2) j)) w):AB prog 17 [v0] K w:=cO (aN (aO (aN (aO aE .nil)) aE)) func17 h (by kernel_rfl)
theorem cT(h: GM 30 v0 (fun I w1=>
 Am 46 [(.slice none 0 0)] (fun i w2=>
 AL I (fun t6 w3=>
 AB prog 41 [t6] (fun t7 w4=>
 CE t7 fun t8=>
 AD t8
 (BC i (.slice none 0 0) (fun w5=>
 AL i (fun r0 w6=>
 K r0 w6) w5) w4)
 (AL I (fun t9 w7=>
 AJ t9 fun J=>
 AM 3 J fun O=>
 AL O (fun Q w8=>
 AB prog 55 [Q] (fun S T=>
 Iz prog Dh S 1 (fun args U V=>
 Am 108 [(.int .i64 0),(.int .i64 0)] (fun t3 X=>
 Ac 2 t3 (nth args 0) (fun Y=>
 U (fun post j=>
 Ay [6] [[],[0],[0,1],[0,1,2],[],[4],[0,1,2,3,4,5],[0,1,2,3,4,5,6],[0,1,2,3,4,5,6,7],[0,1,2,3,4,5,6,7],[0,1,2,3,4,5,6,7,8],[0,1,2,3,4,5,6,7,8,9,10]] j.drew (fun M Z=>
 BF (Z 0) I fun a1=>
 AJ a1 fun a6=>
 AM 5 a6 fun a7=>
 BF (Z 3) a7 fun a8=>
 AM 1 t3 fun ak=>
 BF (Z 5) ak fun al=>
 AB prog 51 [a8,al] (fun t22 o=>
 Mod (M 6) j.drew o/\
 AQ 0 t22 fun av=>
 AQ 1 t22 fun _t24=>
 AL i (fun t25 ax=>
 AM 0 t3 fun ay=>
 AL ay (fun b0 b3=>
 Ah [(0,1),(1,1)] [(.int .i64 0),(.slice none 0 0)] [(0,b0),(1,av)] fun b4=>
 Bg 53 2 1 [(.int .i64 0),(.slice none 0 0)] [(0,b4)] (fun b5 b6=>
 runK prog (Builtin.append_ #[46,46] 46 [t25,b5].toArray) (fun b7 b8=>
 BC i b7 (fun b9=>
 post .normal b9) b8) b6) b3) ax) o) j.drew)) Y) X) V) (fw (fun ba=>
 AL i (fun bb bc=>
 BC i bb (fun bd=>
 Fx T.heap.size (fun bk=>
 AL i (fun B bl=>
 K B bl) bk) bd) bc) ba) (fun bn=>
 Fx T.heap.size (fun bp=>
 AL i (fun E bs=>
 K E bs) bp) bn) []) T) w8) w7) w4)) w3) w2) w1) w):AB prog 18 [v0] K w:=
 G5 (P:=prog) (ok:=Dh) (n:=33) (fn:=Tryz.f18) (c:=JC Tryz.f18) (rs:=[.cell 2 46]) (an:=(aN (aO (aN (aO aE .nil)) (aO (aN (aN (aO (.dc [6] [[],[0],[0,1],[0,1,2],[],[4],(aR 6),(aR 7),(aR 8),(aR 8),(aR 9),(aR 11)] []) .nil))) aE)))) Fc mixed func18 (by kernel_rfl) (by kernel_rfl) (by kernel_rfl) (by kernel_rfl) (Eq.mp (by kernel_rfl) h)
theorem ck(h: AB prog 41 [v0] (fun I E=>
 CE I fun J=>
 AD J
 (K (.slice none 0 0) E)
 (AB prog 17 [v0] (fun j w2=>
 AB prog 15 [v0,(.int .i64 0),j] (fun i O=>
 AQ 0 i fun o=>
 AQ 1 i fun _t14=>
 AB prog 66 [o] (fun B w4=>
 K B w4) O) w2) E)) w):AB prog 26 [v0] K w:=cO (aN (aO (aN (aO aE .nil)) (aN aE))) func26 h (by kernel_rfl)
theorem fA(h: AB prog 41 [v0] (fun t4 j=>
 CE t4 fun t5=>
 AD t5
 (K (.int .i64 0) j)
 (AJ v0 fun o=>
 AM 5 o fun B=>
 AL B (fun t9 w2=>
 AB prog 67 [t9] (fun i E=>
 K i E) w2) j)) w):AB prog 27 [v0] K w:=cO (aN (aO (aN (aO aE .nil)) aE)) func27 h (by kernel_rfl)
theorem di(h: Ay [9,10] [[],[0],[0,1],[0,1,2],[],[4],[4,5],[4,5,6],[],[4,5,6,7,8],[0,1,2,3,4,5,6,7,8,9],[0,1,2,3,4,5,6,7,8,9,10],[0,1,2,3,4,5,6,7,8,9,10,11],[0,1,2,3,4,5,6,7,8,9,10,11],[0,1,2,3,4,5,6,7,8,9,10,11,12],[0,1,2,3,4,5,6,7,8,9,10,11,12,13,14]] w.drew (fun M St=>
 AJ v0 fun a1=>
 AM 5 a1 fun a6=>
 BF (St 3) a6 fun a7=>
 AJ v0 fun a8=>
 AM 0 a8 fun t22=>
 BF (St 7) t22 fun ak=>
 AB prog 75 [ak,v3,(.bool false)] (fun t25 w1=>
 Mod (M 9) w.drew w1/\
 AB prog 74 [a7,t25] (fun Q w2=>
 Mod (M 10) w1 w2/\
 AQ 0 Q fun j=>
 AQ 1 Q fun _t28=>
 AJ v0 fun al=>
 AM 0 al fun an=>
 AL an (fun av w3=>
 AB prog 75 [av,v3,(.bool true)] (fun ax w4=>
 Ae v2 fun ay=>
 Aq [(.slice none 0 0),(.slice none 0 0),(.int .i64 0)] (fun vs o w5=>∀_:Env,
 Bb .i64 (nth vs 2) ay fun b0=>
 AD b0
 (Ao (fun i w6=>∀_:Env,
 AX .i64 (nth vs 2) (.int .i64 1) fun b3=>
 o [(nth i 0),(nth i 1),b3] w6) (fun J=>
 BQ 1 v2 (nth vs 2) fun b4=>
 AL b4 (fun b5 w7=>
 DJ .i32 b5 (.int .i32 10) fun b6=>
 AD b6
 (Ah [(0,1),(1,1)] [(.int .i64 0),(.int .i64 0)] [(0,(.int .i64 1))] fun t46=>
 Bg 108 2 1 [(.int .i64 0),(.int .i64 0)] [(0,t46)] (fun b7 w8=>
 runK prog (Builtin.append_ #[101,101] 101 [(nth vs 0),b7].toArray) (fun b8 w9=>
 Bg 43 1 1 [(.slice none 0 0)] [(0,ax)] (fun b9 ba=>
 runK prog (Builtin.append_ #[50,50] 50 [(nth vs 1),b9].toArray) (fun bb bc=>
 J [b8,bb] bc) ba) w9) w8) w7)
 (Ae (nth vs 0) fun bd=>
 BW .i64 bd (.int .i64 1) fun t55=>
 Kk .i64 t55 (.int .i64 0) fun bk=>
 AD bk
 (BW .i64 (nth vs 2) (.int .i64 1) fun bl=>
 BQ 1 v2 bl fun bn=>
 AL bn (fun bp S=>
 EB .i32 bp (.int .i32 10) fun bs=>
 AD bs
 (BQ 2 (nth vs 0) t55 fun bx=>
 AM 0 bx fun c4=>
 AL c4 (fun t70 c6=>
 AX .i64 t70 (.int .i64 1) fun c7=>
 BQ 2 (nth vs 0) t55 fun c8=>
 AM 0 c8 fun c9=>
 BC c9 c7 (fun ca=>
 J [(nth vs 0),(nth vs 1)] ca) c6) S)
 (Ah [(0,1),(1,1)] [(.int .i64 0),(.int .i64 0)] [(0,(.int .i64 1)),(1,j)] fun t76=>
 Bg 108 2 1 [(.int .i64 0),(.int .i64 0)] [(0,t76)] (fun t77 cc=>
 runK prog (Builtin.append_ #[101,101] 101 [(nth vs 0),t77].toArray) (fun cd ch=>
 J [cd,(nth vs 1)] ch) cc) S)) w7)
 (Ah [(0,1),(1,1)] [(.int .i64 0),(.int .i64 0)] [(0,(.int .i64 1)),(1,j)] fun B=>
 Bg 108 2 1 [(.int .i64 0),(.int .i64 0)] [(0,B)] (fun E cn=>
 runK prog (Builtin.append_ #[101,101] 101 [(nth vs 0),E].toArray) (fun I cv=>
 J [I,(nth vs 1)] cv) cn) w7))) w5))
 (Ay [6,8] [[],[0],[0,1],[0,1,2],[],[],[4,5],[],[0,1,2,3,4,5,6,7]] w5.drew (fun T U=>
 AJ v0 fun cx=>
 AM 4 cx fun dk=>
 BF (U 3) dk fun dv=>
 AB prog 50 [v0,v1] (fun dT O=>
 Mod (T 6) w5.drew O/\
 AB prog 76 [dv,dT,(nth vs 1)] (fun _t88 V=>
 Mod (T 8) O V/\
 AJ v0 fun e1=>
 AM 2 e1 fun e2=>
 AL e2 (fun e3 e4=>
 AB prog 77 [e3,v1,v2] (fun _t95 e5=>
 AB prog 78 [v0,v1,v1,(nth vs 0)] (fun _t100 e6=>
 AJ v0 fun X=>
 AM 5 X fun Y=>
 AL Y (fun Z e7=>
 AB prog 79 [Z,j] (fun _t106 e8=>
 K (.tuple #[]) e8) e7) e6) e5) e4) V) O) w5.drew))) w4) w3) w2) w1) w.drew)):AB prog 40 [v0,v1,v2,v3] K w:=cO (aO (.dc [9,10] [[],[0],[0,1],[0,1,2],[],[4],[4,5],[4,5,6],[],[4,5,6,7,8],(aR 10),(aR 11),(aR 12),(aR 12),(aR 13),(aR 15)] []) (aN (aN (aN (aO (aN (.node [11,12,37] [(11,14),(37,79)] (aN (aO aE (.cut [11,12] [(11,14),(39,78)] (aN (aN (aO aE (aN (aN aE))))) .nil))) .nil)) (aO (.dc [6,8] [[],[0],[0,1],[0,1,2],[],[],[4,5],[],(aR 8)] []) (aN aE))))))) func40 h (by kernel_rfl)
theorem cw(h: CY v0 fun j=>
 AD (.bool (!j))
 (AJ v0 fun o=>
 AM 2 o fun B=>
 AL B (fun t9 E=>
 CY t9 fun i=>
 K (.bool (!i)) E) w)
 (K (.bool false) w)):AB prog 41 [v0] K w:=cO (aN aE) func41 h (by kernel_rfl)
theorem cX(h: AB prog 80 [v0,v1] (fun i j=>
 EB .i64 i (.int .i64 0) fun o=>
 AD o
 (K i j)
 (Ao (fun vs w2=>∀_:Env,
 AD (nth vs 0)
 (K (.int .i64 5) w2)
 (AB prog 82 [v1,v2] (fun B Y=>
 CE B fun E=>
 AD E
 (K (.int .i64 6) Y)
 (AB prog 83 [v0,v1] (fun I w4=>
 CE I fun t39=>
 AD t39
 (K (.int .i64 7) w4)
 (AB prog 81 [v1] (fun O w5=>
 BW .i64 v2 O fun Q=>
 AB prog 84 [v1] (fun t46 Z=>
 AX .i64 Q t46 fun S=>
 Eu .i64 S v3 fun T=>
 AD T
 (K (.int .i64 8) Z)
 (K (.int .i64 0) Z)) w5) w4)) Y)) w2)) (fun J=>
 Bb .i64 v2 (.int .i64 1) fun U=>
 AD U
 (J [(.bool true)] j)
 (Eu .i64 v2 v3 fun t22=>
 AD t22
 (J [(.bool true)] j)
 (AB prog 81 [v1] (fun V w7=>
 Eu .i64 V v2 fun X=>
 J [X] w7) j))))) w):AB prog 42 [v0,v1,v2,v3] K w:=cO (aN (aO (aN (aN (aO aE .nil))) (aO (.cut [16] [(16,29)] .nil (aO aE (aN (aO aE (aN (aO aE (aN (aO aE .nil)))))))) aE))) func42 h (by kernel_rfl)
theorem eH(h: Ao (fun _vs w1=>∀_:Env,
 AJ v0 fun Y=>
 AM 0 Y fun Z=>
 AL Z (fun a1 w2=>
 AB prog 70 [a1,v3,(.bool false)] (fun Q w3=>
 Aq [v1] (fun i j w4=>∀_:Env,
 Ao (fun _vs_2 w5=>∀_:Env,
 Ay [6,8] [[],[0],[0,1],[0,1,2],[],[],[4,5],[4,5,6],[0,1,2,3,4,5,6,7],[0,1,2,3,4,5,6,7,8],[0,1,2,3,4,5,6,7,8,9],[0,1,2,3,4,5,6,7,8,9],[0,1,2,3,4,5,6,7,8,9,10],[0,1,2,3,4,5,6,7,8,9,10,11,12]] w5.drew (fun M St=>
 AJ v0 fun a6=>
 AM 2 a6 fun t53=>
 BF (St 3) t53 fun a7=>
 AB prog 50 [v0,(nth i 0)] (fun a8 w6=>
 Mod (M 6) w5.drew w6/\
 AX .i64 a8 (.int .i64 1) fun ak=>
 AB prog 46 [a7,ak] (fun S w7=>
 Mod (M 8) w6 w7/\
 AQ 0 S fun B=>
 AQ 1 S fun _t61=>
 BW .i64 B (.int .i64 1) fun al=>
 K3 .i64 al v2 fun T=>
 Bb .i64 (nth i 0) T fun an=>
 AD an
 (AB prog 86 [v0,(nth i 0),T,Q] (fun _t73 w8=>
 j [B] w8) w7)
 (j [B] w7)) w6) w5.drew)) (fun av=>
 Ae Q fun ax=>
 Eu .i64 ax (.int .i64 0) fun ay=>
 AD ay
 (Bb .i64 (nth i 0) v2 fun b0=>
 AD b0
 (av [] w4)
 (K (.tuple #[]) w4))
 (K (.tuple #[]) w4))) w3) w2) w1) (fun J=>
 AJ v0 fun b3=>
 AM 0 b3 fun b4=>
 AL b4 (fun b5 w9=>
 AB prog 70 [b5,v3,(.bool true)] (fun U o=>
 Ae U fun b6=>
 Eu .i64 b6 (.int .i64 0) fun t22=>
 AD t22
 (Ay [6,9,11] [[],[0],[0,1],[0,1,2],[],[],[4,5],[],[],[4,5,6,7,8],[],[0,1,2,3,4,5,6,7,8,9,10]] o.drew (fun E V=>
 AJ v0 fun b7=>
 AM 4 b7 fun t25=>
 BF (V 3) t25 fun b8=>
 AB prog 50 [v0,v1] (fun b9 I=>
 Mod (E 6) o.drew I/\
 AB prog 50 [v0,v2] (fun ba O=>
 Mod (E 9) I O/\
 AB prog 85 [b8,b9,ba,U] (fun _t34 X=>
 Mod (E 11) O X/\
 J [] X) O) I) o.drew))
 (J [] o)) w9) w)):AB prog 43 [v0,v1,v2,v3] K w:=cO (.cut [] [(8,8),(14,34)] (aN (aN (aO (.dc [6,9,11] [[],[0],[0,1],[0,1,2],[],[],[4,5],[],[],[4,5,6,7,8],[],(aR 11)] []) .nil))) (aN (aN (.node [10] [(10,13),(42,74)] (.cut [] [(42,49)] (aN aE) (aO (.dc [6,8] [[],[0],[0,1],[0,1,2],[],[],[4,5],[4,5,6],(aR 8),(aR 9),(aR 10),(aR 10),(aR 11),(aR 13)] [[6]]) (aO (aN (aN aE)) .nil))) .nil)))) func43 h (by kernel_rfl)
theorem cF(h: Ay [6,9,10] [[],[0],[0,1],[0,1,2],[],[],[4,5],[],[],[4,5,6,7,8],[0,1,2,3,4,5,6,7,8,9]] w.drew (fun M O=>
 AJ v0 fun Q=>
 AM 4 Q fun S=>
 BF (O 3) S fun t9=>
 AB prog 50 [v0,v1] (fun i j=>
 Mod (M 6) w.drew j/\
 AB prog 50 [v0,v2] (fun o w2=>
 Mod (M 9) j w2/\
 AB prog 87 [t9,i,o] (fun _t16 J=>
 Mod (M 10) w2 J/\
 AJ v0 fun B=>
 AM 2 B fun E=>
 AL E (fun I w4=>
 AB prog 88 [I,v1,v2] (fun _t23 T=>
 AB prog 78 [v0,v1,v2,(.slice none 0 0)] (fun _t27 U=>
 K (.tuple #[]) U) T) w4) J) w2) j) w.drew)):AB prog 44 [v0,v1,v2] K w:=cO (aO (.dc [6,9,10] [[],[0],[0,1],[0,1,2],[],[],[4,5],[],[],[4,5,6,7,8],(aR 10)] []) aE) func44 h (by kernel_rfl)
theorem Ut(h: AJ v0 fun t9=>
 AM 2 t9 fun j=>
 AL j (fun o E=>
 AB prog 53 [o,v1] (fun i w2=>
 AQ 0 i fun B=>
 AQ 1 i fun _t15=>
 K B w2) E) w):AB prog 50 [v0,v1] K w:=cO (aN (aN aE)) func50 h (by kernel_rfl)
theorem cL(h: AB prog 59 [] (fun t5 O=>
 Ae v0 fun Q=>
 BW .i64 Q (.int .i64 1) fun j=>
 Kk .i64 j (.int .i64 0) fun o=>
 AD o
 (runK prog (Instr.sliceAt 40 v0 none (some j) none) (fun B w2=>
 AB prog 122 [t5,B] (fun _t15 S=>
 BQ 2 v0 j fun E=>
 AM 1 E fun I=>
 AL I (fun J w4=>
 AB prog 123 [(.slice none 0 0),J] (fun t22 T=>
 AB prog 60 [t5,(.int .i64 1),t22] (fun _t23 U=>
 AB prog 63 [t5] (fun t25 V=>
 K t25 V) U) T) w4) S) w2) O)
 (AB prog 63 [t5] (fun i X=>
 K i X) O)) w):AB prog 66 [v0] K w:=cO (aN (aN (aO (aN (aN (aO aE .nil))) aE))) func66 h (by kernel_rfl)
theorem fE(h: GM 24 v0 (fun t3 j=>
 GM 4 v2 (fun t5 w2=>
 AB prog 107 [v1] (fun o B=>
 AB prog 145 [o,(.func (.func 146) #[] #[t3,t5])] (fun i w4=>
 K i w4) B) w2) j) w):AB prog 75 [v0,v1,v2] K w:=cO (aN aE) func75 h (by kernel_rfl)
theorem de(h: BW .i64 v1 (.int .i64 1) fun al=>
 KM .i64 al (.int .i64 0) fun t22=>
 AX .i64 v2 (.int .i64 1) fun an=>
 AJ v0 fun av=>
 AM 3 av fun ax=>
 AL ax (fun ay w1=>
 AB prog 111 [ay] (fun b0 w2=>
 K3 .i64 an b0 fun Q=>
 AJ v0 fun b3=>
 AM 3 b3 fun b4=>
 AL b4 (fun b5 w3=>
 AB prog 48 [b5,t22,Q] (fun S w4=>
 AQ 0 S fun t39=>
 AQ 1 S fun _t40=>
 AJ v0 fun b6=>
 AM 3 b6 fun b7=>
 AL b7 (fun b8 w5=>
 AB prog 151 [b8,v1,v2,v3] (fun _t48 w6=>
 BW .i64 v1 v2 fun b9=>
 AX .i64 Q b9 fun t53=>
 Ae v3 fun t55=>
 Aq [t53,(.int .i64 0)] (fun vs I w7=>∀_:Env,
 Bb .i64 (nth vs 1) t55 fun ba=>
 AD ba
 (BQ 2 v3 (nth vs 1) fun bb=>
 Af 2 bb (fun bc w8=>
 Am 108 [(.int .i64 0),(.int .i64 0)] (fun T w9=>
 Ac 2 T bc (fun bd=>
 AM 0 T fun bk=>
 AL bk (fun bl bn=>
 AX .i64 (nth vs 0) bl fun bp=>
 AX .i64 (nth vs 1) (.int .i64 1) fun bs=>
 I [bp,bs] bn) bd) w9) w8) w7)
 (AJ v0 fun bx=>
 AM 3 bx fun c4=>
 AL c4 (fun c6 c7=>
 AB prog 48 [c6,t22,(nth vs 0)] (fun U c8=>
 AQ 0 U fun V=>
 AQ 1 U fun _t74=>
 Ae V fun t76=>
 Aq [(.int .i64 0)] (fun i j X=>∀_:Env,
 Bb .i64 (nth i 0) t76 fun c9=>
 AD c9
 (BQ 2 V (nth i 0) fun ca=>
 Af 2 ca (fun cc cd=>
 Am 108 [(.int .i64 0),(.int .i64 0)] (fun Y ch=>
 Ac 2 Y cc (fun J=>
 Ay [6] [[],[0],[0,1],[0,1,2],[],[4],[0,1,2,3,4,5]] J.drew (fun M St=>
 AJ v0 fun cn=>
 AM 5 cn fun cv=>
 BF (St 3) cv fun cx=>
 AM 1 Y fun dk=>
 BF (St 5) dk fun dv=>
 AB prog 152 [cx,dv] (fun _t87 Z=>
 Mod (M 6) J.drew Z/\
 AX .i64 (nth i 0) (.int .i64 1) fun dT=>
 j [dT] Z) J.drew)) ch) cd) X)
 (Ae t39 fun e1=>
 Aq [(.int .i64 0)] (fun o B a1=>∀_:Env,
 Bb .i64 (nth o 0) e1 fun e2=>
 AD e2
 (BQ 2 t39 (nth o 0) fun e3=>
 Af 2 e3 (fun e4 e5=>
 Am 108 [(.int .i64 0),(.int .i64 0)] (fun a6 e6=>
 Ac 2 a6 e4 (fun O=>
 Ay [6] [[],[0],[0,1],[0,1,2],[],[4],[0,1,2,3,4,5]] O.drew (fun e7 E=>
 AJ v0 fun e8=>
 AM 5 e8 fun e9=>
 BF (E 3) e9 fun ea=>
 AM 1 a6 fun ec=>
 BF (E 5) ec fun a7=>
 AB prog 79 [ea,a7] (fun _t101 a8=>
 Mod (e7 6) O.drew a8/\
 AX .i64 (nth o 0) (.int .i64 1) fun ak=>
 B [ak] a8) O.drew)) e6) e5) a1)
 (K (.tuple #[]) a1)) X)) c8) c7) w7)) w6) w5) w4) w3) w2) w1) w):AB prog 78 [v0,v1,v2,v3] K w:=cO (aN (aN (aN (aN (aO (aN (.node [9,56] [(9,9),(13,13),(56,64)] (aN (aO aE (aO aE .nil))) .nil)) (aN (aO (aN (.node [77] [(17,17),(77,88)] (aN (aO aE (aO (aN (.dc [6] [[],[0],[0,1],[0,1,2],[],[4],(aR 6)] [])) .nil))) .nil)) (aN (.node [91] [(19,19),(91,102)] (aN (aO aE (aO (aN (.dc [6] [[],[0],[0,1],[0,1,2],[],[4],(aR 6)] [])) .nil))) .nil))))))))) func78 h (by kernel_rfl)
theorem da(h: Ae v0 fun t9=>
 Aq [(.int .i64 0),(.int .i64 0)] (fun vs i w1=>∀_:Env,
 Bb .i64 (nth vs 1) t9 fun I=>
 AD I
 (BQ 5 v0 (nth vs 1) fun O=>
 Af 5 O (fun Q w2=>
 Am 83 [(.int .u8 0),(.int .i64 0),(.slice none 0 0),(.slice none 0 0),(.slice none 0 0)] (fun B w3=>
 Ac 5 B Q (fun w4=>
 Ao (fun _vs_1 w5=>∀_:Env,
 AM 1 B fun S=>
 AL S (fun T w6=>
 AX .i64 (nth vs 0) T fun U=>
 AX .i64 (nth vs 1) (.int .i64 1) fun V=>
 i [U,V] w6) w5) (fun J=>
 AM 0 B fun X=>
 AL X (fun o E=>
 DJ .u8 o (.int .u8 2) fun Y=>
 AD Y
 (DJ .i64 (nth vs 0) v1 fun Z=>
 AD Z
 (K (.bool false) E)
 (AX .i64 (nth vs 1) (.int .i64 1) fun j=>
 i [(nth vs 0),j] E))
 (DJ .u8 o (.int .u8 3) fun t22=>
 AD t22
 (AM 1 B fun a1=>
 AL a1 (fun t25 w8=>
 AX .i64 (nth vs 0) t25 fun a6=>
 DJ .i64 a6 v1 fun a7=>
 AD a7
 (K (.bool false) w8)
 (J [] w8)) E)
 (J [] E))) w4)) w3) w2) w1)
 (K (.bool true) w1)) w):AB prog 82 [v0,v1] K w:=cO (aN (aN (aN (aO (aN (.node [5,10] [(4,5),(7,7),(10,33)] (aN (aO aE (aO (aN (.cut [] [(4,4),(14,28)] (aN (aN (aO (aO (aN (aO aE .nil)) .nil) (aN (aO (aN (aO aE .nil)) .nil))))) .nil)) .nil))) .nil)) aE)))) func82 h (by kernel_rfl)
theorem dH(h: Ae v1 fun a7=>
 Aq [(.int .i64 0)] (fun vs j w1=>∀_:Env,
 Bb .i64 (nth vs 0) a7 fun a8=>
 AD a8
 (Ao (fun _vs_1 w2=>∀_:Env,
 AX .i64 (nth vs 0) (.int .i64 1) fun ak=>
 j [ak] w2) (fun J=>
 BQ 5 v1 (nth vs 0) fun al=>
 Af 5 al (fun an w3=>
 Am 83 [(.int .u8 0),(.int .i64 0),(.slice none 0 0),(.slice none 0 0),(.slice none 0 0)] (fun i w4=>
 Ac 5 i an (fun w5=>
 Ao (fun _vs_2 w6=>∀_:Env,
 Ay [3,7] [[],[],[1],[0,1,2],[0,1,2,3],[],[5],[0,1,2,3,5,6],[0,1,2,3,4,5,6,7],[0,1,2,3,4,5,6,7,8]] w6.drew (fun M St=>
 AM 3 i fun t25=>
 BF (St 2) t25 fun av=>
 AB prog 75 [v0,av,(.bool true)] (fun ax w7=>
 Mod (M 3) w6.drew w7/\
 Ae ax fun o=>
 AM 2 i fun ay=>
 BF (St 6) ay fun b0=>
 AB prog 154 [b0] (fun B w8=>
 Mod (M 7) w7 w8/\
 Eu .i64 o (.int .i64 0) fun b3=>
 AD b3
 (AM 3 i fun b4=>
 AL b4 (fun b5 w9=>
 Ae b5 fun b6=>
 Bb .i64 o b6 fun b7=>
 AD b7
 (K (.bool false) w9)
 (AM 2 i fun t46=>
 AL t46 (fun b8 X=>
 Ae b8 fun b9=>
 Bb .i64 B b9 fun ba=>
 AD ba
 (K (.bool false) X)
 (J [] X)) w9)) w8)
 (Eu .i64 B (.int .i64 0) fun bb=>
 AD bb
 (AM 3 i fun E=>
 AL E (fun I Y=>
 Ae I fun O=>
 Bb .i64 o O fun Q=>
 AD Q
 (K (.bool false) Y)
 (AM 2 i fun S=>
 AL S (fun T Z=>
 Ae T fun U=>
 Bb .i64 B U fun V=>
 AD V
 (K (.bool false) Z)
 (J [] Z)) Y)) w8)
 (J [] w8))) w7) w6.drew)) (fun bc=>
 AM 0 i fun bd=>
 AL bd (fun bk a1=>
 EB .u8 bk (.int .u8 2) fun bl=>
 AD bl
 (J [] a1)
 (AM 3 i fun bn=>
 AL bn (fun bp a6=>
 Ae bp fun bs=>
 DJ .i64 bs (.int .i64 0) fun t22=>
 AD t22
 (J [] a6)
 (bc [] a6)) a1)) w5)) w4) w3) w1))
 (K (.bool true) w1)) w):AB prog 83 [v0,v1] K w:=cO (aN (aO (aN (.node [11] [(4,4),(6,8),(11,52)] (aN (aO aE (.cut [] [(4,4),(6,8),(13,51)] (aN (.cut [] [(15,23)] (aN aE) (aO (.dc [3,7] [[],[],[1],[0,1,2],(aR 4),[],[5],[0,1,2,3,5,6],(aR 8),(aR 9)] [[3]]) (aN (aO aE .nil))))) .nil))) .nil)) aE)) func83 h (by kernel_rfl)
theorem dW(h: AJ v0 fun V=>
 AM 3 V fun X=>
 AL X (fun Y w1=>
 AB prog 48 [Y,v1,v2] (fun t22 w2=>
 AQ 0 t22 fun i=>
 AQ 1 t22 fun _t24=>
 Ae i fun Z=>
 Aq [(.int .i64 0)] (fun vs E U=>∀_:Env,
 Bb .i64 (nth vs 0) Z fun a1=>
 AD a1
 (Ay [9] [[],[0],[0,1],[0,1,2],[],[],[4,5],[4,5,6],[4,5,6,7],[0,1,2,3,4,5,6,7,8],[0,1,2,3,4,5,6,7,8,9],[0,1,2,3,4,5,6,7,8,9,10],[0,1,2,3,4,5,6,7,8,9,10],[0,1,2,3,4,5,6,7,8,9,10,11],[0,1,2,3,4,5,6,7,8,9,10,11,12,13]] U.drew (fun M St=>
 AJ v0 fun a6=>
 AM 5 a6 fun a7=>
 BF (St 3) a7 fun a8=>
 BQ 2 i (nth vs 0) fun ak=>
 AM 1 ak fun al=>
 BF (St 8) al fun t39=>
 AB prog 51 [a8,t39] (fun O w4=>
 Mod (M 9) U.drew w4/\
 AQ 0 O fun an=>
 AQ 1 O fun _t42=>
 Ay [8,9,15] [[],[],[],[2],[2,3],[2,3,4],[],[],[6,7],[2,3,4,5,6,7,8],[2,3,4,5,6,7,8,9],[2,3,4,5,6,7,8,9,10],[2,3,4,5,6,7,8,9,10],[0,1,2,3,4,5,6,7,8,9,10,11],[0,1,2,3,4,5,6,7,8,9,10,11,13],[0,1,2,3,4,5,6,7,8,9,10,11,13,14]] w4.drew (fun I Q=>
 AJ v0 fun av=>
 AM 5 av fun ax=>
 BF (Q 5) ax fun ay=>
 AB prog 156 [an,v3] (fun b0 w5=>
 Mod (I 8) w4.drew w5/\
 AB prog 74 [ay,b0] (fun t53 w6=>
 Mod (I 9) w5 w6/\
 AQ 0 t53 fun b3=>
 AQ 1 t53 fun _t55=>
 BQ 2 i (nth vs 0) fun b4=>
 AM 1 b4 fun b5=>
 BC b5 b3 (fun w7=>
 Mod (I 15) w6 w7/\
 AX .i64 (nth vs 0) (.int .i64 1) fun b6=>
 E [b6] w7) w6) w5) w4.drew)) U.drew))
 (AB prog 78 [v0,v1,v2,i] (fun _t63 w8=>
 Ae i fun b7=>
 Aq [(.int .i64 0)] (fun j o w9=>∀_:Env,
 Bb .i64 (nth j 0) b7 fun b8=>
 AD b8
 (BQ 2 i (nth j 0) fun b9=>
 Af 2 b9 (fun ba bb=>
 Am 108 [(.int .i64 0),(.int .i64 0)] (fun S bc=>
 Ac 2 S ba (fun J=>
 Ay [6] [[],[0],[0,1],[0,1,2],[],[4],[0,1,2,3,4,5]] J.drew (fun bd B=>
 AJ v0 fun bk=>
 AM 5 bk fun bl=>
 BF (B 3) bl fun bn=>
 AM 1 S fun bp=>
 BF (B 5) bp fun bs=>
 AB prog 79 [bn,bs] (fun _t76 T=>
 Mod (bd 6) J.drew T/\
 AX .i64 (nth j 0) (.int .i64 1) fun t77=>
 o [t77] T) J.drew)) bc) bb) w9)
 (K (.tuple #[]) w9)) w8) U)) w2) w1) w):AB prog 86 [v0,v1,v2,v3] K w:=cO (aN (aO (aN (.node [27] [(10,12),(27,58)] (aN (aO aE (aO (aN (aO (.dc [9] [[],[0],[0,1],[0,1,2],[],[],[4,5],[4,5,6],[4,5,6,7],(aR 9),(aR 10),(aR 11),(aR 11),(aR 12),(aR 14)] []) (.dc [8,9,15] [[],[],[],[2],[2,3],[2,3,4],[],[],[6,7],[2,3,4,5,6,7,8],[2,3,4,5,6,7,8,9],[2,3,4,5,6,7,8,9,10],[2,3,4,5,6,7,8,9,10],(aR 12),[0,1,2,3,4,5,6,7,8,9,10,11,13],[0,1,2,3,4,5,6,7,8,9,10,11,13,14]] [[8,9]]))) .nil))) .nil)) (aN (aN (.node [66] [(14,14),(66,77)] (aN (aO aE (aO (aN (.dc [6] [[],[0],[0,1],[0,1,2],[],[4],(aR 6)] [])) .nil))) .nil))))) func86 h (by kernel_rfl)
theorem Yr(h: Ae v1 fun T=>
 Aq [(.int .i64 0)] (fun vs i S=>∀_:Env,
 Bb .i64 (nth vs 0) T fun t9=>
 AD t9
 (BQ 2 v1 (nth vs 0) fun j=>
 Af 2 j (fun o w2=>
 Am 45 [(.int .i32 0),(.slice none 0 0)] (fun t5 U=>
 Ac 2 t5 o (fun w4=>
 AM 0 t5 fun B=>
 AL B (fun E V=>
 Bg 21 1 1 [(.int .i32 0)] [(0,E)] (fun I X=>
 AM 1 t5 fun J=>
 AL J (fun O Y=>
 AB prog 61 [v0,I,O] (fun _t18 Z=>
 AX .i64 (nth vs 0) (.int .i64 1) fun Q=>
 i [Q] Z) Y) X) V) w4) U) w2) S)
 (K (.tuple #[]) S)) w):AB prog 122 [v0,v1] K w:=cO (aN (.node [8] [(5,5),(8,19)] (aN (aO aE (aO aE .nil))) .nil)) func122 h (by kernel_rfl)
theorem ZG(h: Ae v1 fun an=>
 Aq [(.slice none 0 0),(.int .i64 0),(.int .i64 0)] (fun vs B w1=>∀_:Env,
 Bb .i64 (nth vs 2) an fun av=>
 AD av
 (BQ 5 v1 (nth vs 2) fun ax=>
 Af 5 ax (fun ay w2=>
 Am 79 [(.int .i64 0),(.int .u8 0),(.int .i64 0),(.int .u64 0),(.string (ByteArray.mk #[]))] (fun X w3=>
 Ac 5 X ay (fun w4=>
 Ao (fun i w5=>∀_:Env,
 Ao (fun Y w6=>∀_:Env,
 AD (nth Y 0)
 (Cg w6 (fun C=>
 BQ 5 v0 (nth i 1) fun b0=>
 AM 1 b0 fun b3=>
 FT C 4 b3 fun b4=>
 AM 1 X fun b5=>
 FT C 4 b5 fun b6=>
 Bk prog C (BX .neq 77 (.tmp 60) (.tmp 62) b4 b6) fun b7=>
 ∀w7:World,C w7->
 AD b7
 (Af 5 X (fun b8 w8=>
 AB prog 190 [b8] (fun t66 w9=>
 Bg 133 6 1 [(.int .i64 0),(.bool false),(.int .u8 0),(.int .i64 0),(.int .u64 0),(.string (ByteArray.mk #[]))] [(0,t66)] (fun b9 ba=>
 runK prog (Builtin.append_ #[81,81] 81 [(nth i 0),b9].toArray) (fun bb bc=>
 AX .i64 (nth i 1) (.int .i64 1) fun t70=>
 AX .i64 (nth vs 2) (.int .i64 1) fun t76=>
 B [bb,t70,t76] bc) ba) w9) w8) w7)
 (AX .i64 (nth i 1) (.int .i64 1) fun S=>
 AX .i64 (nth vs 2) (.int .i64 1) fun T=>
 B [(nth i 0),S,T] w7)))
 (Af 5 X (fun bd bk=>
 AB prog 190 [bd] (fun bl bn=>
 Bg 133 6 1 [(.int .i64 0),(.bool false),(.int .u8 0),(.int .i64 0),(.int .u64 0),(.string (ByteArray.mk #[]))] [(0,bl)] (fun bp bs=>
 runK prog (Builtin.append_ #[81,81] 81 [(nth i 0),bp].toArray) (fun bx c4=>
 AX .i64 (nth vs 2) (.int .i64 1) fun U=>
 B [bx,(nth i 1),U] c4) bs) bn) bk) w6)) (fun Z=>
 Cg w5 (fun O=>
 Ae v0 fun c6=>
 Bb .i64 (nth i 1) c6 fun t45=>
 AD t45
 (BQ 5 v0 (nth i 1) fun c7=>
 AM 0 c7 fun t50=>
 BJ O t50 fun c8=>
 AM 0 X fun c9=>
 BJ O c9 fun t53=>
 DJ .i64 c8 t53 fun ca=>
 ∀a1:World,O a1->
 Z [ca] a1)
 (∀ a6:World,O a6->
 Z [(.bool false)] a6)))) (fun J=>
 Aq [(nth vs 0),(nth vs 1)] (fun j E cc=>∀_:Env,
 Ao (fun _vs_4 cd=>∀_:Env,
 BQ 5 v0 (nth j 1) fun ch=>
 AM 0 ch fun cn=>
 AL cn (fun cv cx=>
 Ah [(0,1),(1,1),(2,4)] [(.int .i64 0),(.bool false),(.int .u8 0),(.int .i64 0),(.int .u64 0),(.string (ByteArray.mk #[]))] [(0,cv),(1,(.bool true))] fun t39=>
 Bg 133 6 1 [(.int .i64 0),(.bool false),(.int .u8 0),(.int .i64 0),(.int .u64 0),(.string (ByteArray.mk #[]))] [(0,t39)] (fun dk dv=>
 runK prog (Builtin.append_ #[81,81] 81 [(nth j 0),dk].toArray) (fun dT e1=>
 AX .i64 (nth j 1) (.int .i64 1) fun e2=>
 E [dT,e2] e1) dv) cx) cd) (fun e3=>
 Cg cc (fun Q=>
 Ae v0 fun e4=>
 Bb .i64 (nth j 1) e4 fun e5=>
 AD e5
 (BQ 5 v0 (nth j 1) fun e6=>
 AM 0 e6 fun t25=>
 BJ Q t25 fun e7=>
 AM 0 X fun e8=>
 BJ Q e8 fun e9=>
 Bb .i64 e7 e9 fun ea=>
 ∀V:World,Q V->
 AD ea
 (e3 [] V)
 (J [(nth j 0),(nth j 1)] V))
 (∀ a7:World,Q a7->
 J [(nth j 0),(nth j 1)] a7)))) w4)) w3) w2) w1)
 (runK prog (Instr.sliceAt 43 v0 (some (nth vs 1)) none none) (fun a8 ec=>
 Ae a8 fun ed=>
 Aq [(nth vs 0),(.int .i64 0)] (fun o I ak=>∀_:Env,
 Bb .i64 (nth o 1) ed fun ee=>
 AD ee
 (BQ 5 a8 (nth o 1) fun ef=>
 Af 5 ef (fun eh ej=>
 Am 79 [(.int .i64 0),(.int .u8 0),(.int .i64 0),(.int .u64 0),(.string (ByteArray.mk #[]))] (fun al ek=>
 Ac 5 al eh (fun en=>
 AM 0 al fun eo=>
 AL eo (fun ep er=>
 Ah [(0,1),(1,1),(2,4)] [(.int .i64 0),(.bool false),(.int .u8 0),(.int .i64 0),(.int .u64 0),(.string (ByteArray.mk #[]))] [(0,ep),(1,(.bool true))] fun et=>
 Bg 133 6 1 [(.int .i64 0),(.bool false),(.int .u8 0),(.int .i64 0),(.int .u64 0),(.string (ByteArray.mk #[]))] [(0,et)] (fun eu ew=>
 runK prog (Builtin.append_ #[81,81] 81 [(nth o 0),eu].toArray) (fun eA eB=>
 AX .i64 (nth o 1) (.int .i64 1) fun eC=>
 I [eA,eC] eB) ew) er) en) ek) ej) ak)
 (K (nth o 0) ak)) ec) w1)) w):AB prog 123 [v0,v1] K w:=cO (aN (aN (aN (aO (aN (.node [5,6,13] [(5,6),(8,8),(13,76)] (aN (aO aE (aO (aN (.cut [5,6] [(5,6),(17,41)] (.node [5,6] [(5,6),(17,41)] (.cut [] [(17,30)] (aO .draw aE) aE) .nil) (aO (.cut [55] [(42,55)] .draw (aO (aO (aO .draw aE) aE) .nil)) .nil))) .nil))) .nil)) (aO (aN (.node [5,81] [(5,5),(10,10),(81,91)] (aN (aO aE (aO aE .nil))) .nil)) aE))))) func123 h (by kernel_rfl)
theorem Y5(h: AB prog 213 [v0,v1] (fun j w1=>
 DJ .i64 j (.int .i64 (-1)) fun B=>
 AD B
 (K v0 w1)
 (AX .i64 j (.int .i64 1) fun E=>
 Aq [j,E] (fun vs i w2=>∀_:Env,
 Ae v0 fun I=>
 Bb .i64 (nth vs 1) I fun J=>
 AD J
 (BQ 5 v0 (nth vs 1) fun O=>
 Af 5 O (fun t25 w3=>
 Am 79 [(.int .i64 0),(.int .u8 0),(.int .i64 0),(.int .u64 0),(.string (ByteArray.mk #[]))] (fun Q w4=>
 Ac 5 Q t25 (fun w5=>
 Af 5 Q (fun S w6=>
 Ci prog Dh v1 [S] (fun T w7=>
 CE T fun U=>
 AD U
 (Af 5 Q (fun V w8=>
 BQ 5 v0 (nth vs 0) fun X=>
 Ac 5 X V (fun w9=>
 AX .i64 (nth vs 0) (.int .i64 1) fun Y=>
 AX .i64 (nth vs 1) (.int .i64 1) fun Z=>
 i [Y,Z] w9) w8) w7)
 (AX .i64 (nth vs 1) (.int .i64 1) fun o=>
 i [(nth vs 0),o] w7)) w6) w5) w4) w3) w2)
 (runK prog (Instr.sliceAt 43 v0 (some (nth vs 0)) none none) (fun a1 a6=>
 runK prog (Builtin.clear_ #[43] 0 [a1].toArray) (fun _u a7=>
 runK prog (Instr.sliceAt 43 v0 none (some (nth vs 0)) none) (fun a8 ak=>
 K a8 ak) a7) a6) w2)) w1)) w):AB prog 145 [v0,v1] K w:=cO (aN (aN (aO (aN (aO aE .nil)) (aO (aN (.node [5,6] [(5,7),(16,35)] (aO (aN aE) (aO (aN (aN (aO aE .nil))) .nil)) .nil)) (aN aE))))) func145 h (by kernel_rfl)
theorem Zs(h: Bh 79 v0 (fun t3 T=>
 AL v1 (fun U w2=>
 AM 0 t3 fun t9=>
 AL t9 (fun j V=>
 AB prog 131 [U,j] (fun i w4=>
 AQ 0 i fun o=>
 AQ 1 i fun B=>
 Am 65 [(.int .i64 0),(.bool false),(.int .u8 0),(.bool false),(.bool false),(.int .i64 0)] (fun t5 X=>
 Ac 6 t5 o (fun S=>
 CE B fun E=>
 AD E
 (K (.bool true) S)
 (AM 1 t5 fun I=>
 AL I (fun J Y=>
 AL v2 (fun O Z=>
 VD J O fun Q=>
 K Q Z) Y) S)) X) w4) V) w2) T) w):AB prog 146 [v0,v1,v2] K w:=cO (aN (aN aE)) func146 h (by kernel_rfl)
theorem X4(h: Ae v0 fun Q=>
 Aq [(.int .i64 0),(.int .i64 0)] (fun vs i O=>∀_:Env,
 Bb .i64 (nth vs 1) Q fun t9=>
 AD t9
 (BQ 1 v0 (nth vs 1) fun o=>
 AL o (fun B w2=>
 DJ .i32 B (.int .i32 10) fun E=>
 AD E
 (AX .i64 (nth vs 0) (.int .i64 1) fun I=>
 AX .i64 (nth vs 1) (.int .i64 1) fun J=>
 i [I,J] w2)
 (AX .i64 (nth vs 1) (.int .i64 1) fun j=>
 i [(nth vs 0),j] w2)) O)
 (K (nth vs 0) O)) w):AB prog 154 [v0] K w:=cO (aN (aN (aO (aN (.node [3,8] [(3,3),(5,5),(8,16)] (aN (aO aE (aO (aN (aN aE)) .nil))) .nil)) aE))) func154 h (by kernel_rfl)
theorem X6(h: Bh 79 v0 (fun i o=>
 Am 133 [(.int .i64 0),(.bool false),(.int .u8 0),(.int .i64 0),(.int .u64 0),(.string (ByteArray.mk #[]))] (fun j w2=>
 AM 0 i fun t3=>
 AL t3 (fun t4 B=>
 AM 1 i fun t5=>
 Af 4 t5 (fun E w4=>
 Ah [(0,1),(1,1),(2,4)] [(.int .i64 0),(.bool false),(.int .u8 0),(.int .i64 0),(.int .u64 0),(.string (ByteArray.mk #[]))] [(0,t4),(2,E)] fun I=>
 Ac 6 j I (fun J=>
 Af 6 j (fun O Q=>
 K O Q) J) w4) B) w2) o) w):AB prog 190 [v0] K w:=cO (aN aE) func190 h (by kernel_rfl)
theorem Ze(h: Ae v0 fun O=>
 Aq [(.int .i64 0)] (fun vs i I=>∀_:Env,
 Bb .i64 (nth vs 0) O fun t9=>
 AD t9
 (BQ 5 v0 (nth vs 0) fun j=>
 Af 5 j (fun o w2=>
 Ci prog Dh v1 [o] (fun B J=>
 AD B
 (K (nth vs 0) J)
 (AX .i64 (nth vs 0) (.int .i64 1) fun E=>
 i [E] J)) w2) I)
 (K (.int .i64 (-1)) I)) w):AB prog 213 [v0,v1] K w:=cO (aN (aO (aN (.node [8] [(4,5),(8,18)] (aN (aO aE (aO (aN (aN (aO aE .nil))) .nil))) .nil)) aE)) func213 h (by kernel_rfl)
end
def Rf(G:World->Prop)(j:Value)(i:Attr->Bool):Prop:=∀W c (K:Cont),G W->(∀W',Grow W W'->K (.bool (i c)) W')->Ci prog Dh j [.agg c.cells.toArray] K W
theorem aB{p:List Attr}{B:Attr->Bool}(h:Cf S w v p)(J:Rf (Grow w) fr B) :
  AB prog 213 [v,fr] (fun v' w'=>Grow w w'/\((v'=.int .i64 (-1)/\∀c∈p,B c=false)\/∃i:Nat,∃hi:i<p.length,v'=.int .i64 i/\B p[i]=true/\∀c∈p.take i,B c=false)) w:=by
 apply Ze;obtain⟨a,c,rfl,hm⟩:=h.shape;simp only[maxLen] at hm;rw[AP];refine Ab (fun vs W=>∃i:Nat,i<=p.length/\vs=[.int .i64 i]/\Grow w W/\∀c∈p.take i,B c=false) (fun vs _=>p.length-Ds vs 0) ⟨0,Nn _,rfl,Mod.refl _ _,by simp⟩ ?_;rintro vs W ⟨i,hi,rfl,g,E⟩ _;rw[B0,Of,Ap];refine AF (fun O=>?_) fun Q=>?_
 .have o:i<p.length:=by omega
  obtain⟨q,r,rfl,_,hr,hc,rfl⟩:=(h.grow g (by decide) fun _ _ h=>h).get o;refine AU o (Aj hr (fun j u hu=>by rw[Addr.add_add];exact hc j u hu) ?_);refine J W p[i] _ g fun W' g'=>?_;cases e:B p[i] with
  |true=>exact As ⟨g.trans g',.inr ⟨i,o,rfl,e,E⟩⟩
  |false=>
   refine AV ?_;rw[AR,AO (by omega)];refine⟨⟨i+1,o,rfl,g.trans g',fun c hc=>?_⟩,by rw[DG,DG];omega⟩;rw[No,By o] at hc;rcases DN.1 hc with hc|hc
   .exact E c hc
   .simp at hc;subst hc;exact e
 .have:i=p.length:=by omega
  subst this;exact⟨g,.inl ⟨rfl,fun c hc=>E c (by rw[Nr];exact hc)⟩⟩
theorem Attr.aX(c:Attr):c.cells.length=5:=rfl
set_option maxRecDepth 20000 in
theorem X5{p:List Attr}{o:Attr->Bool}(V:AE B 79 5 DD w v p)(al:p.length<=1099511627776)(Z:Rf (Mod (fun b=>v.ownBlock=some b) w) fr o) :
  AB prog 145 [v,fr] (fun v' w'=>Cf (fun b=>v.ownBlock=some b) w' v' (p.filter fun c=>!o c)/\Mod (fun b=>v.ownBlock=some b) w w') w:=by
 apply Y5;refine AA (aB (AE.sl V) fun W c K g hK=>Z W c K (g.mono fun _ _ e=>e.elim) hK) ?_;rintro _ w1 ⟨X,⟨rfl,I⟩|⟨i0,J,rfl,hd,I⟩⟩
 .rw[Al];refine AF (fun _=>?_) fun e=>(e rfl).elim;rw[mn.2 fun c hc=>by rw[I c hc];rfl];exact⟨BB.sub (AE.sl (AE.mod V X (fun _ _ h=>h) fun _ _ _ h=>h)) (fun b _ h=>h.2) (by decide) fun _ _ h=>h,X.mono fun _ _ e=>e.elim⟩
 rw[Al];refine AF (fun e=>absurd e (by omega)) fun _=>?_;obtain⟨a,c,rfl,an,av,hp,hn⟩:=AE.shape V;cases a with
 |none=>rw[hn rfl] at J;simp at J
 |some q=>
 obtain⟨g,rfl,ax,a1,ak⟩:=hp q rfl;have a6:∀b,(Value.slice (some ⟨g,0,none⟩) p.length c).ownBlock=some b↔b=g:=fun b=>⟨fun e=>by cases e;rfl,fun e=>by subst e;rfl⟩;simp only[a6] at Z ⊢;have R0:Jl 5 Attr.cells w g p:=Jl.of V (by decide) fun _ _ h=>h;have R1:=R0.mod X fun h=>h;rw[AR,AO (by omega)];refine Ab (fun vs W=>∃(i j:Nat) (L:List Attr),i<j/\j<=p.length/\vs=[.int .i64 i,.int .i64 j]/\L.length=p.length/\Jl 5 Attr.cells W g L/\L.take i=(p.take j).filter (fun c=>!o c)/\L.drop j=p.drop j/\Mod (fun b=>b=g) w W) (fun vs _=>p.length-Ds vs 1)
  ⟨i0,i0+1,p,by omega,J,rfl,rfl,R1,?_,rfl,X.mono fun _ _ e=>e.elim⟩ ?_
 .rw[No,By J,nY,mn.2 fun c hc=>by rw[I c hc];rfl];simp[hd]
 rintro vs W ⟨i,j,L,ay,hj,rfl,hL,Y,ht,Q,hm⟩ _;simp only[GJ];rw[AP,Ap];refine AF (fun S=>?_) fun b0=>?_
 .have E:j<p.length:=by omega
  have a7:L[j]'(by omega)=p[j]:=by
   have e:=kM List.head? Q;rw[pK,pK,By (by omega),By E] at e;exact kK e
  refine AU E ?_;rw[AH];refine Aj (vs:=p[j].cells) rfl (fun q u hu=>by rw[HW];exact Y.cells j (by omega) q u (by rw[a7];exact hu)) ?_;refine BS (vs:=p[j].cells) rfl rfl (DD.one (w:=W) (x:=p[j]) rfl) fun b7 w4 b3 b4 g4 T _=>?_;have b5:g<W.heap.size:=WL a1 hm.size;refine Aj (vs:=p[j].cells) rfl T ?_;refine Z w4 p[j] _ (hm.next g4 fun _ _ e=>e.elim) fun W5 g5=>?_;have R5:=(Y.mod g4 fun h=>h).mod g5 fun h=>h;have m5:=(hm.next g4 fun _ _ e=>e.elim).next g5 fun _ _ e=>e.elim;have et:(p.take (j+1)).filter (fun c=>!o c)=(p.take j).filter (fun c=>!o c)++if o p[j] then[] else[p[j]]:=by
   rw[No,By E,nY];cases e:o p[j]<;>simp[e]
  have O:L.drop (j+1)=p.drop (j+1):=by have:=kM (List.drop 1) Q;simpa[nT] using this
  cases e:o p[j] with
  |true=>
   rw[Ar];refine AV ?_;rw[AR,AO (by omega)];rw[e,Io rfl,kG] at et;refine⟨⟨i,j+1,L,by omega,E,rfl,hL,R5,by rw[et];exact ht,?_,m5⟩,by rw[BL,BL];omega⟩;exact O
  |false=>
   rw[Ar];refine As ?_;refine Aj (vs:=p[j].cells) rfl (fun q u hu=>g5.cell (T q u hu) fun h=>h) ?_;refine AU (by omega) ?_;rw[AH];refine R5.store (i:=i) (x:=p[j]) (by omega) Attr.aX (DD.one (w:=W) (x:=p[j]) rfl) fun W6 R6 m6=>?_;rw[AR,AR,AO (by omega),AO (by omega)];rw[e,C3 (by decide)] at et;refine⟨⟨i+1,j+1,L.set i p[j],by omega,E,rfl,by simp[hL],R6,?_,?_,m5.trans m6⟩,by rw[BL,BL];omega⟩
   .rw[et,<-ht,List.take_set,No,By (by omega),lC _ _ (by simp;omega)];simp[kY (show i<=L.length by omega)]
   .rw[pN (by omega)];exact O
 .obtain rfl:j=p.length:=by omega
  rw[Nr] at ht;refine Ag (Er (e:=79) (k:=5) (i:=Tryz.t79) (by kernel_rfl) (by kernel_rfl) (by kernel_rfl) (by omega) W) ?_;have a8:sliced (some (⟨g,0,none⟩:Addr)) i p.length c 5=.slice (some ⟨g,i*5,none⟩) (p.length-i) (c-i):=by
   unfold sliced;rw[C3 (by omega)];simp only[mF,AH]
  rw[a8];obtain⟨W2,hr,m2,h2⟩:=NO (P:=prog) (t:=43) (e:=79) (k:=5) (i:=Tryz.t79) (zv:=.agg (⟨0,BK.zero⟩:Attr).cells.toArray) (W:=W) (g:=g) (off:=i*5) (m:=p.length-i) (c:=c-i) (by kernel_rfl) (by kernel_rfl) (by kernel_rfl) (by kernel_rfl) (by decide)
   (fun u hu=>DD.one (w:=W) (x:=⟨0,BK.zero⟩) rfl u (by simpa[Value.cells] using hu)) (by omega) fun q hq=>by
    have:=Y.live (i+q/5) (q%5) (by omega) (pU _ (by decide));rwa [show(i+q/5)*5+q%5=i*5+q by omega] at this
  refine Ag hr ?_;refine Ag (Fj (e:=79) (k:=5) (i:=Tryz.t79) (by kernel_rfl) (by kernel_rfl) (by kernel_rfl) (by omega) W2) ?_;refine⟨?_,hm.trans m2⟩;rw[<-ht];have S:(L.take i).length=i:=by simp;omega
  refine⟨_,_,by rw[S],by omega,by omega,fun m x hx=>?_⟩;obtain⟨b6,U⟩:=Bp.1 hx;rw[nG] at U;subst U;refine⟨⟨g,0,none⟩,_,rfl,rfl,rfl,fun q u hu=>?_,rfl⟩;have hq:q<5:=(Bp.1 hu).1;rw[AH,h2 _ (by omega)];exact Y.cells m (by omega) q u hu
def NQ(ks:List DKey)(b:Bool)(c:Attr):Bool:=match Bj ks c.key with|some k=>decide (k.block=b)|none=>false
theorem TQ{D:Nat->Prop}{b:Bool}{c:Attr}(J:De D w sv ks)(O:w.cell? ⟨E,0,none⟩=some sv)(Q:w.cell? ⟨I,0,none⟩=some (.bool b)) :
  AB prog 146 [.agg c.cells.toArray,.pointer (some ⟨E,0,none⟩),.pointer (some ⟨I,0,none⟩)] (fun v' w'=>v'=.bool (!NQ ks b c)/\Grow w w') w:=by
 apply Zs;refine Dq fun Z w1 S T o B _=>?_;refine AK (o.cell O fun h=>h) ?_;rw[AG];refine AK (B 0 _ rfl) ?_;refine AA (Jw (J.grow o) c.key) ?_;rintro _ w2 ⟨rfl,U⟩;refine BV ?_;refine BS (vs:=((Bj ks c.key).getD DKey.zero).cells) rfl rfl (G0.one (w:=w2) (x:=(Bj ks c.key).getD DKey.zero) rfl) fun b4 w3 V X Y j _=>?_;have i:=(o.trans U).trans Y;rw[Ar];unfold NQ;cases e:Bj ks c.key with
 |none=>exact As ⟨rfl,i⟩
 |some k=>
  rw[e] at j;refine AV ?_;rw[AG];refine AK (j 1 _ rfl) ?_;refine AK (i.cell Q fun h=>h) ?_;rw[Qt];refine⟨?_,i⟩;show Value.bool (k.block != b)=.bool (!decide (k.block=b));cases k.block<;>cases b<;>rfl
def Cw(ks:List DKey)(b:Bool)(l:List Attr):List Attr:=l.filter (NQ ks b)
theorem Lq{D S:Nat->Prop}{sv X:Value}{b:Bool}{p:List Attr}(Y:De D w sv ks)(hp:Cf S w X p)(hl:p.length<=1099511627776) :
  AB prog 75 [sv,X,.bool b] (fun v' w'=>Cf (fun x=>w.heap.size<=x) w' v' (Cw ks b p)/\Grow w w') w:=by
 apply fE;have O:sv.cells=#[sv]:=by
  obtain⟨b,m,kv,l,rfl,_⟩:=Y;rfl
 have Q:De (fun x=>D x/\x<w.heap.size) w sv ks:=Y.sub fun x E h=>⟨h,E⟩;refine⟨O,Dc fun I w1 a1 a6 o T _=>?_⟩;refine⟨rfl,Dc fun J w2 a7 a8 j U _=>?_⟩;refine AA (Nh (hp.grow (o.trans j) (by decide) fun _ _ h=>h) (by omega)) ?_;rintro v3 w3 ⟨Z,V⟩;have c3:w2.cell? ⟨I,0,none⟩=some sv:=by have:=j.cell (T 0 _ rfl) fun h=>h;rwa [AH] at this
 have c5:w2.cell? ⟨J,0,none⟩=some (.bool b):=by have:=U 0 _ rfl;rwa [AH] at this
 have i:∀x,v3.ownBlock=some x->w2.heap.size<=x:=fun x e=>(AE.BA Z x e).1;have B:=(o.trans j).trans V;have tl:Rf (Mod (fun x=>v3.ownBlock=some x) w3) (.func (.func 146) #[] #[.pointer (some ⟨I,0,none⟩),.pointer (some ⟨J,0,none⟩)]) fun c=>!NQ ks b c:=by
  intro W c K m hK;refine .inl ⟨_,[],[.pointer (some ⟨I,0,none⟩),.pointer (some ⟨J,0,none⟩)],rfl,by kernel_rfl,?_⟩;refine AA (TQ ((Q.grow B).mod m fun x _ E e=>?_) (m.cell (V.cell c3 fun h=>h) fun e=>?_) (m.cell (V.cell c5 fun h=>h) fun e=>?_)) ?_
  .have:=i _ e;have:=E.2;have:=(o.trans j).size;omega
  .have h:w2.heap.size<=I:=i _ e;omega
  .have h:w2.heap.size<=J:=i _ e;omega
  .rintro _ W' ⟨rfl,g⟩;exact hK W' g
 refine AA (X5 Z hl tl) ?_;rintro v4 w4 ⟨h4,m4⟩;have e:(p.filter fun c=>!(!NQ ks b c))=Cw ks b p:=by simp only[qI];rfl
 rw[e] at h4;refine⟨BB.sub h4 (fun x _ e=>by have:=i x e;have:=(o.trans j).size;omega) (by decide) fun _ _ h=>h,?_⟩;exact B.next m4 fun x E e=>by have:=i x e;have:=(o.trans j).size;omega
def bump:List Spn->List Spn
 |[]=>[]
 |[s]=>[⟨s.n+1,s.id⟩]
 |s::t=>s::bump t
def Fh(id:Int)(s:List Spn×Option Int)(r:Int):List Spn×Option Int:=
 (if r=10 then s.1++[⟨1,0⟩] else match s.2 with
  |some q=>if q=10 then s.1++[⟨1,id⟩] else bump s.1
  | none=>s.1++[⟨1,id⟩],some r)
def rowOf(id:Int)(rs:List Int):List Spn×Option Int:=rs.foldl (Fh id) ([],none)
def GU(id:Int)(r:Int):Int:=if r=10 then 0 else id
theorem QE(l:List Spn)(s:Spn):bump (l++[s])=l++[⟨s.n+1,s.id⟩]:=by
 induction l with
 |nil=>rfl
 |cons x l i=>
  cases l with
  |nil=>rfl
  |cons y l=>rw[WJ,WJ,bump,<-WJ,i];rfl;simp
theorem JH(id:Int)(rs:List Int)(r:Int):rowOf id (rs++[r])=Fh id (rowOf id rs) r:=by simp[rowOf]
theorem MI(id:Int)(rs:List Int):(rowOf id rs).2=rs.getLast?:=by
 rcases kb rs with rfl|⟨o,y,rfl⟩
 .rfl
 .rw[k6,JH];simp[Fh]
theorem MN(id:Int)(rs:List Int):(rowOf id rs).1.flatMap Spn.u=rs.map (GU id)/\(∀s∈(rowOf id rs).1,0<s.n)/\(∀q,rs.getLast?=some q->∃l n,(rowOf id rs).1=l++[⟨n,GU id q⟩]/\0<n)/\(rs=[]->(rowOf id rs).1=[])/\(rowOf id rs).1.length<=rs.length:=by
 have key:∀(n:Nat) (rs:List Int),rs.length=n->(rowOf id rs).1.flatMap Spn.u=rs.map (GU id)/\(∀s∈(rowOf id rs).1,0<s.n)/\(∀q,rs.getLast?=some q->∃l n,(rowOf id rs).1=l++[⟨n,GU id q⟩]/\0<n)/\(rs=[]->(rowOf id rs).1=[])/\(rowOf id rs).1.length<=rs.length:=by
  intro n;induction n with
  |zero=>
   intro rs h;obtain rfl:=oY.1 h;exact⟨rfl,fun s i=>(nomatch i),fun q E=>(nomatch E),fun _=>rfl,Lc _⟩
  |succ n U=>
   intro rs h;rcases kb rs with rfl|⟨o,r,rfl⟩
   .simp at h
   .rw[k6] at h ⊢;obtain⟨h1,J,V,Y,Q⟩:=U o (by simpa using h);have hp:=MI id o;have B:∀j:Int,GU id r=j->((rowOf id o).1++[(⟨1,j⟩:Spn)]).flatMap Spn.u=(o++[r]).map (GU id)/\(∀s∈(rowOf id o).1++[(⟨1,j⟩:Spn)],0<s.n)/\(∀q,(o++[r]).getLast?=some q->∃l n,(rowOf id o).1++[(⟨1,j⟩:Spn)]=l++[⟨n,GU id q⟩]/\0<n)/\(o++[r]=[]->(rowOf id o).1++[(⟨1,j⟩:Spn)]=[])/\((rowOf id o).1++[(⟨1,j⟩:Spn)]).length<=(o++[r]).length:=fun j S=>by
     refine⟨by rw[lU,h1];simp[Spn.u,S],fun s i=>?_,fun q E=>?_,fun e=>by simp at e,by simp;omega⟩
     .rcases DN.1 i with i|i
      .exact J s i
      .simp at i;subst i;exact Nat.one_pos
     .simp at E;subst E;exact⟨_,1,by rw[S],Nat.one_pos⟩
    rw[JH,Fh];by_cases hr:r=10
    .simp only[Io hr];exact B 0 (by simp[GU,hr])
    .simp only[C3 hr];rw[hp];cases X:o.getLast? with
     |none=>exact B id (by simp[GU,hr])
     |some q=>
      by_cases E:q=10
      .simp only[Io E];exact B id (by simp[GU,hr])
      .simp only[C3 E];obtain⟨l,m,e,hm⟩:=V q X;have O:GU id q=id:=by simp[GU,E]
       have T:GU id r=id:=by simp[GU,hr]
       rw[O] at e;rw[e] at h1 J Q ⊢;rw[QE];refine⟨?_,fun s i=>?_,fun Z I=>?_,fun e=>by simp at e,by simp at Q ⊢;omega⟩
       .rw[lU] at h1 ⊢;rw[S7,<-h1];simp[Spn.u,T,qe]
       .rcases DN.1 i with i|i
        .exact J s (by simp[i])
        .simp at i;subst i;exact Ty _
       .simp at I;subst I;exact⟨l,m+1,by rw[T],Ty _⟩
 exact key _ rs rfl
abbrev Ur(sv:Value)(most:Int)(r s p t:Nat):List Value:=[sv,.int .i64 most,.pointer (some ⟨r,0,none⟩),.pointer (some ⟨s,0,none⟩),.pointer (some ⟨p,0,none⟩),.pointer (some ⟨t,0,none⟩)]
section
variable {W:World}{b r s p t bt N:Nat}{sv:Value}{most:Int}{F:Nat->Prop}{l:List Ck}
theorem HN(j:Bx W b (Ur sv most r s p t))(h:Dj A6.toAvT F GV W r bt l N)(hi:i<=(Bf l).length)(o:(Bf l).length<=1099511627776) :
  AB prog 50 [.pointer (some ⟨b,0,none⟩),.int .i64 (i:Int)] (fun v' w'=>v'=.int .i64 (Bc ((Bf l).take i):Int)/\Grow W w') W:=by
 apply Ut;refine AI ?_;refine Bt (j.cells 2 _ rfl) ?_;refine AA (NT h hi o) ?_;rintro _ E ⟨rfl,B⟩;exact CW (vs:=[_,_]) (by rfl) (CW (vs:=[_,_]) (by rfl) ⟨rfl,B⟩)
theorem FH(i:Bx W b (Ur sv most r s p t)):AB prog 41 [.pointer (some ⟨b,0,none⟩)] (fun v' w'=>v'=.bool true/\w'=W) W:=by
 apply cw;refine⟨_,rfl,?_⟩;refine As ?_;refine AI ?_;refine Bt (i.cells 2 _ rfl) ?_;exact⟨_,rfl,rfl,rfl⟩
theorem VM(i:Bx W b (Ur sv most r s p t))(h:Dj A6.toAvT F GV W r bt l N) :
  AB prog 17 [.pointer (some ⟨b,0,none⟩)] (fun v' w'=>v'=.int .i64 ((Bf l).length:Int)/\Grow W w') W:=by
 apply cZ;refine AA (FH i) ?_;rintro _ _ ⟨rfl,rfl⟩;rename World=>W
 rw[Ar];refine AV ?_;refine AI ?_;refine Bt (i.cells 2 _ rfl) ?_;exact XJ h
theorem V5(i:Bx W b (Ur sv most r s p t))(h:Dj A6.toAvT F GV W r bt l N) :
  AB prog 13 [.pointer (some ⟨b,0,none⟩)] (fun v' w'=>v'=.int .i64 (Bc (Bf l):Int)/\Grow W w') W:=by
 apply dz;refine AA (FH i) ?_;rintro _ _ ⟨rfl,rfl⟩;rename World=>W
 rw[Ar];refine AV ?_;refine AI ?_;refine Bt (i.cells 2 _ rfl) ?_;exact Kx h
theorem P2{k:Nat}(i:Bx W b (Ur sv most r s p t))(h:Dj A6.toAvT F GV W r bt l N)(j:(Bf l).length<=1099511627776) :
  AB prog 14 [.pointer (some ⟨b,0,none⟩),.int .i64 (k:Int)] (fun v' w'=>v'=ML (Bf l) k/\Grow W w') W:=by
 apply dr;refine AA (FH i) ?_;rintro _ _ ⟨rfl,rfl⟩;rename World=>W
 rw[Ar];refine AV ?_;refine AI ?_;refine Bt (i.cells 2 _ rfl) ?_;have e:∃x y,ML (Bf l) k=.tuple #[x,y]:=by
  unfold ML;split
  .exact⟨_,_,rfl⟩
  .split
   .exact⟨_,_,rfl⟩
   .rename_i h1 E;obtain⟨q,o,_⟩:=OS (l:=Bf l) (k:=k-1) (by omega);rw[o];exact⟨_,_,rfl⟩
 obtain⟨x,y,e⟩:=e;refine AA (Kz h j) ?_;rintro v I ⟨rfl,B⟩;rw[e];exact CW (vs:=[_,_]) (by rfl) (CW (vs:=[_,_]) (by rfl) ⟨rfl,B⟩)
end
theorem WH{S D:Nat->Prop}{bl:List Attr}{id:Int}{Kend:List Value->World->Prop}(hv:BB S 1 Bo W v rs)(hb:Cf D W fr bl)(hl:rs.length<=1099511627)
 (hK:∀U O w',AE W.heap.size 108 2 Dx w' U (rowOf id rs).1->AE W.heap.size 43 1 (Cx fun x=>D x/\x<W.heap.size) w' O (List.replicate (Bc rs) bl)->(∀g,U.ownBlock=some g->O.ownBlock≠some g)->Grow W w'->Kend [U,O,.int .i64 (rs.length:Int)] w') :
  Aq [(.slice none 0 0),(.slice none 0 0),(.int .i64 0)] (fun vs al w5=>∀_:Env,
   Bb .i64 (nth vs 2) (.int .i64 (rs.length:Int)) fun c6=>
   AD c6
   (Ao (fun a7 w6=>∀_:Env,
   AX .i64 (nth vs 2) (.int .i64 1) fun c7=>
   al [(nth a7 0),(nth a7 1),c7] w6) (fun J=>
   BQ 1 v (nth vs 2) fun c8=>
   AL c8 (fun c9 w7=>
   DJ .i32 c9 (.int .i32 10) fun ca=>
   AD ca
   (Ah [(0,1),(1,1)] [(.int .i64 0),(.int .i64 0)] [(0,(.int .i64 1))] fun t46=>
   Bg 108 2 1 [(.int .i64 0),(.int .i64 0)] [(0,t46)] (fun an w8=>
   runK prog (Builtin.append_ #[101,101] 101 [(nth vs 0),an].toArray) (fun cc w9=>
   Bg 43 1 1 [(.slice none 0 0)] [(0,fr)] (fun cd ch=>
   runK prog (Builtin.append_ #[50,50] 50 [(nth vs 1),cd].toArray) (fun cn cx=>
   J [cc,cn] cx) ch) w9) w8) w7)
   (Ae (nth vs 0) fun dk=>
   BW .i64 dk (.int .i64 1) fun t55=>
   Kk .i64 t55 (.int .i64 0) fun dv=>
   AD dv
   (BW .i64 (nth vs 2) (.int .i64 1) fun dT=>
   BQ 1 v dT fun e1=>
   AL e1 (fun e2 bb=>
   EB .i32 e2 (.int .i32 10) fun e3=>
   AD e3
   (BQ 2 (nth vs 0) t55 fun e4=>
   AM 0 e4 fun e5=>
   AL e5 (fun t70 e6=>
   AX .i64 t70 (.int .i64 1) fun e7=>
   BQ 2 (nth vs 0) t55 fun e8=>
   AM 0 e8 fun e9=>
   BC e9 e7 (fun ea=>
   J [(nth vs 0),(nth vs 1)] ea) e6) bb)
   (Ah [(0,1),(1,1)] [(.int .i64 0),(.int .i64 0)] [(0,(.int .i64 1)),(1,.int .i64 id)] fun t76=>
   Bg 108 2 1 [(.int .i64 0),(.int .i64 0)] [(0,t76)] (fun t77 av=>
   runK prog (Builtin.append_ #[101,101] 101 [(nth vs 0),t77].toArray) (fun ax ay=>
   J [ax,(nth vs 1)] ay) av) bb)) w7)
   (Ah [(0,1),(1,1)] [(.int .i64 0),(.int .i64 0)] [(0,(.int .i64 1)),(1,.int .i64 id)] fun b0=>
   Bg 108 2 1 [(.int .i64 0),(.int .i64 0)] [(0,b0)] (fun b3 ec=>
   runK prog (Builtin.append_ #[101,101] 101 [(nth vs 0),b3].toArray) (fun b4 ed=>
   J [b4,(nth vs 1)] ed) ec) w7))) w5))
   (Kend vs w5)) W:=by
 obtain⟨a,c,rfl,_⟩:=hv.shape;have ee:=hv.GQ (by decide);have ef:Cx (fun x=>D x/\x<W.heap.size) W [fr] bl:=⟨_,rfl,hb.mono (fun x hx h=>⟨h,hx⟩) (fun _ _ _=>rfl) (by decide) fun _ _ h=>h⟩;have G2:∀{M:Nat->Prop} {w2 w3:World} {r:List Value} {x:List Attr},Mod M w2 w3->(∀b,b<W.heap.size->¬M b)->Cx (fun b=>D b/\b<W.heap.size) w2 r x->Cx (fun b=>D b/\b<W.heap.size) w3 r x:=fun hm hn hy=>BG.BZ hy hm fun b _ hd=>hn b hd.2
 let St:List Int->Value->Value->World->Prop:=fun q U O W'=>AE W.heap.size 108 2 Dx W' U (rowOf id q).1/\AE W.heap.size 43 1 (Cx fun x=>D x/\x<W.heap.size) W' O (List.replicate (Bc q) bl)/\(∀g,U.ownBlock=some g->O.ownBlock≠some g)/\Grow W W'
 have eh:St (rs.take 0) (.slice none 0 0) (.slice none 0 0) W:=And.intro AE.nil (And.intro AE.nil (And.intro (fun g Q=>by simp[Value.ownBlock] at Q) (Mod.refl _ _)));refine Ab (fun vs W'=>∃(i:Nat) (U O:Value),i<=rs.length/\vs=[U,O,.int .i64 i]/\St (rs.take i) U O W') (fun vs _=>rs.length-Ds vs 2) ⟨0,_,_,Nn _,rfl,eh⟩ ?_;rintro vs W1 ⟨i,U,O,hi,rfl,o1,o2,V,g1⟩ _;simp only[GJ];have z1:=g1.size;refine H6 (fun et=>?_) fun eu=>?_
 .have X:i<rs.length:=by omega
  have bc:rs.take (i+1)=rs.take i++[rs[i]]:=by rw[No];simp[X]
  have bd:=(MN id (rs.take i)).2.2.2.2;rw[Mp] at bd;have ej:=Dn (rs.take i);rw[Mp] at ej;have push:∀{Y:World} {j:Int} {K:Value->World->Prop},Grow W1 Y->(∀o W3,AE W.heap.size 108 2 Dx W3 o ((rowOf id (rs.take i)).1++[⟨1,j⟩])->AE W.heap.size 43 1 (Cx fun x=>D x/\x<W.heap.size) W3 O (List.replicate (Bc (rs.take i)) bl)->(∀g,o.ownBlock=some g->O.ownBlock≠some g)->Grow W W3->K o W3)->
    Bg 108 2 1 [(.int .i64 0),(.int .i64 0)] [(0,.agg (Spn.cells ⟨1,j⟩).toArray)] (fun an w8=>runK prog (Builtin.append_ #[101,101] 101 [U,an].toArray) K w8) Y:=fun{Y j K} g2 hk=>by
   have z2:=g2.size;have q1:AE W.heap.size 108 2 Dx Y U (rowOf id (rs.take i)).1:=AE.mod o1 g2 (fun _ _ h=>h) fun _ _ _ h=>h;have q2:AE W.heap.size 43 1 (Cx fun x=>D x/\x<W.heap.size) Y O (List.replicate (Bc (rs.take i)) bl):=AE.mod o2 g2 (fun _ _ h=>h) fun _ _ _ h=>G2 g2 (fun _ _ h=>h) h;have bk:=AE.BA q1;have bn:=AE.BA q2;refine Dr DI.elE q1 (by omega) (cs:=Spn.cells ⟨1,j⟩) (x:=(⟨1,j⟩:Spn)) (DW (v:=.agg (Spn.cells ⟨1,j⟩).toArray) rfl (by decide) rfl rfl) rfl rfl (fun _ _ _ h=>by have h':=h;subst h';exact Spn.one _) (fun _ _ _ _ _ _ h=>h) (by show _*16<=_;omega) (by simp only[maxLen];omega) fun o W3 o3 m3 n3=>?_;refine hk o W3 o3 (AE.mod q2 m3 (fun g Q e=>V g e Q) fun _ _ _ h=>G2 m3 (fun b hb e=>by have:=(bk b e).1;omega) h) (fun g Q e=>?_) ((g1.trans g2).next m3 fun b hb e=>by have:=(bk b e).1;omega);rcases n3 g Q with h|h
   .exact V g h e
   .have:=(bn g e).2;omega
  refine AT (fun vs W'=>∃o I,vs=[o,I]/\St (rs.take (i+1)) o I W') ?_ ?_
  .rintro _ Y ⟨o,I,rfl,s1,s2,s3,s4⟩ _;simp only[GJ];rw[AR,AO (by omega)];exact⟨⟨i+1,o,I,X,rfl,s1,s2,s3,s4⟩,by show rs.length-Ds [o,I,_] 2<rs.length-Ds [U,O,_] 2;simp only[Ds,Sb,B0,Of,qT];omega⟩
  have rd:∀{Y:World} {q:Nat} {K:Value->World->Prop} (hq:q<rs.length),Grow W Y->K (.int .i32 rs[q]) Y->BQ 1 (.slice a rs.length c) (.int .i64 (q:Int)) (fun t=>AL t K Y):=fun{Y q K} hq g hk=>by
   obtain⟨p,r,rfl,_,hr,hc,rfl⟩:=ee.get hq;exact AU hq (AK (by have:=hc 0 _ rfl;exact g.cell this fun h=>h) hk)
  refine rd X g1 ?_;rw[Al];have b5:Bc (rs.take (i+1))=Bc (rs.take i)+(if rs[i]=10 then 1 else 0):=by
   rw[bc,FD];by_cases e:rs[i]=(10:Int)<;>simp[Bc,e]
  have b6:(rowOf id (rs.take (i+1))).1=(Fh id (rowOf id (rs.take i)) rs[i]).1:=by rw[bc,JH]
  have b7:=MI id (rs.take i);have inl:(Fh id (rowOf id (rs.take i)) rs[i]).1=(rowOf id (rs.take i)).1++[⟨1,id⟩]->¬rs[i]=10->
    Ah [(0,1),(1,1)] [(.int .i64 0),(.int .i64 0)] [(0,(.int .i64 1)),(1,.int .i64 id)] (fun t76=>
     Bg 108 2 1 [(.int .i64 0),(.int .i64 0)] [(0,t76)] (fun t77 av=>
     runK prog (Builtin.append_ #[101,101] 101 [U,t77].toArray) (fun ax ay=>
     (fun vs W'=>∃ o I,vs=[o,I]/\St (rs.take (i+1)) o I W') [ax,O] ay) av) W1):=fun e Z=>by
   refine⟨(Spn.cells ⟨1,id⟩).toArray,by kernel_rfl,?_⟩;refine push (j:=id) (Mod.refl _ _) fun o W3 s1 s2 s3 s4=>⟨o,O,rfl,by rw[b6,e];exact s1,by rw[b5,C3 Z,kg];exact s2,s3,s4⟩
  refine AF (fun Z=>?_) fun Z=>?_
  .have B:rs[i]=(10:Int):=Z;refine⟨(Spn.cells ⟨1,0⟩).toArray,by kernel_rfl,?_⟩;refine push (j:=0) (Mod.refl _ _) fun o W3 s1 s2 s3 s4=>?_;have zs:=s4.size;have a8:=AE.BA s2;have bp:=AE.BA s1;have bs:fr.cells=[fr].toArray:=by
    obtain⟨a,c,e,_⟩:=hb.shape;rw[e];rfl
   refine Dr BG.elE s2 (by omega) (cs:=[fr]) (x:=bl) (DW (v:=fr) rfl (by decide) bs rfl) rfl (G2 s4 (fun _ _ h=>h) ef) (fun _ _ _ h=>BG.rone h) (fun w2 w3 r y ew hm hy=>G2 hm (fun b hb e=>by
    rcases e with e|e
    .have:=(a8 b e).1;omega
    .omega) hy) (by rw [lD];show _ * 24<=_;omega) (by rw [lD];simp only [maxLen];omega) fun I W4 o4 m4 n4=>?_
   refine⟨o,I,rfl,?_,?_,fun g Q e=>?_,s4.next m4 fun b hb e=>by have:=(a8 b e).1;omega⟩
   .rw[b6,Fh,Io B];exact AE.mod s1 m4 (fun g Q e=>s3 g Q e) fun _ _ _ h=>h
   .rw[b5,Io B,qe];exact o4
   .rcases n4 g e with h|h
    .exact s3 g Q h
    .have:=(bp g Q).2;omega
  .have B:¬rs[i]=(10:Int):=Z;obtain⟨ra,rc,ek,eA,_,eB,eC⟩:=AE.shape o1;subst ek;rw[AP,Av,wrap64 (by omega) (by omega),DX];have E:(Fh id (rowOf id (rs.take i)) rs[i]).1=match (rs.take i).getLast? with
     |some q=>if q=10 then(rowOf id (rs.take i)).1++[⟨1,id⟩] else bump (rowOf id (rs.take i)).1
     |none=>(rowOf id (rs.take i)).1++[⟨1,id⟩]:=by rw[Fh,C3 B,b7];first | done | (cases(rs.take i).getLast?<;>rfl)
   obtain⟨f1,f2,f3,f4,f5⟩:=MN id (rs.take i);refine AF (fun ak=>?_) fun ep=>?_
   .have eI:0<i:=by
     rcases Nat.eq_zero_or_pos i with e|e
     .subst e;rw[f4 (by simp)] at ak;simp at ak
     .exact e
    have a1:(rs.take i).getLast?=some rs[i-1]:=by
     rw[List.getLast?_take,C3 (by omega),By (by omega)];rfl
    rw[a1] at E;simp only at E;rw[Av,wrap64 (by omega) (by omega),show((i:Int)-1)=((i-1:Nat):Int) by omega];refine rd (by omega) g1 ?_;rw[Bm];refine AW (fun e=>?_) fun e=>?_
    .exact inl (by rw[E,Io e]) B
    .obtain⟨L,n,eL,eN⟩:=f3 _ a1;have hq:GU id rs[i-1]=id:=by simp only[GU];exact C3 e
     rw[hq] at eL;have eR:n<=i:=by
      have:=kM List.length f1;rw[eL] at this;simp[Spn.u] at this;omega
     have b8:(rowOf id (rs.take i)).1.length=L.length+1:=by rw[eL];simp
     have a6:=o1;rw[b8] at a6 ⊢;rw[eL] at a6;have en:=AE.sl a6;rw[show((L.length+1:Nat):Int)-1=((L.length:Nat):Int) by omega];obtain⟨p,r,rfl,b9,hr,hc,eo⟩:=en.get (i:=L.length) (by simp);have bx:r=Spn.cells ⟨n,id⟩:=by have h':r=_:=eo;rw[h'];simp
     subst bx;refine AU (by omega) ?_;rw[AG,Addr.add_add];refine AK (v:=.int .i64 (n:Int)) (hc 0 _ rfl) ?_;rw[AR,wrap64 (by omega) (by omega)];refine AU (by omega) ?_;rw[AG,Addr.add_add];refine Ny (k:=2) (i:=L.length) (j:=0) (x':=(⟨n+1,id⟩:Spn)) a6 (by simp) (by decide) rfl rfl (fun _ _ _ _ h=>h) (fun _ _ r hr=>?_) fun W' o' m'=>?_
     .have h':r=_:=hr;rw[h'];simp[Spn.cells,Dx]
     .have er:(Value.slice (some p) (L.length+1) rc).ownBlock=some p.block->W.heap.size<=p.block:=fun e=>(AE.BA a6 _ e).1;have c4:(L++[(⟨n,id⟩:Spn)]).set L.length ⟨n+1,id⟩=L++[⟨n+1,id⟩]:=by simp
      rw[c4] at o';refine⟨_,_,rfl,?_,?_,fun g Q=>V g ?_,?_⟩
      .rw[b6,E,C3 e,eL,QE];exact o'
      .rw[b5,C3 B,kg];exact AE.mod o2 m' (fun g Q e=>V g (by rw[b8,e];exact b9.2) Q) fun _ _ _ h=>G2 m' (fun b hb e=>by have:=b9.1;omega) h
      .rw[b8];exact Q
      .exact g1.next m' fun b hb e=>by have:=b9.1;omega
   .have hz:(rowOf id (rs.take i)).1.length=0:=by omega
    have ba:(rs.take i).getLast?=none:=by
     cases Q:(rs.take i).getLast? with
     |none=>rfl
     |some q=>
      obtain⟨L,n,eL,_⟩:=f3 q Q;rw[eL] at hz;simp at hz
    exact inl (by rw[E,ba]) B
 .obtain rfl:i=rs.length:=by omega
  rw[Nr] at o1 o2;exact hK U O W1 o1 o2 V g1
section
open MapKept
def IG(d:TypeDesc)(w:World)(b:Nat)(f:Value->Option Value):Prop:=
 ∃j i,w.heap[b]?=some (.map j i)/\(∀x∈j.toList,IsKey d x.key)/\j.toList.Pairwise (fun x y=>x.key≠y.key)/\∀k v,IsKey d k->(f k=some v↔∃x∈j.toList,x.key=k/\x.val=v)
theorem IG.lt{d:TypeDesc}{b:Nat}{f:Value->Option Value}(h:IG d w b f):b<w.heap.size:=by
 obtain⟨i,c,hb,_⟩:=h;exact(lf.1 hb).1
theorem IG.mod{d:TypeDesc}{b:Nat}{f:Value->Option Value}(h:IG d w b f)(hm:Mod M w w')(hb:¬M b):IG d w' b f:=by
 have hl:=h.lt;obtain⟨i,c,h1,j⟩:=h;exact⟨i,c,(hm.same b hl hb).trans h1,j⟩
theorem IG.make(d:TypeDesc)(w:World):IG d (w.alloc (.map #[] 0)) w.heap.size (fun _=>none):=
 ⟨#[],0,(heap_alloc w _).1,by simp,by simp,fun k v _=>by simp⟩
theorem QO{d:TypeDesc}{t kt et:TypeId}{z:Value}{b:Nat}{f:Value->Option Value}{k:Value}(ht:P.underlying t=some (.map kt et))(hk:P.underlying kt=some d)(hi:IsKey d k)(I:(zeroValue et).run P w=.ok z w)(h:IG d w b f) :
  (Instr.lookup t (.map (some b)) k true).run P w=.ok (.tuple #[(f k).getD z,.bool (f k).isSome]) w:=by
 obtain⟨J,i,hb,o,hp,E⟩:=h;have hc:=fun em=>nD (w:=w) hk hi em 9999;rcases findNow_spec hi J.toList 0 o with⟨h1,B⟩|⟨j,e,h1,B,O⟩
 .have h0:f k=none:=by
   cases Q:f k with
   |none=>rfl
   |some v=>obtain⟨x,S,e,_⟩:=(E k v hi).1 Q;exact absurd e (B x S)
  simp[Instr.lookup,run_underlying ht,lu hb,hc,mP hk h1,I,Result.andThen,h0]
 .have h0:f k=some e.val:=(E k e.val hi).2 ⟨e,kx B,O,rfl⟩;simp[Instr.lookup,run_underlying ht,lu hb,hc,mP hk h1,Result.andThen,h0]
open Classical in
theorem Pr{d:TypeDesc}{t kt et:TypeId}{b:Nat}{f:Value->Option Value}{k v:Value}(ht:P.underlying t=some (.map kt et))(hk:P.underlying kt=some d)(hi:IsKey d k)(h:IG d w b f)(S:f k=none) :
  ∃w',(Instr.mapUpdate t (.map (some b)) k v).run P w=.ok () w'/\IG d w' b (fun E=>if E=k then some v else f E)/\Mod (fun x=>x=b) w w':=by
 obtain⟨T,o,hb,I,hp,U⟩:=h;have hc:=fun em=>nD (w:=w) hk hi em 9999;rcases findNow_spec hi T.toList 0 I with⟨h1,O⟩|⟨j,e,h1,O,X⟩
 .refine⟨{ w with heap:=w.heap.setIfInBounds b (.map (T.push ⟨k,v,o⟩) (o+1)) },by simp[Instr.mapUpdate,run_underlying ht,lu hb,hc,mP hk h1,nW _ hb,Result.andThen],⟨_,_,(heap_set hb).1,?_,?_,?_⟩,⟨rfl,rfl,rfl,by simp,fun x _ i=>(heap_set hb).2 x i⟩⟩
  .intro x i;simp only[od,DN,P9] at i;rcases i with i|rfl
   .exact I x i
   .exact hi
  .rw[od,pD];exact⟨hp,by simp,fun x i y V=>by simp at V;subst V;exact O x i⟩
  .intro E v' Q;simp only[od,DN,P9];by_cases e:E=k
   .subst e;rw[Io rfl];constructor
    .intro e;cases e;exact⟨_,.inr rfl,rfl,rfl⟩
    .rintro⟨x,i|rfl,B,J⟩
     .exact absurd B (O x i)
     .rw[<-J]
   .rw[C3 e,U E v' Q];constructor
    .rintro⟨x,i,B,J⟩;exact⟨x,.inl i,B,J⟩
    .rintro⟨x,i|rfl,B,J⟩
     .exact⟨x,i,B,J⟩
     .exact absurd B.symm e
 .rw[(U k e.val hi).2 ⟨e,kx O,X,rfl⟩] at S;cases S
theorem KY{l:List α}{x:α}:x∈l.eraseIdx j↔∃i,i≠j/\l[i]?=some x:=by
 rw[List.mem_eraseIdx_iff_getElem?]
open Classical in
theorem Qj{d:TypeDesc}{t kt et ty:TypeId}{b:Nat}{f:Value->Option Value}{k:Value}(ht:P.underlying t=some (.map kt et))(hk:P.underlying kt=some d)(hi:IsKey d k)(h:IG d w b f) :
  ∃w',(Builtin.delete_ #[t,kt] ty #[.map (some b),k]).run P w=.ok (.tuple #[]) w'/\IG d w' b (fun B=>if B=k then none else f B)/\Mod (fun x=>x=b) w w':=by
 obtain⟨J,E,hb,S,hp,hf⟩:=h;have hc:=fun em=>nD (w:=w) hk hi em 9999;rcases findNow_spec hi J.toList 0 S with⟨h1,X⟩|⟨j,e,h1,X,h3⟩
 .refine⟨{ w with heap:=w.heap.setIfInBounds b (.map J E) },by simp[Builtin.delete_,run_underlying ht,lu hb,hc,mP hk h1,nW _ hb,Result.andThen],⟨_,_,(heap_set hb).1,S,hp,?_⟩,⟨rfl,rfl,rfl,by simp,fun x _ o=>(heap_set hb).2 x o⟩⟩;intro B v' T;show(if B=k then none else f B)=some v'↔_;by_cases e:B=k
  .subst e;rw[Io rfl];exact⟨fun h=>(by cases h),fun⟨x,o,O,_⟩=>absurd O (X x o)⟩
  .rw[C3 e];exact hf B v' T
 .have hj:j<J.size:=by have:=(Bp.1 X).1;simpa using this
  have Y:(J.eraseIdxIfInBounds (0+j)).toList=J.toList.eraseIdx j:=by
   unfold Array.eraseIdxIfInBounds;rw[qj (by omega)];simp
  have Q:(J.eraseIdxIfInBounds (0+j)).toList.Sublist J.toList:=by rw[Y];exact List.eraseIdx_sublist _ _
  have I:∀x,x∈(J.eraseIdxIfInBounds (0+j)).toList↔x∈J.toList/\x.key≠k:=by
   intro x;rw[Y,KY];constructor
   .rintro⟨i,a6,o⟩;refine⟨kx o,fun e'=>?_⟩;have Z:=(Bp.1 o).1;have a1:=(Bp.1 X).1;have pw:=mT.1 hp;have ex:=(Bp.1 o).2;have ee:=(Bp.1 X).2;rcases pT a6 with U|U
    .exact pw i j Z a1 U (by rw[ex,ee,e',h3])
    .exact pw j i a1 Z U (by rw[ex,ee,e',h3])
   .rintro⟨o,a7⟩;obtain⟨i,V⟩:=lY.1 o;exact⟨i,fun e'=>a7 (by subst e';rw[X] at V;cases V;exact h3),V⟩
  refine⟨{ w with heap:=w.heap.setIfInBounds b (.map (J.eraseIdxIfInBounds (0+j)) E) },by simp[Builtin.delete_,run_underlying ht,lu hb,hc,mP hk h1,nW _ hb,Result.andThen],⟨_,_,(heap_set hb).1,fun x o=>S x (Q.subset o),hp.sublist Q,?_⟩,⟨rfl,rfl,rfl,by simp,fun x _ o=>(heap_set hb).2 x o⟩⟩;intro B v' T;show(if B=k then none else f B)=some v'↔_;by_cases e':B=k
  .subst e';rw[Io rfl];exact⟨fun h=>(by cases h),fun⟨x,o,O,_⟩=>absurd O ((I x).1 o).2⟩
  .rw[C3 e',hf B v' T];exact⟨fun⟨x,o,O,e2⟩=>⟨x,(I x).2 ⟨o,fun e3=>e' (O.symm.trans e3)⟩,O,e2⟩,fun⟨x,o,O,e2⟩=>⟨x,((I x).1 o).1,O,e2⟩⟩
end
section
variable {v0 v1 v2 v3 v4 v5 v6 v7 v8 v9:Value}{K:Cont}{w:World}
theorem dm(h: runK prog (Instr.makeMap 143 none) (fun t4 i=>
 Ah [(0,1),(1,1),(2,1),(3,1),(4,1)] [(.pointer none),(.slice none 0 0),(.slice none 0 0),(.map none),(.int .i64 0)] [(0,v0),(3,t4)] fun t5=>
 Bh 147 t5 (fun j w2=>
 K j w2) i) w):AB prog 39 [v0] K w:=cO (aN aE) func39 h (by kernel_rfl)
theorem Y3(h: CY v0 fun j=>
 AD (.bool (!j))
 (AJ v0 fun o=>
 AM 3 o fun B=>
 AL B (fun t9 E=>
 runK prog (BX .neq 143 (.tmp 9) (.const (.map none)) t9 (.map none)) (fun i w2=>
 K i w2) E) w)
 (K (.bool false) w)):AB prog 124 [v0] K w:=cO (aN aE) func124 h (by kernel_rfl)
theorem aM(h: Ae v0 fun t7=>
 Aq [(.slice none 0 0),(.int .i64 0)] (fun vs i w1=>∀_:Env,
 Bb .i64 (nth vs 1) t7 fun t9=>
 AD t9
 (BQ 5 v0 (nth vs 1) fun j=>
 Af 5 j (fun o w2=>
 Am 79 [(.int .i64 0),(.int .u8 0),(.int .i64 0),(.int .u64 0),(.string (ByteArray.mk #[]))] (fun t5 w3=>
 Ac 5 t5 o (fun w4=>
 AM 0 t5 fun B=>
 AL B (fun E w5=>
 AB prog 210 [(nth vs 0),E] (fun I w6=>
 AM 1 t5 fun J=>
 AM 0 J fun O=>
 AL O (fun Q w7=>
 runK prog (convert 5 75 Q) (fun S w8=>
 AB prog 211 [I,S] (fun T w9=>
 AM 1 t5 fun U=>
 AM 1 U fun V=>
 AL V (fun t25 X=>
 AB prog 210 [T,t25] (fun Y Z=>
 AM 1 t5 fun a1=>
 AM 2 a1 fun a6=>
 AL a6 (fun a7 a8=>
 AB prog 211 [Y,a7] (fun ak al=>
 AM 1 t5 fun an=>
 AM 3 an fun av=>
 AL av (fun ax ay=>
 runK prog (convert 9 293 ax) (fun b0 b3=>
 AB prog 212 [ak,b0] (fun b4 b5=>
 AX .i64 (nth vs 1) (.int .i64 1) fun b6=>
 i [b4,b6] b5) b3) ay) al) a8) Z) X) w9) w8) w7) w6) w5) w4) w3) w2) w1)
 (runK prog (convert 293 9 (nth vs 0)) (fun b7 b8=>
 K b7 b8) w1)) w):AB prog 143 [v0] K w:=cO (aN (aN (aO (aN (.node [3,8] [(3,3),(5,5),(8,38)] (aN (aO aE (aO (aN (aN (aN (aN aE)))) .nil))) .nil)) aE))) func143 h (by kernel_rfl)
theorem dS(h: AB prog 124 [v0] (fun Q w1=>
 CE Q fun S=>
 AD S
 (K (.tuple #[(.int .i64 0),(.int .i64 1)]) w1)
 (AJ v0 fun T=>
 AM 0 T fun U=>
 AL U (fun V w2=>
 AB prog 142 [V,v1] (fun o X=>
 EB .i64 o (.int .i64 0) fun Y=>
 AD Y
 (K (.tuple #[(.int .i64 0),o]) X)
 (Ae v1 fun Z=>
 DJ .i64 Z (.int .i64 0) fun a1=>
 AD a1
 (AJ v0 fun a6=>
 AM 4 a6 fun a7=>
 AL a7 (fun a8 w4=>
 AX .i64 a8 (.int .i64 1) fun ak=>
 AJ v0 fun al=>
 AM 4 al fun an=>
 BC an ak (fun w5=>
 K (.tuple #[(.int .i64 0),(.int .i64 0)]) w5) w4) X)
 (AB prog 143 [v1] (fun B w6=>
 AJ v0 fun av=>
 AM 3 av fun ax=>
 AL ax (fun ay w7=>
 runK prog (Instr.lookup 143 ay B true) (fun E w8=>
 AQ 0 E fun b0=>
 AQ 1 E fun b3=>
 Ao (fun vs w9=>∀_:Env,
 AJ v0 fun b4=>
 AM 1 b4 fun b5=>
 AL b5 (fun t66 b6=>
 BW .i64 (nth vs 0) (.int .i64 1) fun I=>
 BQ 2 t66 I fun b7=>
 AM 1 b7 fun t70=>
 AL t70 (fun b8 b9=>
 AX .i64 b8 (.int .i64 1) fun ba=>
 BQ 2 t66 I fun bb=>
 AM 1 bb fun bc=>
 BC bc ba (fun bd=>
 K (.tuple #[(nth vs 0),(.int .i64 0)]) bd) b9) b6) w9) (fun J=>
 CE b3 fun bk=>
 AD bk
 (AB prog 144 [v0] (fun t46 i=>
 Ay [7,10] [[],[0],[0,1],[0,1,2],[],[4],[],[6],[0,1,2,3,4,5,6,7],[0,1,2,3,4,5,6,7,8],[0,1,2,3,4,5,6,7,8,9]] i.drew (fun M St=>
 AJ v0 fun bl=>
 AM 1 bl fun bn=>
 BF (St 3) bn fun t50=>
 BW .i64 t46 (.int .i64 1) fun bp=>
 AB prog 52 [v1] (fun bs j=>
 Mod (M 7) i.drew j/\
 BQ 2 t50 bp fun t55=>
 AM 0 t55 fun bx=>
 BC bx bs (fun O=>
 Mod (M 10) j O/\
 AJ v0 fun c4=>
 AM 3 c4 fun c6=>
 AL c6 (fun c7 c8=>
 runK prog (do Instr.mapUpdate 143 c7 B t46;pure undef) (fun _u c9=>
 J [t46] c9) c8) O) j) i.drew)) w8)
 (J [b0] w8))) w7) w6) X))) w2) w1)) w):AB prog 74 [v0,v1] K w:=cO (aN (aO (aN (aO aE .nil)) (aO (aN (aN (aO aE .nil))) (aO (aN (aO (aN aE) .nil)) (aN (aN (.cut [8] [(8,8),(43,62)] (aN (aO (aN (aO (.dc [7,10] [[],[0],[0,1],[0,1,2],[],[4],[],[6],(aR 8),(aR 9),(aR 10)] [[7]]) .nil)) .nil)) (aN aE)))))))) func74 h (by kernel_rfl)
theorem ZH(h: AJ v0 fun t6=>
 AM 2 t6 fun t7=>
 AL t7 (fun t8 w1=>
 Ae t8 fun t9=>
 BW .i64 t9 (.int .i64 1) fun i=>
 Kk .i64 i (.int .i64 0) fun j=>
 AD j
 (AJ v0 fun o=>
 AM 2 o fun B=>
 AL B (fun E w2=>
 BQ 1 E i fun I=>
 AL I (fun J w3=>
 AJ v0 fun t22=>
 AM 2 t22 fun O=>
 AL O (fun Q w4=>
 runK prog (Instr.sliceAt 145 Q none (some i) none) (fun S w5=>
 AJ v0 fun T=>
 AM 2 T fun U=>
 BC U S (fun w6=>
 AX .i64 J (.int .i64 1) fun V=>
 K V w6) w5) w4) w3) w2) w1)
 (AJ v0 fun X=>
 AM 1 X fun Y=>
 AL Y (fun Z w7=>
 Ah [(0,1),(1,1)] [(.slice none 0 0),(.int .i64 0)] [] fun a1=>
 Bg 181 2 1 [(.slice none 0 0),(.int .i64 0)] [(0,a1)] (fun a6 w8=>
 runK prog (Builtin.append_ #[144,144] 144 [Z,a6].toArray) (fun a7 w9=>
 AJ v0 fun t39=>
 AM 1 t39 fun a8=>
 BC a8 a7 (fun ak=>
 AJ v0 fun al=>
 AM 1 al fun an=>
 AL an (fun av ax=>
 Ae av fun t45=>
 K t45 ax) ak) w9) w8) w7) w1)) w):AB prog 144 [v0] K w:=cO (aN (aO (aN (aN (aO (aN (aN aE)) .nil))) (aN aE))) func144 h (by kernel_rfl)
theorem aY(h: Am 181 [(.slice none 0 0),(.int .i64 0)] (fun t4 w1=>
 Ao (fun _vs w2=>∀_:Env,
 AJ v0 fun t45=>
 AM 1 t45 fun t46=>
 AL t46 (fun U w3=>
 BW .i64 v1 (.int .i64 1) fun V=>
 BQ 2 U V fun t50=>
 Af 2 t50 (fun X w4=>
 Ac 2 t4 X (fun w5=>
 Af 2 t4 (fun r0 w6=>
 K (.tuple #[r0,(.int .i64 0)]) w6) w5) w4) w3) w2) (fun J=>
 AB prog 124 [v0] (fun t8 T=>
 CE t8 fun t9=>
 AD t9
 (Ah [(0,1),(1,1)] [(.slice none 0 0),(.int .i64 0)] [] fun Y=>
 Ac 2 t4 Y (fun w8=>
 Af 2 t4 (fun o w9=>
 K (.tuple #[o,(.int .i64 1)]) w9) w8) T)
 (DJ .i64 v1 (.int .i64 0) fun Z=>
 AD Z
 (AJ v0 fun a1=>
 AM 4 a1 fun a6=>
 AL a6 (fun a7 a8=>
 Ah [(0,1),(1,1)] [(.slice none 0 0),(.int .i64 0)] [(1,a7)] fun ak=>
 Ac 2 t4 ak (fun al=>
 Af 2 t4 (fun B an=>
 K (.tuple #[B,(.int .i64 0)]) an) al) a8) T)
 (Bb .i64 v1 (.int .i64 0) fun av=>
 AD av
 (Ah [(0,1),(1,1)] [(.slice none 0 0),(.int .i64 0)] [] fun ax=>
 Ac 2 t4 ax (fun ay=>
 Af 2 t4 (fun E b0=>
 K (.tuple #[E,(.int .i64 5)]) b0) ay) T)
 (AJ v0 fun t25=>
 AM 1 t25 fun b3=>
 AL b3 (fun b4 I=>
 Ae b4 fun b5=>
 Eu .i64 v1 b5 fun b6=>
 AD b6
 (Ah [(0,1),(1,1)] [(.slice none 0 0),(.int .i64 0)] [] fun i=>
 Ac 2 t4 i (fun b7=>
 Af 2 t4 (fun O b8=>
 K (.tuple #[O,(.int .i64 5)]) b8) b7) I)
 (AJ v0 fun b9=>
 AM 1 b9 fun ba=>
 AL ba (fun bb bc=>
 BW .i64 v1 (.int .i64 1) fun bd=>
 BQ 2 bb bd fun bk=>
 AM 1 bk fun t39=>
 AL t39 (fun bl Q=>
 DJ .i64 bl (.int .i64 0) fun bn=>
 AD bn
 (Ah [(0,1),(1,1)] [(.slice none 0 0),(.int .i64 0)] [] fun j=>
 Ac 2 t4 j (fun bp=>
 Af 2 t4 (fun S bs=>
 K (.tuple #[S,(.int .i64 5)]) bs) bp) Q)
 (J [] Q)) bc) I)) T)))) w1)) w):AB prog 106 [v0,v1] K w:=cO (aN (.cut [] [(5,43)] (aN (aO aE (aN (aO aE (aN (aO aE .nil)))))) aE)) func106 h (by kernel_rfl)
theorem Zu(h: AB prog 106 [v0,v1] (fun i w1=>
 AQ 0 i fun E=>
 AQ 1 i fun j=>
 Am 181 [(.slice none 0 0),(.int .i64 0)] (fun t5 w2=>
 Ac 2 t5 E (fun I=>
 EB .i64 j (.int .i64 0) fun J=>
 AD J
 (K j I)
 (DJ .i64 v1 (.int .i64 0) fun O=>
 AD O
 (AJ v0 fun Q=>
 AM 4 Q fun S=>
 AL S (fun T w4=>
 AX .i64 T (.int .i64 1) fun U=>
 AJ v0 fun V=>
 AM 4 V fun X=>
 BC X U (fun w5=>
 K (.int .i64 0) w5) w4) I)
 (AJ v0 fun Y=>
 AM 1 Y fun Z=>
 AL Z (fun o w6=>
 BW .i64 v1 (.int .i64 1) fun B=>
 BQ 2 o B fun a1=>
 AM 1 a1 fun a6=>
 AL a6 (fun a7 w7=>
 AX .i64 a7 (.int .i64 1) fun t22=>
 BQ 2 o B fun a8=>
 AM 1 a8 fun ak=>
 BC ak t22 (fun w8=>
 K (.int .i64 0) w8) w7) w6) I))) w2) w1) w):AB prog 152 [v0,v1] K w:=cO (aN (aN (aO (aN (aO aE (aN aE))) aE))) func152 h (by kernel_rfl)
theorem dQ(h: AB prog 106 [v0,v1] (fun i w1=>
 AQ 0 i fun I=>
 AQ 1 i fun j=>
 Am 181 [(.slice none 0 0),(.int .i64 0)] (fun t5 w2=>
 Ac 2 t5 I (fun J=>
 EB .i64 j (.int .i64 0) fun O=>
 AD O
 (K j J)
 (DJ .i64 v1 (.int .i64 0) fun Q=>
 AD Q
 (AJ v0 fun S=>
 AM 4 S fun T=>
 AL T (fun U w4=>
 BW .i64 U (.int .i64 1) fun V=>
 KM .i64 V (.int .i64 0) fun X=>
 AJ v0 fun t39=>
 AM 4 t39 fun Y=>
 BC Y X (fun w5=>
 K (.int .i64 0) w5) w4) J)
 (AM 1 t5 fun Z=>
 AL Z (fun a1 E=>
 DJ .i64 a1 (.int .i64 1) fun a6=>
 AD a6
 (Ay [6,7] [[],[0],[0,1],[0,1,2],[],[4],[4,5],[0,1,2,3,4,5,6]] E.drew (fun M St=>
 AJ v0 fun t46=>
 AM 3 t46 fun a7=>
 BF (St 3) a7 fun a8=>
 AM 0 t5 fun ak=>
 BF (St 5) ak fun t50=>
 AB prog 143 [t50] (fun al w7=>
 Mod (M 6) E.drew w7/\
 runK prog (Builtin.delete_ #[143,9] 0 [a8,al].toArray) (fun _u w8=>
 Mod (M 7) w7 w8/\
 AJ v0 fun t53=>
 AM 1 t53 fun an=>
 AL an (fun t55 w9=>
 BW .i64 v1 (.int .i64 1) fun av=>
 Ah [(0,1),(1,1)] [(.slice none 0 0),(.int .i64 0)] [] fun ax=>
 BQ 2 t55 av fun ay=>
 Ac 2 ay ax (fun b0=>
 AJ v0 fun b3=>
 AM 2 b3 fun b4=>
 AL b4 (fun b5 b6=>
 BW .i64 v1 (.int .i64 1) fun t66=>
 Bg 3 1 1 [(.int .i64 0)] [(0,t66)] (fun b7 b8=>
 runK prog (Builtin.append_ #[145,145] 145 [b5,b7].toArray) (fun b9 ba=>
 AJ v0 fun bb=>
 AM 2 bb fun t70=>
 BC t70 b9 (fun bc=>
 K (.int .i64 0) bc) ba) b8) b6) b0) w9) w8) w7) E.drew))
 (AJ v0 fun bd=>
 AM 1 bd fun bk=>
 AL bk (fun o bl=>
 BW .i64 v1 (.int .i64 1) fun B=>
 BQ 2 o B fun bn=>
 AM 1 bn fun bp=>
 AL bp (fun bs bx=>
 BW .i64 bs (.int .i64 1) fun t22=>
 BQ 2 o B fun c4=>
 AM 1 c4 fun c6=>
 BC c6 t22 (fun c7=>
 K (.int .i64 0) c7) bx) bl) E)) J))) w2) w1) w):AB prog 79 [v0,v1] K w:=cO (aN (aN (aO (aN (aO aE (aN (aN (aN (aO (aO (.dc [6,7] [[],[0],[0,1],[0,1,2],[],[4],[4,5],(aR 7)] []) aE) .nil)))))) aE))) func79 h (by kernel_rfl)
theorem eP(h: AB prog 106 [v0,v1] (fun i S=>
 AQ 0 i fun o=>
 AQ 1 i fun j=>
 Am 181 [(.slice none 0 0),(.int .i64 0)] (fun O w2=>
 Ac 2 O o (fun Q=>
 EB .i64 j (.int .i64 0) fun B=>
 AD B
 (K (.tuple #[(.slice none 0 0),j]) Q)
 (AM 0 O fun E=>
 AL E (fun I w4=>
 AB prog 52 [I] (fun J T=>
 K (.tuple #[J,(.int .i64 0)]) T) w4) Q)) w2) S) w):AB prog 51 [v0,v1] K w:=cO (aN (aN (aO (aN (aO aE .nil)) aE))) func51 h (by kernel_rfl)
theorem cR(h: AB prog 124 [v0] (fun t4 O=>
 CE t4 fun t5=>
 AD t5
 (K (.int .i64 0) O)
 (Cg O (fun C=>
 AJ v0 fun Q=>
 AM 1 Q fun S=>
 BJ C S fun t9=>
 Ae t9 fun i=>
 AX .i64 (.int .i64 1) i fun j=>
 AJ v0 fun o=>
 AM 2 o fun B=>
 BJ C B fun E=>
 Ae E fun I=>
 BW .i64 j I fun J=>
 ∀w2:World,C w2->
 K J w2))) w):AB prog 67 [v0] K w:=cO (aN (aO (aN (aO aE .nil)) (aO .draw .nil))) func67 h (by kernel_rfl)
theorem Yy(h: Ae v1 fun t9=>
 Eu .i64 t9 (.int .i64 64) fun U=>
 AD U
 (K (.int .i64 3) w)
 (Ae v1 fun V=>
 Aq [(.int .i64 0),(.int .i64 0)] (fun vs i w1=>∀_:Env,
 Bb .i64 (nth vs 1) V fun X=>
 AD X
 (BQ 5 v1 (nth vs 1) fun Y=>
 Af 5 Y (fun Z w2=>
 Am 79 [(.int .i64 0),(.int .u8 0),(.int .i64 0),(.int .u64 0),(.string (ByteArray.mk #[]))] (fun O w3=>
 Ac 5 O Z (fun w4=>
 Ao (fun Q w5=>∀_:Env,
 AD (nth Q 0)
 (K (.int .i64 3) w5)
 (AM 0 O fun a1=>
 AL a1 (fun a6 w6=>
 AM 1 O fun a7=>
 Af 4 a7 (fun a8 w7=>
 AB prog 209 [v0,a6,a8] (fun ak w8=>
 CE ak fun t45=>
 AD t45
 (AX .i64 (nth vs 1) (.int .i64 1) fun t46=>
 i [(.int .i64 4),t46] w8)
 (AX .i64 (nth vs 1) (.int .i64 1) fun j=>
 i [(nth vs 0),j] w8)) w7) w6) w5)) (fun J=>
 Ay [16] [[],[0],[0,1],[0,1,2],[0,1,2],[0,1,2,4],[0,1,2,3,4,5],[0,1,2,3,4,5,6],[0,1,2,3,4,5,6,7],[0,1,2],[0,1,2,9],[0,1,2,3,4,5,6,7,8,9,10],[0,1,2,3,4,5,6,7,8,9,10,11],[0,1,2,3,4,5,6,7,8,9,10,11,12],[0,1,2,3,4,5,6,7,8,9,10,11,12,13],[0,1,2,3,4,5,6,7,8,9,10,11,12,13,14],[0,1,2,3,4,5,6,7,8,9,10,11,12,13,14,15],[0,1,2,3,4,5,6,7,8,9,10,11,12,13,14,15,16],[0,1,2,3,4,5,6,7,8,9,10,11,12,13,14,15,16,17],[0,1,2,3,4,5,6,7,8,9,10,11,12,13,14,15,16,17,18]] w4.drew (fun M T=>
 Eu .i64 (nth vs 1) (.int .i64 0) fun al=>
 AD al
 (BW .i64 (nth vs 1) (.int .i64 1) fun an=>
 BQ 5 v1 an fun t25=>
 AM 0 t25 fun av=>
 BF (T 8) av fun ax=>
 AM 0 O fun ay=>
 BF (T 10) ay fun b0=>
 Kk .i64 ax b0 fun b3=>
 AD b3
 (J [(.bool true)] w4.drew)
 (AM 1 O fun b4=>
 EM (T 15) 4 b4 fun b5=>
 AB prog 208 [b5] (fun b6 w9=>
 Mod (M 16) w4.drew w9/\
 CE b6 fun b7=>
 J [b7] w9) w4.drew))
 (AM 1 O fun o=>
 EM (T 15) 4 o fun B=>
 AB prog 208 [B] (fun E S=>
 Mod (M 16) w4.drew S/\
 CE E fun I=>
 J [I] S) w4.drew)))) w3) w2) w1)
 (K (nth vs 0) w1)) w)):AB prog 142 [v0,v1] K w:=cO (aN (aO (aN (aO aE .nil)) (aN (aO (aN (.node [5,13] [(4,7),(13,46)] (aN (aO aE (aO (aN (.cut [18] [(18,37)] (.dc [16] [[],[0],[0,1],[0,1,2],[0,1,2],[0,1,2,4],(aR 6),(aR 7),(aR 8),[0,1,2],[0,1,2,9],(aR 11),(aR 12),(aR 13),(aR 14),(aR 15),(aR 16),(aR 17),(aR 18),(aR 19)] []) (aO aE (aN aE)))) .nil))) .nil)) aE)))) func142 h (by kernel_rfl)
theorem Ye(h: AB prog 260 [v0] (fun T U=>
 Aq [T,v1] (fun vs i w2=>∀_:Env,
 Eu .u64 (nth vs 1) (.int .u64 127) fun V=>
 AD V
 (runK prog (convert 75 5 (nth vs 1)) (fun j X=>
 runK prog (BX .or 5 (.tmp 13) (.const (.int .u8 128)) j (.int .u8 128)) (fun o w4=>
 Bg 5 1 1 [(.int .u8 0)] [(0,o)] (fun B Y=>
 runK prog (Builtin.append_ #[293,293] 293 [(nth vs 0),B].toArray) (fun E Z=>
 runK prog (BX .shr 75 (.tmp 9) (.const (.int .u64 7)) (nth vs 1) (.int .u64 7)) (fun I w7=>
 i [E,I] w7) Z) Y) w4) X) w2)
 (runK prog (convert 75 5 (nth vs 1)) (fun J w8=>
 Bg 5 1 1 [(.int .u8 0)] [(0,J)] (fun O w9=>
 runK prog (Builtin.append_ #[293,293] 293 [(nth vs 0),O].toArray) (fun Q S=>
 K Q S) w9) w8) w2)) U) w):AB prog 211 [v0,v1] K w:=cO (aN (aN (aO (.node [0,1] [(0,1),(7,16)] (aO (aN aE) aE) .nil) aE))) func211 h (by kernel_rfl)
theorem ad(h: AB prog 259 [v1] (fun i j=>
 AB prog 211 [v0,i] (fun o w2=>
 K o w2) j) w):AB prog 210 [v0,v1] K w:=cO (aN aE) func210 h (by kernel_rfl)
theorem au(h: Ae v1 fun j=>
 runK prog (convert 3 75 j) (fun o B=>
 AB prog 211 [v0,o] (fun t9 w2=>
 runK prog (Builtin.append_ #[293,293] 293 [t9,v1].toArray) (fun i E=>
 K i E) w2) B) w):AB prog 212 [v0,v1] K w:=cO (aN aE) func212 h (by kernel_rfl)
theorem ZX(h: runK prog (convert 2 75 v0) (fun t4 i=>
 runK prog (BX .shl 75 (.tmp 4) (.const (.int .u64 1)) t4 (.int .u64 1)) (fun t5 w2=>
 runK prog (BX .shr 2 (.tmp 6) (.const (.int .u64 63)) v0 (.int .u64 63)) (fun j o=>
 runK prog (convert 2 75 j) (fun B w4=>
 runK prog (BX .xor 75 (.tmp 5) (.tmp 8) t5 B) (fun t9 E=>
 K t9 E) w4) o) w2) i) w):AB prog 259 [v0] K w:=cO (aN aE) func259 h (by kernel_rfl)
theorem Yh(h: Hg v0 fun i=>
 AD (.bool i)
 (K (.slice none 0 0) w)
 (Bg 5 1 0 [] [] (fun t5 j=>
 runK prog (Builtin.append_ #[293,293] 293 [t5,v0].toArray) (fun o w2=>
 K o w2) j) w)):AB prog 260 [v0] K w:=cO (aN (aO (aN (aO aE .nil)) aE)) func260 h (by kernel_rfl)
end
theorem IQ:DU prog 293 5 1 1:=⟨Tryz.t5,.int .u8 0,by kernel_rfl,by kernel_rfl,by kernel_rfl,by kernel_rfl,by kernel_rfl,by rfl,by decide⟩
theorem JW.one{r:List Value}{x:Int}(h:JW w r x):∀u∈r,u.oneCell'=true:=by
 subst h;intro u hu;simp at hu;subst hu;rfl
abbrev FX(B:Nat)(w:World)(v:Value)(l:List Int):Prop:=AE B 5 1 JW w v l
theorem dI{x:Int}(h0:0<=x)(h1:x<256):IntKind.u8.wrap x=x:=by
 have i:(2:Int) ^ IntKind.u8.bits=256:=by decide
 simp only[IntKind.wrap,i,IntKind.signed,og];rw[C3 (by decide)];omega
theorem RU{x:Int}:IntKind.u8.wrap x=x%256:=by
 have i:(2:Int) ^ IntKind.u8.bits=256:=by decide
 simp only[IntKind.wrap,i,IntKind.signed,og];rw[C3 (by decide)]
theorem gk:∀a:Nat,a<256->(a ||| 128)=a%128+128:=by decide +kernel
theorem Xz{t:TypeId}{a:Int}(w:World)(h0:0<=a)(h1:a<256):(BX .or t xo yo (.int .u8 a) (.int .u8 128)).run prog w=.ok (.int .u8 (a%128+128)) w:=by
 rw[(KA w).1];have e:((BitVec.ofInt IntKind.u8.bits a ||| BitVec.ofInt IntKind.u8.bits 128).toNat:Int)=((a.toNat ||| 128:Nat):Int):=by
  show((BitVec.ofInt 8 a ||| BitVec.ofInt 8 128).toNat:Int)=_;rw[BitVec.toNat_or,lx,lx];have e:((2 ^ 8:Nat):Int)=256:=by decide
  rw[e,mN h0 h1];rfl
 rw[e,gk _ (by omega),dI (by omega) (by omega)];congr 2
 omega
theorem P7{l:List Int}(h:DF S w v l)(hl:l.length<=1099511627776) :
  AB prog 260 [v] (fun v' w'=>FX w.heap.size w' v' l/\Grow w w') w:=by
 apply Yh;obtain⟨a,c,rfl,hm⟩:=h.shape;rw[Sg];cases a with
 |none=>
  have:l=[]:=by
   cases l with
   |nil=>rfl
   |cons x l=>obtain⟨p,r,e,_⟩:=h.get (i:=0) (by simp);cases e
  subst this;exact As ⟨AE.nil,Mod.refl _ _⟩
 |some p=>
  refine AV ?_;refine JK ?_;have o:Grow w (w.alloc (.cells #[] 5)):=Mod.alloc _ _ _;have B:FX w.heap.size (w.alloc (.cells #[] 5)) (.slice (some ⟨w.heap.size,0,none⟩) 0 0) []:=AE.made (Lc _);obtain⟨v',w',h1,E,I,J⟩:=AE.append (ty:=293) IQ B (h.grow o (by decide) fun _ _ h=>h) (fun _ _=>JW.one) (by simp;omega) (by simp) (by simpa using hm) (fun _ _ _ _ h=>h);refine Ag h1 ⟨?_,o.next (Mod.of_grownBy I) ?_⟩
  .refine E.base fun g j=>?_;rcases J g j with h|h
   .cases h;exact Lc _
   .simp only[ow] at h;omega
  .intro b hb e;simp only[Value.ownBlock,i6] at e;omega
theorem Pc{n:Int}(h:K (.int .u8 (n%256)) w):runK prog (convert 75 5 (.int .u64 n)) K w:=by
 refine Ag (FF (k:=.u8) w (by kernel_rfl) (by kernel_rfl)) ?_;rw[RU];exact h
theorem J0{l:List Int}{n:Nat}(h:DF S w v l)(hl:l.length+20<=1099511627776)(E:n<18446744073709551616) :
  AB prog 211 [v,.int .u64 n] (fun v' w'=>FX w.heap.size w' v' (l++uv n)/\Grow w w') w:=by
 apply Ye;refine AA (P7 h (by omega)) ?_;rintro v1 X ⟨I,J⟩;have o:(128:Nat) ^ (9+1)=1180591620717411303424:=by decide
 refine Ab (fun vs W=>∃(f m:Nat) (pre:List Int) (lv:Value),vs=[lv,.int .u64 m]/\uv n=pre++OC f m/\m<128 ^ (f+1)/\m<18446744073709551616/\pre.length+f=9/\FX w.heap.size W lv (l++pre)/\Grow w W) (fun vs _=>Ds vs 1)
  ⟨9,n,[],v1,rfl,rfl,by omega,E,rfl,by rw[kG];exact I,J⟩ ?_
 rintro vs W ⟨f,m,pre,lv,rfl,hu,hm,O,Y,B,g⟩ _;simp only[GJ];rw[BR];refine AF (fun Q=>?_) fun T=>?_
 .cases f with
  |zero=>simp at hm;omega
  |succ f=>
   have i:OC (f+1) m=((m%128+128:Nat):Int)::OC f (m/128):=by
    simp only[OC];rw[C3 (by omega)]
   refine Pc (Ag (Xz W (by omega) (by omega)) ?_);have U:((m:Int)%256%128+128)=((m%128+128:Nat):Int):=by omega
   rw[U];refine Lm (w0:=w) IQ B g (cs:=[.int .u8 ((m%128+128:Nat):Int)]) (x:=((m%128+128:Nat):Int)) (by kernel_rfl) rfl rfl (fun _ _ _=>JW.one) (fun _ _ _ _ _ _ h=>h) (by simp only[Bq];omega) (by simp only[Bq,maxLen];omega) fun v' w' o' g'=>?_;refine Ag (OK (n:=7) w' (by decide)) ?_;have V:((m:Int)).fdiv (2 ^ 7)=((m/128:Nat):Int):=by
    rw[nu _ (by decide)];show(m:Int)/128=_;omega
   rw[V];refine⟨⟨f,m/128,pre++[((m%128+128:Nat):Int)],v',rfl,by rw[hu,i];simp,?_,by omega,by simp;omega,by rw[<-PF];exact o',g'⟩,?_⟩
   .rw[qm] at hm;exact nw (by omega)
   .show(((m/128:Nat):Int)).toNat<((m:Nat):Int).toNat;omega
 .have j:OC f m=[(m:Int)]:=by
   cases f with
   |zero=>rfl
   |succ f=>simp only[OC];rw[Io (by omega)]
  refine Pc ?_;rw[show((m:Int)%256)=m by omega];refine Lm (w0:=w) IQ B g (cs:=[.int .u8 (m:Int)]) (x:=(m:Int)) (by kernel_rfl) rfl rfl (fun _ _ _=>JW.one) (fun _ _ _ _ _ _ h=>h) (by simp only[Bq];omega) (by simp only[Bq,maxLen];omega) fun v' w' o' g'=>?_;refine⟨?_,g'⟩;rw[hu,j,<-PF];exact o'
theorem TU{t:TypeId}{a b:Int}(w:World)(ha:IZ a)(hb:IZ b):(BX .xor t xo yo (.int .u64 a) (.int .u64 b)).run prog w=.ok (.int .u64 ((a.toNat ^^^ b.toNat:Nat):Int)) w:=by
 have e0:(BX .xor t xo yo (.int .u64 a) (.int .u64 b)).run prog w=.ok (.int .u64 (IntKind.u64.wrap (BitVec.ofInt IntKind.u64.bits a ^^^ BitVec.ofInt IntKind.u64.bits b).toNat)) w:=by
  simp[BX,eqGuard,binOp,Op.intBits]
 rw[e0];have e:((BitVec.ofInt IntKind.u64.bits a ^^^ BitVec.ofInt IntKind.u64.bits b).toNat:Int)=((a.toNat ^^^ b.toNat:Nat):Int):=by
  show((BitVec.ofInt 64 a ^^^ BitVec.ofInt 64 b).toNat:Int)=_;unfold IZ at ha hb;rw[BitVec.toNat_xor,lx,lx];have e:((2 ^ 64:Nat):Int)=18446744073709551616:=by decide
  rw[e,mN ha.1 ha.2,mN hb.1 hb.2]
 have i:a.toNat ^^^ b.toNat<2 ^ 64:=Nat.xor_lt_two_pow (by unfold IZ at ha;omega) (by unfold IZ at hb;omega);rw[e,Gq ⟨by omega,by omega⟩]
theorem FP{x:Int}:IntKind.u64.wrap x=x%18446744073709551616:=by
 have i:(2:Int) ^ IntKind.u64.bits=18446744073709551616:=by decide
 simp only[IntKind.wrap,i,IntKind.signed,og];rw[C3 (by decide)]
theorem eY{n:Int}(h0:-9223372036854775808<=n)(h1:n<=9223372036854775807) :
  AB prog 259 [.int .i64 n] (fun v' w'=>v'=.int .u64 (Hd n:Nat)/\w'=w) w:=by
 apply ZX;refine Ag (FF (k:=.u64) w (by kernel_rfl) (by kernel_rfl)) ?_;refine Ag (SP (n:=1) w (by decide)) ?_;refine Ag (OK (n:=63) w (by decide)) ?_;refine Ag (FF (k:=.u64) w (by kernel_rfl) (by kernel_rfl)) ?_;have o:IZ (IntKind.u64.wrap (IntKind.u64.wrap n*2 ^ 1)):=by
  rw[FP];exact⟨by omega,by omega⟩
 have B:IZ (IntKind.u64.wrap (n.fdiv (2 ^ 63))):=by
  rw[FP];exact⟨by omega,by omega⟩
 refine Ag (TU w o B) ⟨?_,rfl⟩;congr 1
 rw[FP,FP,FP,nu _ (by decide)];have i:((2:Int) ^ 63)=9223372036854775808:=by decide
 have E:((2:Int) ^ 1)=2:=by decide
 rw[i,E];by_cases j:0<=n
 .have q:n/9223372036854775808=0:=by omega
  rw[q];simp only[Int.zero_emod,Int.toNat_zero,Nat.xor_zero];unfold Hd;rw[Io j];omega
 .have q:n/9223372036854775808=-1:=by omega
  rw[q];have r:((-1:Int)%18446744073709551616).toNat=2 ^ 64-1:=by decide
  rw[r,Nat.xor_comm,Lib.xor_ones64 _ (by omega)];unfold Hd;rw[C3 j];omega
theorem R9{l:List Int}{n:Int}(h:DF S w v l)(hl:l.length+20<=1099511627776)(h0:-9223372036854775808<=n)(h1:n<=9223372036854775807) :
  AB prog 210 [v,.int .i64 n] (fun v' w'=>FX w.heap.size w' v' (l++uv (Hd n))/\Grow w w') w:=by
 apply ad;refine AA (eY h0 h1) ?_;rintro _ _ ⟨rfl,rfl⟩;exact AA (J0 h hl (HX h0 h1)) fun _ _ h=>h
theorem US{v j:Value}{l x:List Int}(h:DF S w v l)(o:DF F w j x)(hl:l.length+x.length+40<=1099511627776) :
  AB prog 212 [v,j] (fun v' w'=>FX w.heap.size w' v' (l++(uv x.length++x))/\Grow w w') w:=by
 apply au;obtain⟨a,c,rfl,_⟩:=o.shape;rw[AP];refine Ag (FF (k:=.u64) w (by kernel_rfl) (by kernel_rfl)) ?_;rw[Gq ⟨by omega,by omega⟩];refine AA (J0 h (by omega) (by omega)) ?_;rintro v1 Q ⟨B,i⟩;have J:(uv x.length).length<=10:=(Ga 9 x.length).2;obtain⟨v',w',h1,E,O,T⟩:=AE.append (ty:=293) IQ B (o.grow i (by decide) fun _ _ h=>h) (fun _ _=>JW.one) (by simp only[Bq];omega) i.size (by simp only[Bq,maxLen];omega) (fun _ _ _ _ h=>h);refine Ag h1 ⟨?_,i.next (Mod.of_grownBy O) fun b hb e=>by have:=(AE.BA B b e).1;omega⟩;rw[PF] at E;exact E
theorem VV{a:Attr}:(Kg a).length<=50+a.val.s.size:=by
 have h1:=(Ga 9 (Hd a.key)).2;have i:=(Ga 9 a.val.kind.toNat).2;have j:=(Ga 9 (Hd a.val.n)).2;have o:=(Ga 9 a.val.f.toNat).2;have B:=(Ga 9 a.val.s.size).2;simp only[Kg,Bq,uv,DO];omega
theorem Wt:∀{l:List Attr},(∀a∈l,a.val.s.size<=64)->(GD l).length<=114*l.length:=by
 intro l;induction l with
 |nil=>intro _;simp[GD]
 |cons a l i=>
  intro h;have h1:=@VV a;have o:=h a kf;have B:=i fun x j=>h x (fX _ j);simp only[GD,kp,Bq,Vn] at *;omega
theorem FX.low{l:List Int}(h:FX B w v l)(hb:i<=B):FX i w v l:=h.base fun g j=>by have:=(AE.BA h g j).1;omega
theorem Pg{l:List Attr}(h:Cf S w v l)(hI:∀a∈l,Mk a)(hs:∀a∈l,a.val.s.size<=64)(hl:l.length<=64) :
  AB prog 143 [v] (fun v' w'=>v'=.string (Ei l)/\Grow w w') w:=by
 apply aM;obtain⟨a,c,rfl,_⟩:=h.shape;rw[AP];refine Ab (fun vs W=>∃(i:Nat) (lv:Value),i<=l.length/\vs=[lv,.int .i64 i]/\FX w.heap.size W lv (GD (l.take i))/\Grow w W) (fun vs _=>l.length-Ds vs 1)
  ⟨0,_,Nn _,rfl,AE.nil,Mod.refl _ _⟩ ?_
 rintro vs W ⟨i,lv,hi,rfl,U,g⟩ _;simp only[GJ];refine H6 (fun a7=>?_) fun a8=>?_
 .have o:i<l.length:=by omega
  have V:=hI l[i] (gC o);have ak:=hs l[i] (gC o);have a6:(GD (l.take i)).length<=114*i:=by
   have:=@Wt (l.take i) fun a ha=>hs a (kO ha);rw[Mp] at this;omega
  have X:GD (l.take (i+1))=GD (l.take i)++Kg l[i]:=by
   have e:l.take (i+1)=l.take i++[l[i]]:=by rw[No,By o];rfl
   rw[e];unfold GD;rw[lU];simp only[kp,nS,kG]
  obtain⟨p,r,rfl,_,hr,hc,rfl⟩:=(h.grow g (by decide) fun _ _ h=>h).get o;generalize l[i]=x at *;obtain⟨i1,i2,i3,i4,i5⟩:=V;refine AU o (Aj hr (fun j u hu=>by rw[Addr.add_add];exact hc j u hu) ?_);refine BS (vs:=x.cells) rfl rfl (DD.one (w:=w) (x:=x) rfl) fun b5 W1 al an g5 B _=>?_;have q0:=B 0 _ rfl;have q1:=B 1 _ rfl;have q2:=B 2 _ rfl;have q3:=B 3 _ rfl;have q4:=B 4 _ rfl;have I:=g.trans g5;have o1:FX w.heap.size W1 lv (GD (l.take i)):=AE.mod U g5 (fun _ _ h=>h) fun _ _ _ h=>h;rw[AG];refine AK q0 ?_;refine AA (R9 o1.sl (by omega) i1.1 i1.2) ?_;rintro v2 W2 ⟨o2,g2⟩;have E:∀n,(uv n).length<=10:=fun n=>(Ga 9 n).2;have u1:=E (Hd x.key);have u2:=E x.val.kind.toNat;have u3:=E (Hd x.val.n);have u4:=E x.val.f.toNat;rw[AG,AG,Addr.add_add];refine AK (g2.cell q1 fun h=>h) ?_;refine Ag (FF (k:=.u64) W2 (by kernel_rfl) (by kernel_rfl)) ?_;rw[Gq ⟨i2.1,by omega⟩];have ek:(Value.int .u64 x.val.kind)=.int .u64 ((x.val.kind.toNat:Nat):Int):=by rw[Int.toNat_of_nonneg i2.1]
  rw[ek];refine AA (J0 o2.sl (by simp only[Bq];omega) (by omega)) ?_;rintro v3 W3 ⟨o3,g3⟩;have J:=g2.trans g3;rw[AG,AG,Addr.add_add];refine AK (J.cell q2 fun h=>h) ?_;refine AA (R9 o3.sl (by simp only[Bq];omega) i3.1 i3.2) ?_;rintro v4 W4 ⟨o4,g4⟩;have O:=J.trans g4;rw[AG,AG,Addr.add_add];refine AK (O.cell q3 fun h=>h) ?_;have ef:(Value.int .u64 x.val.f)=.int .u64 ((x.val.f.toNat:Nat):Int):=by rw[Int.toNat_of_nonneg i4.1]
  rw[ef];refine AA (J0 o4.sl (by simp only[Bq];omega) (by omega)) ?_;rintro v5 W5 ⟨o5,Y⟩;have Q:=O.trans Y;rw[AG,AG,Addr.add_add];refine AK (Q.cell q4 fun h=>h) ?_;refine O9 (by omega) fun v6 W6 g6 Z=>?_;have T:=Q.trans g6;have o6:FX W4.heap.size W6 v5 _:=AE.mod (R':=JW) o5 g6 (fun _ _ h=>h) fun _ _ _ h=>h;refine AA (US o6.sl Z (by simp only[Bq,DO];omega)) ?_;rintro v7 W7 ⟨o7,g7⟩;have a1:=T.trans g7;rw[AR,AO (by omega)];refine⟨⟨i+1,v7,o,rfl,?_,I.trans a1⟩,by rw[BL,BL];omega⟩;rw[X];have e7:GD (l.take i)++Kg x=GD (l.take i)++uv (Hd x.key)++uv x.val.kind.toNat++uv (Hd x.val.n)++uv x.val.f.toNat++(uv (Bu x.val.s).length++Bu x.val.s):=by
   rw[DO];simp only[Kg,PF]
  rw[e7];exact o7.low (k8 I.size T.size)
 .have:i=l.length:=by omega
  subst this;rw[Nr] at U;exact Ag (SM U.sl (KU hI)) ⟨rfl,g⟩
theorem Sk{D S:Nat->Prop}{l:List Attr}(hS:De D w sv ks)(h:Cf S w v l)(hT:E2 w)(hI:∀a∈l,0<=a.val.f) :
  AB prog 142 [sv,v] (fun v' w'=>v'=.int .i64 (Bl ks l)/\Grow w w') w:=by
 classical
 apply Yy;obtain⟨a,c,rfl,hm⟩:=h.shape;simp only[maxLen] at hm;have bad:∀w',Grow w w'->KH l->Value.int .i64 3=.int .i64 (Bl ks l)/\Grow w w':=fun w' g hb=>⟨by rw[Bl,Io hb],g⟩;rw[AP,BR];refine AF (fun h6=>bad _ (Mod.refl _ _) (.inr (.inl (by omega)))) fun h6=>?_;rw[AP];refine Ab (fun vs W=>∃i:Nat,i<=l.length/\vs=[.int .i64 (if G7 ks (l.take i) then 4 else 0),.int .i64 i]/\Grow w W/\(∀a∈l.take i,DV a.val)/\Mx Attr.key l i) (fun vs _=>l.length-Ds vs 1)
  ⟨0,Nn _,by rw[C3 (by rintro⟨a,ha,_⟩;simp at ha)];rfl,Mod.refl _ _,by simp,fun j hj=>by omega⟩ ?_
 rintro vs W ⟨i,hi,rfl,g,hv,T⟩ _;simp only[GJ];refine H6 (fun b5=>?_) fun a7=>?_
 .have o:i<l.length:=by omega
  obtain⟨p,r,rfl,_,hr,hc,rfl⟩:=(h.grow g (by decide) fun _ _ h=>h).get o;refine AU o (Aj hr (fun j u hu=>by rw[Addr.add_add];exact hc j u hu) ?_);refine BS (vs:=l[i].cells) rfl rfl (DD.one (w:=w) (x:=l[i]) rfl) fun b7 V b6 b8 g7 J _=>?_;have I:=g.trans g7;have Z:=hI l[i] (gC o);have e1:l.take (i+1)=l.take i++[l[i]]:=by rw[No,By o];rfl
  refine AT (fun vs W2=>Grow V W2/\((vs=[.bool true]/\KH l)\/(vs=[.bool false]/\DV l[i].val/\Mx Attr.key l (i+1)))) ?_ ?_
  .rintro vs W2 ⟨X,a8⟩ _;rcases a8 with⟨rfl,hb⟩|⟨rfl,E,O⟩
   .exact As (bad _ (I.trans X) hb)
   .refine AV ?_;rw[AG];refine AK (X.cell (J 0 _ rfl) fun h=>h) ?_;rw[AG];refine Aj (vs:=l[i].val.cells) rfl (fun j u hu=>X.cell (by rw[Addr.add_add];exact J (1+j) u (by rw[pR];exact hu)) fun h=>h) ?_;refine AA (PT (hS.grow (I.trans X)) (hT.grow (I.trans X)) Z) ?_;rintro _ W3 ⟨rfl,g3⟩;have a1:=(I.trans X).trans g3;rw[Ar];have a6:∀a∈l.take (i+1),DV a.val:=fun a ha=>by
     rw[e1] at ha;rcases DN.1 ha with ha|ha
     .exact hv a ha
     .simp at ha;subst ha;exact E
    by_cases B:Hh ks l[i].key l[i].val
    .rw[kj B];refine AV ?_;rw[AR,AO (by omega)];refine⟨⟨i+1,o,?_,a1,a6,O⟩,by rw[BL,BL];omega⟩;have e:G7 ks (l.take (i+1))↔G7 ks (l.take i):=by
      unfold G7;rw[e1];constructor
      .rintro⟨a,ha,hn⟩;rcases DN.1 ha with ha|ha
       .exact⟨a,ha,hn⟩
       .simp at ha;subst ha;exact absurd B hn
      .rintro⟨a,ha,hn⟩;exact⟨a,i7 _ ha,hn⟩
     simp only[e]
    .rw[kX B];refine As ?_;rw[AR,AO (by omega)];refine⟨⟨i+1,o,?_,a1,a6,O⟩,by rw[BL,BL];omega⟩;rw[Io (show G7 ks (l.take (i+1)) from⟨l[i],by rw[e1];exact kB _ (P9.2 rfl),B⟩)]
  .refine Ai (fun _ _=>False) ?_;have Y:Grow V V.drew:=Mod.drew _ _;have U:Mx Attr.key l (i+1)->AM 1 (.pointer (some (⟨b7,0,none⟩:Addr))) fun ak=>EM (Ip [16] [[],[0],[0,1],[0,1,2],[0,1,2],[0,1,2,4],[0,1,2,3,4,5],[0,1,2,3,4,5,6],[0,1,2,3,4,5,6,7],[0,1,2],[0,1,2,9],[0,1,2,3,4,5,6,7,8,9,10],[0,1,2,3,4,5,6,7,8,9,10,11],[0,1,2,3,4,5,6,7,8,9,10,11,12],[0,1,2,3,4,5,6,7,8,9,10,11,12,13],[0,1,2,3,4,5,6,7,8,9,10,11,12,13,14],[0,1,2,3,4,5,6,7,8,9,10,11,12,13,14,15],[0,1,2,3,4,5,6,7,8,9,10,11,12,13,14,15,16],[0,1,2,3,4,5,6,7,8,9,10,11,12,13,14,15,16,17],[0,1,2,3,4,5,6,7,8,9,10,11,12,13,14,15,16,17,18]] (fun _ _=>False) V.drew 15) 4 ak fun al=>
     AB prog 208 [al] (fun an w9=>Mod (fun _=>False) V.drew w9/\CE an fun av=>(fun vs W2=>Grow V W2/\((vs=[.bool true]/\KH l)\/(vs=[.bool false]/\DV l[i].val/\Mx Attr.key l (i+1)))) [av] w9) V.drew:=by
    intro O;rw[AG];refine CU (vs:=l[i].val.cells) rfl (fun j u hu=>⟨Y.cell (by rw[Addr.add_add];exact J (1+j) u (by rw[pR];exact hu)) fun h=>h,fun _ _ h=>h⟩) ?_;refine AA (ON (hT.grow (I.trans Y)) Z) ?_;rintro _ W3 ⟨rfl,g3⟩;refine⟨g3,?_⟩;rw[Ar];refine⟨Y.trans g3,?_⟩;by_cases E:DV l[i].val
    .exact .inr ⟨by rw[kj E];rfl,E,O⟩
    .exact .inl ⟨by rw[kX E];rfl,.inr (.inr ⟨l[i],gC o,E⟩)⟩
   rw[BR];refine AF (fun ax=>?_) fun ax=>U (fun j hj=>by omega);rw[Av,wrap64 (by omega) (by omega),show((i:Int)-1)=((i-1:Nat):Int) by omega];have Q:i-1<l.length:=by omega
   obtain⟨_,r2,e2,_,b9,ay,rfl⟩:=(h.grow g (by decide) fun _ _ h=>h).get Q;cases e2;refine AU Q ?_;rw[AG,Addr.add_add];refine AY ⟨(g7.trans Y).cell (ay 0 _ rfl) fun h=>h,fun _ _ h=>h⟩ ?_;rw[AG];refine AY ⟨Y.cell (J 0 _ rfl) fun h=>h,fun _ _ h=>h⟩ ?_;rw[DX];refine AF (fun a7=>⟨Y,.inl ⟨rfl,.inl fun hr=>?_⟩⟩) fun b4=>U ?_
   .have:=hr i (by omega) o _ _ (By Q) (By o);omega
   .intro j b0 ba x y hx hy;by_cases b3:j<i
    .exact T j b0 b3 x y hx hy
    .have:j=i:=by omega
     subst this;rw[By Q] at hx;rw[By o] at hy;cases hx;cases hy;omega
 .have:i=l.length:=by omega
  subst this;rw[Nr] at hv;refine⟨?_,g⟩;have ok:¬KH l:=by
   rintro(h|h|⟨a,ha,h⟩)
   .exact h T
   .omega
   .exact h (hv a ha)
  rw[Nr,Bl,C3 ok]
theorem Rh(s:ByteArray):MapKept.IsKey .string (.string s):=trivial
def Tab.ask{α:Type}(t:Tab α)(z:α)(id:Int):Option (Ent α):=if id=0 then some ⟨z,t.empty⟩ else if id<0 then none else match t.places[(id-1).toNat]? with
 |some p=>if p.held=0 then none else some p
 |none=>none
structure Tab.Small {α:Type} (t:Tab α) (n:Nat):Prop where
 pl:t.places.length<=n
 em:t.empty<=n
 he:∀p∈t.places,p.held<=n
theorem Tab.Js{t:Tab α}{z:α}{id:Int}{p:Ent α}(h:t.ask z id=some p)(h0:id≠0):∃i:Nat,id=(i:Int)+1/\t.places[i]?=some p/\0<p.held:=by
 unfold Tab.ask at h;rw[C3 h0] at h;split at h
 .cases h
 .cases hp:t.places[(id-1).toNat]? with
  |none=>rw[hp] at h;cases h
  |some q=>
   rw[hp] at h;simp only at h;split at h
   .cases h
   .cases h;exact⟨(id-1).toNat,by omega,hp,by omega⟩
theorem Tab.VN{t:Tab α}{z:α}{p:Ent α}(h:t.places[i]?=some p)(h0:0<p.held):t.ask z ((i:Int)+1)=some p:=by
 unfold Tab.ask;rw[C3 (by omega),C3 (by omega),show((i:Int)+1-1).toNat=i by omega,h];simp only;rw[C3 (by omega)]
abbrev RZ:Nat:=181
def Gv(C:Nat->Prop):World->List Value->Ent (List Attr)->Prop:=fun w r x=>∃sv,r=[sv,.int .i64 x.held]/\Cf C w sv x.set
theorem Gv.one{r:List Value}{x:Ent (List Attr)}(h:Gv C w r x):∀u∈r,u.oneCell'=true:=by
 obtain⟨sv,rfl,i⟩:=h;obtain⟨a,c,rfl,_⟩:=i.shape;intro u hu;simp at hu;rcases hu with rfl|rfl<;>rfl
theorem Gv.mod{r:List Value}{x:Ent (List Attr)}(h:Gv C w r x)(hm:Mod M w w')(hC:∀b,b<w.heap.size->C b->¬M b):Gv C w' r x:=by
 obtain⟨sv,e,i⟩:=h;exact⟨sv,e,i.mod hm hC (by decide) fun _ _ h=>h⟩
theorem Gv.sub{C i:Nat->Prop}{r:List Value}{x:Ent (List Attr)}(h:Gv C w r x)(hC:∀b,b<w.heap.size->C b->i b):Gv i w r x:=by
 obtain⟨sv,e,j⟩:=h;exact⟨sv,e,j.sub hC (by decide) fun _ _ h=>h⟩
abbrev GY(ks:List DKey):List Attr->Prop:=QW fun s=>Bl ks s=0
structure SKs where
 sv:Value
 ks:List DKey
 S:Nat->Prop
structure Vp (F C:Nat->Prop) (W:World) (b:Nat) (ks:SKs) (t:Tab (List Attr)) (pl fr:Value) (bm:Nat):Prop where
 JS:De ks.S W ks.sv ks.ks
 GR:AE 0 RZ 2 (Gv C) W pl t.places
 KE:AE 0 3 1 MH W fr (t.free.map fun i:Nat=>(i:Int))
 map:∃f,IG .string W bm f/\Eb t f
 inv:t.Inv (GY ks.ks)
 fb:F b/\¬C b
 fm:F bm/\¬C bm/\bm≠b
 pF:∀g,pl.ownBlock=some g->F g/\¬C g/\g≠b/\g≠bm
 fF:∀g,fr.ownBlock=some g->F g/\¬C g/\g≠b/\g≠bm/\pl.ownBlock≠some g
 cf:∀x,C x->F x/\x<W.heap.size
 sf:∀x,ks.S x->¬F x/\x<W.heap.size
theorem Vp.mod{b:Nat}{ks:SKs}{t:Tab (List Attr)}{pl fr:Value}(h:Vp F C W b ks t pl fr c)(hm:Mod M W W')(j:∀x,F x\/ks.S x->x≠b->¬M x):Vp F C W' b ks t pl fr c:=by
 have hC:∀ x,x < W.heap.size->C x->¬ M x:=fun x _ i=>j x (.inl (h.cf x i).1) fun e=>h.fb.2 (e ▸ i);obtain ⟨f,B,hi⟩:=h.map;exact ⟨h.JS.mod hm fun x _ i=>j x (.inr i) fun e=>(h.sf x i).1 (e ▸ h.fb.1),AE.mod h.GR hm (fun g o=>j g (.inl (h.pF g o).1) (h.pF g o).2.2.1) fun r x _ i=>i.mod hm hC,AE.mod h.KE hm (fun g o=>j g (.inl (h.fF g o).1) (h.fF g o).2.2.1) fun _ _ _ h=>h,⟨f,B.mod hm (j c (.inl h.fm.1) h.fm.2.2),hi⟩,h.inv,h.fb,h.fm,h.pF,h.fF,
  fun x i=>⟨(h.cf x i).1,WL (h.cf x i).2 hm.size⟩,fun x i=>⟨(h.sf x i).1,WL (h.sf x i).2 hm.size⟩⟩
abbrev UI(sv pl fr:Value)(bm:Nat)(em:Nat):List Value:=[sv,pl,fr,.map (some bm),.int .i64 em]
structure L4 (F C:Nat->Prop) (W:World) (b:Nat) (ks:SKs) (t:Tab (List Attr)) (pl fr:Value) (bm:Nat):Prop where
 cells:∀j v,(UI ks.sv pl fr bm t.empty)[j]?=some v->W.cell? ⟨b,j,none⟩=some v
 live:∀j,j<5->Live W ⟨b,j,none⟩
 core:Vp F C W b ks t pl fr bm
def E8(F:Nat->Prop)(W:World)(b:Nat)(ks:SKs)(t:Tab (List Attr)):Prop:=∃C pl fr bm,L4 F C W b ks t pl fr bm
theorem L4.mod{b:Nat}{ks:SKs}{t:Tab (List Attr)}{pl fr:Value}(h:L4 F C W b ks t pl fr c)(hm:Mod M W W')(i:∀x,F x\/ks.S x->¬M x):L4 F C W' b ks t pl fr c:=
 ⟨fun j v o=>hm.cell (h.cells j v o) (i b (.inl h.core.fb.1)),fun j B=>(h.live j B).mod hm (i b (.inl h.core.fb.1)),h.core.mod hm fun x E _=>i x E⟩
theorem E8.mod{b:Nat}{ks:SKs}{t:Tab (List Attr)}(h:E8 F W b ks t)(hm:Mod M W W')(i:∀x,F x\/ks.S x->¬M x):E8 F W' b ks t:=by
 obtain⟨C,pl,fr,bm,h⟩:=h;exact⟨C,pl,fr,bm,h.mod hm i⟩
theorem E8.grow{b:Nat}{ks:SKs}{t:Tab (List Attr)}(h:E8 F W b ks t)(g:Grow W W'):E8 F W' b ks t:=h.mod g fun _ _ h=>h
def Ja(F:Nat->Prop)(w w':World)(b:Nat)(ks:SKs)(t:Tab (List Attr)):Prop:=∃F',(∀x,F' x->F x\/w.heap.size<=x/\x<w'.heap.size)/\E8 F' w' b ks t/\Mod F w w'
theorem Ja.same{b:Nat}{ks:SKs}{t:Tab (List Attr)}(h:E8 F w' b ks t)(hm:Mod F w w'):Ja F w w' b ks t:=⟨F,fun _ h=>.inl h,h,hm⟩
theorem E8.lt{b:Nat}{ks:SKs}{t:Tab (List Attr)}(h:E8 F W b ks t):b<W.heap.size/\F b:=by
 obtain⟨C,pl,fr,bm,h⟩:=h;exact⟨kT W _ (h.cells 4 _ rfl),h.core.fb.1⟩
theorem Mq{m:Option Nat}(w:World):(BX .neq 143 xo yo (.map m) (.map none)).run prog w=.ok (.bool (!m.isNone)) w:=by
 have hu:=underlying143;have e:(binOp .neq 143 (.map m) (.map none)).run prog w=.ok (.bool (!m.isNone)) w:=run_neq_map_nil w _ _ _ _ hu;simp[BX,eqGuard,e]
theorem MX{b:Nat}{ks:SKs}{t:Tab (List Attr)}(h:E8 F W b ks t):AB prog 124 [.pointer (some ⟨b,0,none⟩)] (fun v' w'=>v'=.bool true/\w'=W) W:=by
 obtain⟨C,pl,fr,bm,h⟩:=h;apply Y3;refine DS (As (AI ?_));rw[AG,AH];exact AK (h.cells 3 _ rfl) (Ag (Mq W) ⟨rfl,rfl⟩)
theorem Zx{ks:SKs}(h:De ks.S w ks.sv ks.ks)(T:∀x,ks.S x->x<w.heap.size) :
  AB prog 39 [ks.sv] (fun v' w'=>Grow w w'/\∃b,w.heap.size<=b/\v'=.pointer (some ⟨b,0,none⟩)/\E8 (fun x=>w.heap.size<=x/\x<w'.heap.size) w' b ks (Tab.z _)) w:=by
 apply dm;refine Ag (v:=.map (some w.heap.size)) (w':=w.alloc (.map #[] 0)) rfl ?_;have U:Grow w (w.alloc (.map #[] 0)):=Mod.alloc _ _ _;have o:IG .string (w.alloc (.map #[] 0)) w.heap.size (fun _=>none):=IG.make .string w;have I:(w.alloc (.map #[] 0)).heap.size=w.heap.size+1:=by simp
 generalize w.alloc (.map #[] 0)=w1 at U o I ⊢;obtain⟨sv,ks,S⟩:=ks;obtain⟨V,_,_,_,rfl,_⟩:=id h;refine⟨(UI (.pointer (some ⟨V,0,none⟩)) (.slice none 0 0) (.slice none 0 0) w.heap.size 0).toArray,by kernel_rfl,?_⟩;refine Dq (vs:=UI (.pointer (some ⟨V,0,none⟩)) (.slice none 0 0) (.slice none 0 0) w.heap.size 0) fun b w2 hb Y X J O=>?_;have i:=U.trans X;have B:=h.grow i;have Z:=i.size;refine⟨i,b,by omega,rfl,fun _=>False,.slice none 0 0,.slice none 0 0,w.heap.size,?_⟩;refine⟨fun j v hv=>by have:=J j v hv;rwa [AH] at this,fun j hj=>by have:=O j hj;rwa [AH] at this,?_⟩;refine⟨B,AE.nil,AE.nil,⟨_,o.mod X fun h=>h,Eb.z⟩,Tab.Inv.z _,⟨⟨by omega,by omega⟩,fun h=>h⟩,⟨⟨by omega,by omega⟩,fun h=>h,by omega⟩,(fun g Q=>nomatch Q),(fun g Q=>nomatch Q),(fun x E=>E.elim),fun x E=>⟨fun e=>by have:=T x E;omega,by have:=T x E;omega⟩⟩
theorem ZB{b:Nat}{ks:SKs}{t:Tab (List Attr)}(h:E8 F W b ks t)(o:t.places.length<=1099511627776) :
  AB prog 67 [.pointer (some ⟨b,0,none⟩)] (fun v' w'=>v'=.int .i64 (1+t.places.length-t.free.length)/\Grow W w') W:=by
 apply cR;refine AA (MX h) ?_;rintro _ _ ⟨rfl,rfl⟩;rename World=>W
 obtain⟨C,pl,fr,bm,h⟩:=h;have B:=Tab.O3 h.core.inv;rw[Ar];refine AV (Ce (fun W'=>Grow W W') (Mod.drew _ _) ?_);refine AI ?_;rw[AG,AH];refine Au (fun w2 g=>g.cell (h.cells 1 _ rfl) fun h=>h) ?_;obtain⟨a,c,i,_⟩:=h.core.GR.sl.shape;obtain⟨E,I,j,_⟩:=h.core.KE.sl.shape;rw[i,AP,AR];refine AI ?_;rw[AG,AH];refine Au (fun w2 g=>g.cell (h.cells 2 _ rfl) fun h=>h) ?_;rw[j,AP,Av,Es];intro W' g';refine⟨?_,g'⟩;rw[wrap64 (x:=1+(t.places.length:Int)) (by omega) (by omega),wrap64 (by omega) (by omega)]
theorem MU{b:Nat}{ks:SKs}{t:Tab (List Attr)}{id:Int}(h:E8 F W b ks t)(hs:t.places.length<=1099511627776)(h0:-9223372036854775808<=id)(h1:id<=9223372036854775807) :
  AB prog 106 [.pointer (some ⟨b,0,none⟩),.int .i64 id] (fun v' w'=>Grow W w'/\match t.ask [] id with
   |some p=>∃sv,v'=.tuple #[.agg #[sv,.int .i64 p.held],.int .i64 0]/\sv.oneCell'=true/\Cf F w' sv p.set
   | none=>v'=.tuple #[.agg #[.slice none 0 0,.int .i64 0],.int .i64 5]) W:=by
 apply aY;refine Dc fun b4 Y ax ay V _ Z=>?_;have a1:=h.grow V;obtain⟨C,pl,fr,bm,X⟩:=h;have E:=X.mod V fun _ _ h=>h;obtain⟨pa,pc,I,_⟩:=X.core.GR.sl.shape;have J:=E.core.GR.sl;rw[I] at J;have box:∀(vs:List Value) {W':World} {K:Cont},vs.length=2->(∀v∈vs,v.oneCell'=true)->Grow Y W'->(∀o,Grow W o->K (.agg vs.toArray) o)->Ac 2 (.pointer (some ⟨b4,0,none⟩)) (.agg vs.toArray) (fun w=>Af 2 (.pointer (some ⟨b4,0,none⟩)) K w) W':=by
  intro vs W' K hn ho g' hK;refine CF hn ho (fun j hj=>(Z j hj).mod g' fun h=>h) fun o m hc _=>?_;exact Aj hn hc (hK _ ((V.trans g').next m fun x hx e=>by omega))
 have no:t.ask [] id=none->∀{o:World},Grow W o->Grow W o/\match t.ask [] id with
   |some p=>∃sv,Value.tuple #[.agg #[.slice none 0 0,.int .i64 0],.int .i64 5]=.tuple #[.agg #[sv,.int .i64 p.held],.int .i64 0]/\sv.oneCell'=true/\Cf F o sv p.set
   |none=>Value.tuple #[.agg #[.slice none 0 0,.int .i64 0],.int .i64 5]=.tuple #[.agg #[.slice none 0 0,.int .i64 0],.int .i64 5]:=fun e o g=>⟨g,by rw[e]⟩
 refine AT (fun _ W'=>Grow Y W'/\∃(i:Nat) (p:Ent (List Attr)),id=(i:Int)+1/\t.places[i]?=some p/\0<p.held) ?_ ?_
 .rintro _ W2 ⟨g2,i,p,rfl,hp,a6⟩ _;have hi:=(Bp.1 hp).1;have Q:=(Bp.1 hp).2;refine AI ?_;refine Bt (g2.cell (E.cells 1 _ rfl) fun h=>h) ?_;rw[Av,wrap64 (by omega) (by omega),show((i:Int)+1-1)=(i:Int) by omega,I];obtain⟨q,r,rfl,_,hr,hc,O⟩:=J.get hi;obtain⟨si,rfl,S⟩:=O;refine AU hi (Aj hr (fun j u hu=>by rw[Addr.add_add];exact g2.cell (hc j u hu) fun h=>h) ?_);obtain⟨sa,sc,rfl,_⟩:=S.shape;refine box [_,_] rfl (fun u hu=>by simp at hu;rcases hu with rfl|rfl<;>rfl) g2 fun o B=>?_;rw[Tab.VN hp a6];refine⟨B,_,by rw[Q],rfl,?_⟩;have a7:Cf C W (.slice sa t.places[i].set.length sc) t.places[i].set:=by
   obtain⟨q',r',e',_,b0,a8,s',e2,ak⟩:=(I▸X.core.GR.sl).get hi;cases e';have c0:=V.cell (a8 0 s' (by rw[e2];rfl)) fun h=>h;have c1:=hc 0 _ rfl;rw[c0] at c1;cases c1;exact ak
  rw[<-Q];exact(a7.sub (fun x _ hx=>(X.core.cf x hx).1) (by decide) fun _ _ h=>h).grow B (by decide) fun _ _ h=>h
 .refine AA (MX a1) ?_;rintro _ _ ⟨rfl,rfl⟩;rename World=>Y
  rw[Ar];refine AV ?_;rw[Al];refine AF (fun T=>?_) fun T=>?_
  .refine AI ?_;refine Bt (E.cells 4 _ rfl) ?_;refine⟨#[.slice none 0 0,.int .i64 t.empty],by kernel_rfl,?_⟩;refine box [.slice none 0 0,.int .i64 t.empty] rfl (fun u hu=>by simp at hu;rcases hu with rfl|rfl<;>rfl) (Mod.refl _ _) fun o B=>?_;have ea:t.ask [] id=some ⟨[],t.empty⟩:=by unfold Tab.ask;rw[Io T]
   rw[ea];exact⟨B,_,rfl,rfl,BB.nil⟩
  refine H6 (fun al=>?_) fun U=>?_
  .refine⟨#[.slice none 0 0,.int .i64 0],by kernel_rfl,?_⟩;exact box [.slice none 0 0,.int .i64 0] rfl (fun u hu=>by simp at hu;rcases hu with rfl|rfl<;>rfl) (Mod.refl _ _) fun o B=>no (by unfold Tab.ask;rw[C3 T,Io al]) B
  have an:0<=id:=by omega
  refine AI ?_;refine Bt (E.cells 1 _ rfl) ?_;rw[I,AP,BR];refine AF (fun av=>?_) fun b3=>?_
  .refine⟨#[.slice none 0 0,.int .i64 0],by kernel_rfl,?_⟩;refine box [.slice none 0 0,.int .i64 0] rfl (fun u hu=>by simp at hu;rcases hu with rfl|rfl<;>rfl) (Mod.refl _ _) fun o B=>no ?_ B;unfold Tab.ask;rw[C3 T,C3 U,kN (by omega)]
  obtain⟨i,rfl⟩:∃i:Nat,id=(i:Int)+1:=⟨(id-1).toNat,by omega⟩;have hi:i<t.places.length:=by omega
  refine AI ?_;refine Bt (E.cells 1 _ rfl) ?_;rw[Av,wrap64 (by omega) (by omega),show((i:Int)+1-1)=(i:Int) by omega,I];obtain⟨q,r,rfl,_,hr,hc,O⟩:=J.get hi;obtain⟨si,rfl,S⟩:=O;refine AU hi ?_;rw[AG,Addr.add_add];refine AK (hc 1 _ rfl) ?_;rw[Al];refine AF (fun h0=>?_) fun h0=>⟨Mod.refl _ _,i,t.places[i],rfl,By hi,by omega⟩;refine⟨#[.slice none 0 0,.int .i64 0],by kernel_rfl,?_⟩;refine box [.slice none 0 0,.int .i64 0] rfl (fun u hu=>by simp at hu;rcases hu with rfl|rfl<;>rfl) (Mod.refl _ _) fun o B=>no ?_ B;unfold Tab.ask;rw[C3 T,C3 U,show((i:Int)+1-1).toNat=i by omega,By hi];simp only;rw[Io (by omega)]
end Go.Proofs.YtmdhibffnkhcnaaGreatDoor
