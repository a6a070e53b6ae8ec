/- parts of the proof, written short by a program of ours -/
import Derived.Test.YtmdhibffnkhcnaaGreatDoorZTextLinesUpto7
import Derived.Lib.Zigzag
import Derived.Laws.Cover3
set_option linter.unusedSimpArgs false
set_option linter.unusedVariables false
namespace Go.Proofs.YtmdhibffnkhcnaaGreatDoor
open Go Go.K Proofs.Tryz
variable {v0 v1 v2 v3 v4 v5 v6 v7 v8 v9:Value}{K:Cont}{w:World}
theorem cF(h: AB prog 8 [v0] (fun t25 w1=>
 AO 0 t25 fun ca=>
 AO 1 t25 fun cc=>
 Au (fun _vs w2=>∀_:Env,
 AB prog 11 [ca,v1] (fun V w3=>
 AO 0 V fun o=>
 AO 1 V fun cd=>
 Dm .i64 cd (.int .i64 0) fun t45=>
 AD t45
 (AB prog 10 [] (fun t46 w4=>
 K t46 w4) w3)
 (Al v2 fun ch=>
 Ay [(.int .i64 0)] (fun B S w5=>∀_:Env,
 Bc .i64 (nth B 0) ch fun t50=>
 AD t50
 (Be 3 v2 (nth B 0) fun t55=>
 AM 0 t55 fun cn=>
 AK cn (fun cv w6=>
 AB prog 12 [o,cv] (fun _t58 w7=>
 AX .i64 (nth B 0) (.int .i64 1) fun cx=>
 S [cx] w7) w6) w5)
 (AB prog 13 [o] (fun dk w8=>
 Ay [(.int .i64 0),(.int .i64 0)] (fun i E w9=>∀_:Env,
 Bc .i64 (nth i 1) dk fun du=>
 AD du
 (AB prog 14 [o,(nth i 1)] (fun X dv=>
 AO 0 X fun T=>
 AO 1 X fun t70=>
 AX .i64 (nth i 1) (.int .i64 1) fun dw=>
 AB prog 14 [o,dw] (fun Y dx=>
 AO 0 Y fun t76=>
 AO 1 Y fun t77=>
 AB prog 15 [o,T,t76] (fun Z x=>
 AO 0 Z fun y=>
 AO 1 Z fun dy=>
 Au (fun _vs_3 dz=>∀_:Env,
 Al y fun a1=>
 Ay [(.int .i64 0)] (fun j I a6=>∀_:Env,
 Bc .i64 (nth j 0) a1 fun a7=>
 AD a7
 (Au (fun _vs_5 dT=>∀_:Env,
 AX .i64 (nth j 0) (.int .i64 1) fun a8=>
 I [a8] dT) (fun ak=>
 AX .i64 T (nth j 0) fun al=>
 AB prog 16 [o,al] (fun Q O=>
 AO 0 Q fun an=>
 AO 1 Q fun av=>
 Dm .i64 av (.int .i64 0) fun ax=>
 AD ax
 (K (.bool false) O)
 (Dm .i64 an (nth i 1) fun ay=>
 AD ay
 (K (.bool false) O)
 (Al y fun b0=>
 BX .i64 b0 (.int .i64 1) fun b1=>
 Bc .i64 (nth j 0) b1 fun b2=>
 AD b2
 (Be 2 y (nth j 0) fun b3=>
 AM 0 b3 fun b4=>
 AK b4 (fun b5 b6=>
 DI .i32 b5 (.int .i32 10) fun b7=>
 AD b7
 (K (.bool false) b6)
 (ak [] b6)) O)
 (ak [] O)))) a6))
 (AX .i64 (nth i 1) (.int .i64 1) fun b8=>
 E [t76,b8] a6)) dz) (fun e1=>
 Dm .i64 t70 (.int .i64 0) fun e2=>
 AD e2
 (K (.bool false) x)
 (Dm .i64 t77 (.int .i64 0) fun e3=>
 AD e3
 (K (.bool false) x)
 (Dm .i64 dy (.int .i64 0) fun e4=>
 AD e4
 (K (.bool false) x)
 (Dm .i64 T (nth i 0) fun e5=>
 AD e5
 (K (.bool false) x)
 (Al y fun b9=>
 DI .i64 b9 (.int .i64 0) fun ba=>
 AD ba
 (K (.bool false) x)
 (Al y fun bc=>
 BX .i64 bc (.int .i64 1) fun bd=>
 Be 2 y bd fun bk=>
 AM 0 bk fun bl=>
 AK bl (fun bp bs=>
 Dm .i32 bp (.int .i32 10) fun bx=>
 AD bx
 (K (.bool false) bs)
 (e1 [] bs)) x))))))) dx) dv) w9)
 (AB prog 17 [o] (fun c4 c6=>
 DI .i64 (nth i 0) c4 fun c7=>
 AD c7
 (AB prog 10 [] (fun c8 e6=>
 K c8 e6) c6)
 (K (.bool false) c6)) w9)) w8) w5)) w3)) w2) (fun J=>
 Dm .i64 cc (.int .i64 0) fun e7=>
 AD e7
 (AB prog 10 [] (fun e8 e9=>
 K e8 e9) w1)
 (AB prog 9 [v0,v1,v2] (fun ea c9=>
 Bt ea fun ec=>
 AD ec
 (AB prog 10 [] (fun U ed=>
 K U ed) c9)
 (J [] c9)) w1))) w):AB prog 3 [v0,v1,v2] K w:=cO (aN (aN (.cut [] [(6,6),(28,37)] (aN (aO aE .nil)) (aN (aO (aN (aO aE .nil)) (aO (aN (.node [49] [(11,11),(49,59)] (aN (aO aE (aO aE .nil))) .nil)) (aN (aO (aN (.node [12,62] [(6,6),(12,22),(62,152)] (aN (aO aE (aO (aN (aN (aN (aN (.cut [] [(6,6),(85,114)] (aN (aO aE .nil)) (aO (aN (.node [117] [(6,6),(20,22),(117,150)] (aN (aO aE (.cut [] [(6,6),(20,22),(119,149)] (aN (aN (aN (aO aE .nil)))) .nil))) .nil)) .nil)))))) .nil))) .nil)) aE)))))))) func3 h (by kernel_rfl)
theorem cP(h: Au (fun _vs S=>∀_:Env,
 Al v2 fun o=>
 Ay [(.int .i64 0)] (fun i j w2=>∀_:Env,
 Bc .i64 (nth i 0) o fun x=>
 AD x
 (Be 3 v2 (nth i 0) fun t22=>
 AM 0 t22 fun y=>
 AK y (fun B T=>
 AB prog 34 [B] (fun t25 w4=>
 EX .i64 t25 (.int .i64 100) fun E=>
 AD E
 (K (.bool false) w4)
 (AX .i64 (nth i 0) (.int .i64 1) fun I=>
 j [I] w4)) T) w2)
 (K (.bool true) w2)) S) (fun J=>
 Al v2 fun t9=>
 EX .i64 t9 (.int .i64 30) fun O=>
 AD O
 (K (.bool false) w)
 (EX .i64 v1 (.int .i64 2000) fun Q=>
 AD Q
 (K (.bool false) w)
 (J [] w)))):AB prog 9 [v0,v1,v2] K w:=cO (aN (.cut [] [(6,6),(8,14)] (aN (aO aE .nil)) (aO (aN (.node [17] [(6,7),(17,27)] (aN (aO aE (aO (aN (aN (aO aE .nil))) .nil))) .nil)) aE))) func9 h (by kernel_rfl)
theorem aG(h: Af [(0,1),(1,1),(2,1),(3,1),(4,1),(5,1)] [(.int .i64 0),(.bool false),(.int .u8 0),(.bool false),(.bool false),(.int .i64 0)] [(0,(.int .i64 1)),(2,(.int .u8 1))] fun t9=>
 Bh 65 6 1 [(.int .i64 0),(.bool false),(.int .u8 0),(.bool false),(.bool false),(.int .i64 0)] [(0,t9)] (fun T w1=>
 AB prog 8 [T] (fun j w2=>
 AO 0 j fun U=>
 AO 1 j fun V=>
 AB prog 11 [U,(.int .i64 100)] (fun o S=>
 AO 0 o fun i=>
 AO 1 o fun X=>
 Au (fun _vs w4=>∀_:Env,
 Af [(0,1),(1,1),(2,1),(3,1)] [(.int .u8 0),(.int .i64 0),(.int .u64 0),(.string (ByteArray.mk #[]))] [(0,(.int .u8 1)),(1,(.int .i64 1))] fun Y=>
 Af [(0,1),(1,4)] [(.int .i64 0),(.int .u8 0),(.int .i64 0),(.int .u64 0),(.string (ByteArray.mk #[]))] [(0,(.int .i64 1)),(1,Y)] fun Z=>
 Bh 79 5 1 [(.int .i64 0),(.int .u8 0),(.int .i64 0),(.int .u64 0),(.string (ByteArray.mk #[]))] [(0,Z)] (fun x w5=>
 Au (fun _vs_1 w6=>∀_:Env,
 Au (fun _vs_2 w7=>∀_:Env,
 AB prog 14 [i,(.int .i64 1)] (fun y w8=>
 AO 0 y fun a1=>
 AO 1 y fun t70=>
 DI .i64 a1 (.int .i64 2) fun a6=>
 AD a6
 (DI .i64 t70 (.int .i64 0) fun a7=>
 AD a7
 (Af [(0,1),(1,1),(2,1),(3,1),(4,1)] [(.int .u8 0),(.int .i64 0),(.slice none 0 0),(.slice none 0 0),(.slice none 0 0)] [(0,(.int .u8 3)),(1,(.int .i64 4))] fun a8=>
 Bh 83 5 1 [(.int .u8 0),(.int .i64 0),(.slice none 0 0),(.slice none 0 0),(.slice none 0 0)] [(0,a8)] (fun ak w9=>
 AB prog 12 [i,ak] (fun al an=>
 DI .i64 al (.int .i64 6) fun av=>
 K av an) w9) w8)
 (K (.bool false) w8))
 (K (.bool false) w8)) w7) (fun ax=>
 Af [(0,1),(1,1),(2,1),(3,1),(4,1)] [(.int .u8 0),(.int .i64 0),(.slice none 0 0),(.slice none 0 0),(.slice none 0 0)] [(0,(.int .u8 1)),(1,(.int .i64 1))] fun t55=>
 Bh 21 1 1 [(.int .i32 0)] [(0,(.int .i32 10))] (fun ay b0=>
 Af [(0,1),(1,1),(2,1),(3,1),(4,1)] [(.int .u8 0),(.int .i64 0),(.slice none 0 0),(.slice none 0 0),(.slice none 0 0)] [(0,(.int .u8 2)),(2,ay)] fun b1=>
 Bh 83 5 2 [(.int .u8 0),(.int .i64 0),(.slice none 0 0),(.slice none 0 0),(.slice none 0 0)] [(0,t55),(1,b1)] (fun b2 b3=>
 AB prog 12 [i,b2] (fun b4 B=>
 Dm .i64 b4 (.int .i64 0) fun b5=>
 AD b5
 (K (.bool false) B)
 (AB prog 13 [i] (fun b6 E=>
 Dm .i64 b6 (.int .i64 2) fun b7=>
 AD b7
 (K (.bool false) E)
 (ax [] E)) B)) b3) b0) w6)) (fun b8=>
 Bh 21 1 2 [(.int .i32 0)] [(0,(.int .i32 97)),(1,(.int .i32 98))] (fun b9 ba=>
 Af [(0,1),(1,1),(2,1),(3,1),(4,1)] [(.int .u8 0),(.int .i64 0),(.slice none 0 0),(.slice none 0 0),(.slice none 0 0)] [(0,(.int .u8 2)),(2,b9),(3,x)] fun bc=>
 Bh 83 5 1 [(.int .u8 0),(.int .i64 0),(.slice none 0 0),(.slice none 0 0),(.slice none 0 0)] [(0,bc)] (fun bd bk=>
 AB prog 12 [i,bd] (fun bl I=>
 Dm .i64 bl (.int .i64 0) fun bp=>
 AD bp
 (K (.bool false) I)
 (AB prog 18 [i] (fun bs bx=>
 Af [(0,1),(1,1)] [(.int .i64 0),(.slice none 0 0)] [(0,(.int .i64 2)),(1,x)] fun c4=>
 Af [(0,1),(1,1)] [(.int .i64 0),(.slice none 0 0)] [(0,(.int .i64 1))] fun c6=>
 Bh 53 2 2 [(.int .i64 0),(.slice none 0 0)] [(0,c4),(1,c6)] (fun t45 c7=>
 AB prog 35 [bs,t45] (fun t46 O=>
 Bt t46 fun c8=>
 AD c8
 (K (.bool false) O)
 (AB prog 27 [i] (fun c9 Q=>
 Dm .i64 c9 (.int .i64 2) fun ca=>
 AD ca
 (K (.bool false) Q)
 (b8 [] Q)) O)) c7) bx) I)) bk) ba) w5)) w4) (fun J=>
 Dm .i64 V (.int .i64 0) fun cc=>
 AD cc
 (K (.bool false) S)
 (Dm .i64 X (.int .i64 0) fun cd=>
 AD cd
 (K (.bool false) S)
 (CX i fun ch=>
 AD (.bool ch)
 (K (.bool false) S)
 (J [] S))))) w2) w1) w):AB prog 10 [] K w:=cO (aN (aN (aN (.cut [] [(0,0),(19,28)] (aN (aO aE .nil)) (aN (.cut [] [(0,0),(32,53)] (aN (aO aE .nil)) (.cut [] [(0,0),(54,65)] (aN (aO aE .nil)) (aN aE)))))))) func10 h (by kernel_rfl)
theorem Yq(h: Au (fun _vs O=>∀_:Env,
 AB prog 36 [] (fun j w2=>
 AB prog 37 [] (fun o Q=>
 AB prog 38 [] (fun x w4=>
 AB prog 39 [v0] (fun y S=>
 Af [(0,1),(1,1),(2,1),(3,1),(4,1),(5,1)] [(.pointer none),(.int .i64 0),(.pointer none),(.pointer none),(.pointer none),(.pointer none)] [(0,v0),(1,v1),(2,j),(3,o),(4,x),(5,y)] fun B=>
 Ba 94 B (fun i T=>
 Bh 21 1 1 [(.int .i32 0)] [(0,(.int .i32 10))] (fun E U=>
 AB prog 40 [i,(.int .i64 0),E,(.slice none 0 0)] (fun _t24 V=>
 K (.tuple #[i,(.int .i64 0)]) V) U) T) S) w4) Q) w2) O) (fun J=>
 Bc .i64 v1 (.int .i64 1) fun X=>
 AD X
 (K (.tuple #[(.pointer none),(.int .i64 2)]) w)
 (LB .i64 v1 (.int .i64 536870912) fun I=>
 AD I
 (K (.tuple #[(.pointer none),(.int .i64 2)]) w)
 (J [] w)))):AB prog 11 [v0,v1] K w:=cO (aN (.cut [] [(4,5),(7,12)] (aN (aO aE .nil)) (aN (aN aE)))) func11 h (by kernel_rfl)
def S12(v0 v1:Value)(K:Cont)(w:World):Prop:=
 AB prog 41 [v0] (fun X V=>
 Bt X fun Y=>
 AD Y
 (K (.int .i64 1) V)
 (Az [6,11] [[],[0],[0,1],[0,1,2],[],[],[5],[],[7],[7,8],[7,8,9],[0,1,2,3,4,5,6,7,8,9,10],[0,1,2,3,4,5,6,7,8,9,10,11]] V.drew (fun M St=>
 AJ v0 fun Z=>
 AM 0 Z fun a1=>
 BD (St 3) a1 fun a6=>
 AB prog 17 [v0] (fun a7 w2=>
 Mod (M 6) V.drew w2/\
 AJ v0 fun t22=>
 AM 1 t22 fun a8=>
 BD (St 10) a8 fun ak=>
 AB prog 42 [a6,v1,a7,ak] (fun t25 w3=>
 Mod (M 11) w2 w3/\
 Dm .i64 t25 (.int .i64 0) fun al=>
 AD al
 (K t25 w3)
 (Al v1 fun an=>
 Ay [(.int .i64 0),(.int .i64 0)] (fun vs o w4=>∀_:Env,
 Bc .i64 (nth vs 1) an fun av=>
 AD av
 (Be 5 v1 (nth vs 1) fun ax=>
 Ac 5 ax (fun ay w5=>
 An 83 [(.int .u8 0),(.int .i64 0),(.slice none 0 0),(.slice none 0 0),(.slice none 0 0)] (fun O w6=>
 AY 5 O ay (fun w7=>
 AM 0 O fun b0=>
 AK b0 (fun Q w8=>
 DI .u8 Q (.int .u8 1) fun b1=>
 AD b1
 (AM 1 O fun b2=>
 AK b2 (fun b3 w9=>
 AX .i64 (nth vs 0) b3 fun b4=>
 AM 4 O fun t45=>
 AK t45 (fun t46 b5=>
 AB prog 43 [v0,(nth vs 0),b4,t46] (fun _t47 b6=>
 AM 1 O fun b7=>
 AK b7 (fun t50 b8=>
 AX .i64 (nth vs 0) t50 fun b9=>
 AX .i64 (nth vs 1) (.int .i64 1) fun ba=>
 o [b9,ba] b8) b6) b5) w9) w8)
 (DI .u8 Q (.int .u8 3) fun t53=>
 AD t53
 (AM 1 O fun bc=>
 AK bc (fun bd bk=>
 AX .i64 (nth vs 0) bd fun bl=>
 AB prog 44 [v0,(nth vs 0),bl] (fun _t60 bp=>
 AX .i64 (nth vs 1) (.int .i64 1) fun B=>
 o [(nth vs 0),B] bp) bk) w8)
 (AX .i64 (nth vs 1) (.int .i64 1) fun E=>
 o [(nth vs 0),E] w8))) w7) w6) w5) w4)
 (Al v1 fun bs=>
 Ay [(.int .i64 0),(.int .i64 0)] (fun i j S=>∀_:Env,
 Bc .i64 (nth i 1) bs fun bx=>
 AD bx
 (Be 5 v1 (nth i 1) fun t66=>
 Ac 5 t66 (fun c4 c6=>
 An 83 [(.int .u8 0),(.int .i64 0),(.slice none 0 0),(.slice none 0 0),(.slice none 0 0)] (fun x c7=>
 AY 5 x c4 (fun c8=>
 Au (fun y c9=>∀_:Env,
 AM 0 x fun ca=>
 AK ca (fun t76 T=>
 DI .u8 t76 (.int .u8 2) fun t77=>
 AD t77
 (AM 2 x fun cc=>
 AK cc (fun cd ch=>
 AM 3 x fun cn=>
 AK cn (fun cv cx=>
 AB prog 40 [v0,(nth y 0),cd,cv] (fun _t84 dk=>
 AM 2 x fun du=>
 AK du (fun dv dw=>
 Al dv fun dx=>
 AX .i64 (nth y 0) dx fun dy=>
 AX .i64 (nth i 1) (.int .i64 1) fun dz=>
 j [dy,dz] dw) dk) cx) ch) T)
 (AX .i64 (nth i 1) (.int .i64 1) fun I=>
 j [(nth y 0),I] T)) c9) (fun J=>
 AM 0 x fun dT=>
 AK dT (fun e1 U=>
 DI .u8 e1 (.int .u8 1) fun t70=>
 AD t70
 (AM 1 x fun e2=>
 AK e2 (fun e3 e4=>
 AX .i64 (nth i 0) e3 fun e5=>
 J [e5] e4) U)
 (J [(nth i 0)] U)) c8)) c7) c6) S)
 (K (.int .i64 0) S)) w4)) w3)) w2) V.drew))) w
theorem aV(h:S12 v0 v1 K w):AB prog 12 [v0,v1] K w:=cO (aN (aO (aN (aO aE .nil)) (aO (aO (.dc [6,11] [[],[0],[0,1],[0,1,2],[],[],[5],[],[7],[7,8],[7,8,9],(aR 11),(aR 12)] []) (aN (aO aE .nil))) (aN (aO (aN (.node [6,31] [(6,6),(8,8),(31,61)] (aN (aO aE (aO (aN (aN (aN (aO aE (aN aE))))) .nil))) .nil)) (aN (aO (aN (.node [6,64] [(6,6),(10,10),(64,90)] (aN (aO aE (aO (aN (.cut [6] [(6,6),(68,74)] (aN aE) (aN (aO aE .nil)))) .nil))) .nil)) aE))))))) func12 h (by kernel_rfl)
theorem Zv(h: AB prog 41 [v0] (fun t4 j=>
 Bt t4 fun t5=>
 AD t5
 (K (.int .i64 0) j)
 (AJ v0 fun o=>
 AM 2 o fun x=>
 AK x (fun t9 w2=>
 AB prog 45 [t9] (fun i y=>
 K i y) w2) j)) w):AB prog 13 [v0] K w:=cO (aN (aO (aN (aO aE .nil)) aE)) func13 h (by kernel_rfl)
theorem Zr(h: AB prog 41 [v0] (fun I E=>
 Bt I fun J=>
 AD J
 (K (.tuple #[(.int .i64 0),(.int .i64 1)]) E)
 (AJ v0 fun j=>
 AM 2 j fun o=>
 AK o (fun x w2=>
 AB prog 46 [x,v1] (fun i O=>
 AO 0 i fun y=>
 AO 1 i fun B=>
 K (.tuple #[y,B]) O) w2) E)) w):AB prog 14 [v0,v1] K w:=cO (aN (aO (aN (aO aE .nil)) aE)) func14 h (by kernel_rfl)
theorem ZW(h: AB prog 41 [v0] (fun I E=>
 Bt I fun J=>
 AD J
 (K (.tuple #[(.int .i64 0),(.int .i64 1)]) E)
 (AJ v0 fun j=>
 AM 2 j fun o=>
 AK o (fun x w2=>
 AB prog 53 [x,v1] (fun i O=>
 AO 0 i fun y=>
 AO 1 i fun B=>
 K (.tuple #[y,B]) O) w2) E)) w):AB prog 16 [v0,v1] K w:=cO (aN (aO (aN (aO aE .nil)) aE)) func16 h (by kernel_rfl)
theorem ZB(h: AB prog 41 [v0] (fun t4 j=>
 Bt t4 fun t5=>
 AD t5
 (K (.int .i64 0) j)
 (AJ v0 fun o=>
 AM 2 o fun x=>
 AK x (fun t9 w2=>
 AB prog 54 [t9] (fun i y=>
 K i y) w2) j)) w):AB prog 17 [v0] K w:=cO (aN (aO (aN (aO aE .nil)) aE)) func17 h (by kernel_rfl)
theorem Y6(h: FH 30 v0 (fun B w1=>
 An 46 [(.slice none 0 0)] (fun i w2=>
 AK B (fun t6 w3=>
 AB prog 41 [t6] (fun t7 w4=>
 Bt t7 fun t8=>
 AD t8
 (BC i (.slice none 0 0) (fun w5=>
 AK i (fun r0 w6=>
 K r0 w6) w5) w4)
 (AK B (fun t9 w7=>
 AJ t9 fun E=>
 AM 3 E fun I=>
 AK I (fun J w8=>
 AB prog 55 [J] (fun O Q=>
 Ht prog DE O 1 (fun args S T=>
 An 108 [(.int .i64 0),(.int .i64 0)] (fun t3 U=>
 AY 2 t3 (nth args 0) (fun V=>
 S (fun post j=>
 Az [6] [[],[0],[0,1],[0,1,2],[],[4],[0,1,2,3,4,5],[0,1,2,3,4,5,6],[0,1,2,3,4,5,6,7],[0,1,2,3,4,5,6,7],[0,1,2,3,4,5,6,7,8],[0,1,2,3,4,5,6,7,8,9,10]] j.drew (fun M X=>
 BD (X 0) B fun Y=>
 AJ Y fun Z=>
 AM 5 Z fun a1=>
 BD (X 3) a1 fun a6=>
 AM 1 t3 fun a7=>
 BD (X 5) a7 fun a8=>
 AB prog 51 [a6,a8] (fun t22 o=>
 Mod (M 6) j.drew o/\
 AO 0 t22 fun ak=>
 AO 1 t22 fun _t24=>
 AK i (fun t25 al=>
 AM 0 t3 fun av=>
 AK av (fun ax ay=>
 Af [(0,1),(1,1)] [(.int .i64 0),(.slice none 0 0)] [(0,ax),(1,ak)] fun b0=>
 Bh 53 2 1 [(.int .i64 0),(.slice none 0 0)] [(0,b0)] (fun b1 b2=>
 runK prog (Builtin.append_ #[46,46] 46 [t25,b1].toArray) (fun b3 b4=>
 BC i b3 (fun b5=>
 post .normal b5) b4) b2) ay) al) o) j.drew)) V) U) T) (bC (fun b6=>
 AK i (fun b7 b8=>
 BC i b7 (fun b9=>
 E0 Q.heap.size (fun ba=>
 AK i (fun x bc=>
 K x bc) ba) b9) b8) b6) (fun bd=>
 E0 Q.heap.size (fun bk=>
 AK i (fun y bl=>
 K y bl) bk) bd) []) Q) w8) w7) w4)) w3) w2) w1) w):AB prog 18 [v0] K w:=
 GB (P:=prog) (ok:=DE) (n:=33) (fn:=Tryz.f18) (c:=H6 Tryz.f18) (rs:=[.cell 2 46]) (an:=(aN (aO (aN (aO aE .nil)) (aO (aN (aN (aO (.dc [6] [[],[0],[0,1],[0,1,2],[],[4],(aR 6),(aR 7),(aR 8),(aR 8),(aR 9),(aR 11)] []) .nil))) aE)))) FK mixed func18 (by kernel_rfl) (by kernel_rfl) (by kernel_rfl) (by kernel_rfl) (Eq.mp (by kernel_rfl) h)
theorem aF(h: AB prog 41 [v0] (fun t4 j=>
 Bt t4 fun t5=>
 AD t5
 (K (.int .i64 0) j)
 (AJ v0 fun o=>
 AM 5 o fun x=>
 AK x (fun t9 w2=>
 AB prog 67 [t9] (fun i y=>
 K i y) w2) j)) w):AB prog 27 [v0] K w:=cO (aN (aO (aN (aO aE .nil)) aE)) func27 h (by kernel_rfl)
theorem Zn(h: Az [9,10] [[],[0],[0,1],[0,1,2],[],[4],[4,5],[4,5,6],[],[4,5,6,7,8],[0,1,2,3,4,5,6,7,8,9],[0,1,2,3,4,5,6,7,8,9,10],[0,1,2,3,4,5,6,7,8,9,10,11],[0,1,2,3,4,5,6,7,8,9,10,11],[0,1,2,3,4,5,6,7,8,9,10,11,12],[0,1,2,3,4,5,6,7,8,9,10,11,12,13,14]] w.drew (fun M St=>
 AJ v0 fun Z=>
 AM 5 Z fun a1=>
 BD (St 3) a1 fun a6=>
 AJ v0 fun a7=>
 AM 0 a7 fun t22=>
 BD (St 7) t22 fun a8=>
 AB prog 75 [a8,v3,(.bool false)] (fun t25 w1=>
 Mod (M 9) w.drew w1/\
 AB prog 74 [a6,t25] (fun I w2=>
 Mod (M 10) w1 w2/\
 AO 0 I fun j=>
 AO 1 I fun _t28=>
 AJ v0 fun ak=>
 AM 0 ak fun al=>
 AK al (fun an w3=>
 AB prog 75 [an,v3,(.bool true)] (fun av w4=>
 Al v2 fun ax=>
 Ay [(.slice none 0 0),(.slice none 0 0),(.int .i64 0)] (fun vs o Y=>∀_:Env,
 Bc .i64 (nth vs 2) ax fun ay=>
 AD ay
 (Au (fun i w6=>∀_:Env,
 AX .i64 (nth vs 2) (.int .i64 1) fun b0=>
 o [(nth i 0),(nth i 1),b0] w6) (fun J=>
 Be 1 v2 (nth vs 2) fun b1=>
 AK b1 (fun b2 w7=>
 DI .i32 b2 (.int .i32 10) fun b3=>
 AD b3
 (Af [(0,1),(1,1)] [(.int .i64 0),(.int .i64 0)] [(0,(.int .i64 1))] fun t46=>
 Bh 108 2 1 [(.int .i64 0),(.int .i64 0)] [(0,t46)] (fun b4 w8=>
 runK prog (Builtin.append_ #[101,101] 101 [(nth vs 0),b4].toArray) (fun b5 w9=>
 Bh 43 1 1 [(.slice none 0 0)] [(0,av)] (fun b6 b7=>
 runK prog (Builtin.append_ #[50,50] 50 [(nth vs 1),b6].toArray) (fun b8 b9=>
 J [b5,b8] b9) b7) w9) w8) w7)
 (Al (nth vs 0) fun ba=>
 BX .i64 ba (.int .i64 1) fun t55=>
 LB .i64 t55 (.int .i64 0) fun bc=>
 AD bc
 (BX .i64 (nth vs 2) (.int .i64 1) fun bd=>
 Be 1 v2 bd fun bk=>
 AK bk (fun bl O=>
 Dm .i32 bl (.int .i32 10) fun bp=>
 AD bp
 (Be 2 (nth vs 0) t55 fun bs=>
 AM 0 bs fun bx=>
 AK bx (fun t70 c4=>
 AX .i64 t70 (.int .i64 1) fun c6=>
 Be 2 (nth vs 0) t55 fun c7=>
 AM 0 c7 fun c8=>
 BC c8 c6 (fun c9=>
 J [(nth vs 0),(nth vs 1)] c9) c4) O)
 (Af [(0,1),(1,1)] [(.int .i64 0),(.int .i64 0)] [(0,(.int .i64 1)),(1,j)] fun t76=>
 Bh 108 2 1 [(.int .i64 0),(.int .i64 0)] [(0,t76)] (fun t77 ca=>
 runK prog (Builtin.append_ #[101,101] 101 [(nth vs 0),t77].toArray) (fun cc cd=>
 J [cc,(nth vs 1)] cd) ca) O)) w7)
 (Af [(0,1),(1,1)] [(.int .i64 0),(.int .i64 0)] [(0,(.int .i64 1)),(1,j)] fun x=>
 Bh 108 2 1 [(.int .i64 0),(.int .i64 0)] [(0,x)] (fun y ch=>
 runK prog (Builtin.append_ #[101,101] 101 [(nth vs 0),y].toArray) (fun B cn=>
 J [B,(nth vs 1)] cn) ch) w7))) Y))
 (Az [6,8] [[],[0],[0,1],[0,1,2],[],[],[4,5],[],[0,1,2,3,4,5,6,7]] Y.drew (fun Q S=>
 AJ v0 fun cv=>
 AM 4 cv fun cx=>
 BD (S 3) cx fun dk=>
 AB prog 50 [v0,v1] (fun du E=>
 Mod (Q 6) Y.drew E/\
 AB prog 76 [dk,du,(nth vs 1)] (fun _t88 T=>
 Mod (Q 8) E T/\
 AJ v0 fun dv=>
 AM 2 dv fun dw=>
 AK dw (fun dx dy=>
 AB prog 77 [dx,v1,v2] (fun _t95 dz=>
 AB prog 78 [v0,v1,v1,(nth vs 0)] (fun _t100 dT=>
 AJ v0 fun U=>
 AM 5 U fun V=>
 AK V (fun X e1=>
 AB prog 79 [X,j] (fun _t106 e2=>
 K (.tuple #[]) e2) e1) dT) dz) dy) T) E) Y.drew))) w4) w3) w2) w1) w.drew)):AB prog 40 [v0,v1,v2,v3] K w:=cO (aO (.dc [9,10] [[],[0],[0,1],[0,1,2],[],[4],[4,5],[4,5,6],[],[4,5,6,7,8],(aR 10),(aR 11),(aR 12),(aR 12),(aR 13),(aR 15)] []) (aN (aN (aN (aO (aN (.node [11,12,37] [(11,14),(37,79)] (aN (aO aE (.cut [11,12] [(11,14),(39,78)] (aN (aN (aO aE (aN (aN aE))))) .nil))) .nil)) (aO (.dc [6,8] [[],[0],[0,1],[0,1,2],[],[],[4,5],[],(aR 8)] []) (aN aE))))))) func40 h (by kernel_rfl)
theorem ZH(h: CX v0 fun j=>
 AD (.bool (!j))
 (AJ v0 fun o=>
 AM 2 o fun x=>
 AK x (fun t9 y=>
 CX t9 fun i=>
 K (.bool (!i)) y) w)
 (K (.bool false) w)):AB prog 41 [v0] K w:=cO (aN aE) func41 h (by kernel_rfl)
theorem Y9(h: AB prog 80 [v0,v1] (fun i j=>
 Dm .i64 i (.int .i64 0) fun o=>
 AD o
 (K i j)
 (Au (fun vs w2=>∀_:Env,
 AD (nth vs 0)
 (K (.int .i64 5) w2)
 (AB prog 82 [v1,v2] (fun x V=>
 Bt x fun y=>
 AD y
 (K (.int .i64 6) V)
 (AB prog 83 [v0,v1] (fun B w4=>
 Bt B fun t39=>
 AD t39
 (K (.int .i64 7) w4)
 (AB prog 81 [v1] (fun E Y=>
 BX .i64 v2 E fun I=>
 AB prog 84 [v1] (fun t46 X=>
 AX .i64 I t46 fun O=>
 EX .i64 O v3 fun Q=>
 AD Q
 (K (.int .i64 8) X)
 (K (.int .i64 0) X)) Y) w4)) V)) w2)) (fun J=>
 Bc .i64 v2 (.int .i64 1) fun S=>
 AD S
 (J [(.bool true)] j)
 (EX .i64 v2 v3 fun t22=>
 AD t22
 (J [(.bool true)] j)
 (AB prog 81 [v1] (fun T Z=>
 EX .i64 T v2 fun U=>
 J [U] Z) j))))) w):AB prog 42 [v0,v1,v2,v3] K w:=cO (aN (aO (aN (aN (aO aE .nil))) (aO (.cut [16] [(16,29)] .nil (aO aE (aN (aO aE (aN (aO aE (aN (aO aE .nil)))))))) aE))) func42 h (by kernel_rfl)
theorem Zz(h: Au (fun _vs w1=>∀_:Env,
 AJ v0 fun V=>
 AM 0 V fun X=>
 AK X (fun Y w2=>
 AB prog 70 [Y,v3,(.bool false)] (fun I w3=>
 Ay [v1] (fun i j w4=>∀_:Env,
 Au (fun _vs_2 Z=>∀_:Env,
 Az [6,8] [[],[0],[0,1],[0,1,2],[],[],[4,5],[4,5,6],[0,1,2,3,4,5,6,7],[0,1,2,3,4,5,6,7,8],[0,1,2,3,4,5,6,7,8,9],[0,1,2,3,4,5,6,7,8,9],[0,1,2,3,4,5,6,7,8,9,10],[0,1,2,3,4,5,6,7,8,9,10,11,12]] Z.drew (fun M St=>
 AJ v0 fun a1=>
 AM 2 a1 fun t53=>
 BD (St 3) t53 fun a6=>
 AB prog 50 [v0,(nth i 0)] (fun a7 w6=>
 Mod (M 6) Z.drew w6/\
 AX .i64 a7 (.int .i64 1) fun a8=>
 AB prog 46 [a6,a8] (fun O w7=>
 Mod (M 8) w6 w7/\
 AO 0 O fun x=>
 AO 1 O fun _t61=>
 BX .i64 x (.int .i64 1) fun ak=>
 Jt .i64 ak v2 fun Q=>
 Bc .i64 (nth i 0) Q fun al=>
 AD al
 (AB prog 86 [v0,(nth i 0),Q,I] (fun _t73 w8=>
 j [x] w8) w7)
 (j [x] w7)) w6) Z.drew)) (fun an=>
 Al I fun av=>
 EX .i64 av (.int .i64 0) fun ax=>
 AD ax
 (Bc .i64 (nth i 0) v2 fun ay=>
 AD ay
 (an [] w4)
 (K (.tuple #[]) w4))
 (K (.tuple #[]) w4))) w3) w2) w1) (fun J=>
 AJ v0 fun b0=>
 AM 0 b0 fun b1=>
 AK b1 (fun b2 w9=>
 AB prog 70 [b2,v3,(.bool true)] (fun S o=>
 Al S fun b3=>
 EX .i64 b3 (.int .i64 0) fun t22=>
 AD t22
 (Az [6,9,11] [[],[0],[0,1],[0,1,2],[],[],[4,5],[],[],[4,5,6,7,8],[],[0,1,2,3,4,5,6,7,8,9,10]] o.drew (fun y T=>
 AJ v0 fun b4=>
 AM 4 b4 fun t25=>
 BD (T 3) t25 fun b5=>
 AB prog 50 [v0,v1] (fun b6 B=>
 Mod (y 6) o.drew B/\
 AB prog 50 [v0,v2] (fun b7 E=>
 Mod (y 9) B E/\
 AB prog 85 [b5,b6,b7,S] (fun _t34 U=>
 Mod (y 11) E U/\
 J [] U) E) B) o.drew))
 (J [] o)) w9) w)):AB prog 43 [v0,v1,v2,v3] K w:=cO (.cut [] [(8,8),(14,34)] (aN (aN (aO (.dc [6,9,11] [[],[0],[0,1],[0,1,2],[],[],[4,5],[],[],[4,5,6,7,8],[],(aR 11)] []) .nil))) (aN (aN (.node [10] [(10,13),(42,74)] (.cut [] [(42,49)] (aN aE) (aO (.dc [6,8] [[],[0],[0,1],[0,1,2],[],[],[4,5],[4,5,6],(aR 8),(aR 9),(aR 10),(aR 10),(aR 11),(aR 13)] [[6]]) (aO (aN (aN aE)) .nil))) .nil)))) func43 h (by kernel_rfl)
theorem Yw(h: Az [6,9,10] [[],[0],[0,1],[0,1,2],[],[],[4,5],[],[],[4,5,6,7,8],[0,1,2,3,4,5,6,7,8,9]] w.drew (fun M I=>
 AJ v0 fun J=>
 AM 4 J fun O=>
 BD (I 3) O fun t9=>
 AB prog 50 [v0,v1] (fun i j=>
 Mod (M 6) w.drew j/\
 AB prog 50 [v0,v2] (fun o w2=>
 Mod (M 9) j w2/\
 AB prog 87 [t9,i,o] (fun _t16 E=>
 Mod (M 10) w2 E/\
 AJ v0 fun x=>
 AM 2 x fun y=>
 AK y (fun B w4=>
 AB prog 88 [B,v1,v2] (fun _t23 Q=>
 AB prog 78 [v0,v1,v2,(.slice none 0 0)] (fun _t27 S=>
 K (.tuple #[]) S) Q) w4) E) w2) j) w.drew)):AB prog 44 [v0,v1,v2] K w:=cO (aO (.dc [6,9,10] [[],[0],[0,1],[0,1,2],[],[],[4,5],[],[],[4,5,6,7,8],(aR 10)] []) aE) func44 h (by kernel_rfl)
theorem Sp(h: AJ v0 fun t9=>
 AM 2 t9 fun j=>
 AK j (fun o y=>
 AB prog 53 [o,v1] (fun i w2=>
 AO 0 i fun x=>
 AO 1 i fun _t15=>
 K x w2) y) w):AB prog 50 [v0,v1] K w:=cO (aN (aN aE)) func50 h (by kernel_rfl)
theorem aI(h: FH 24 v0 (fun t3 j=>
 FH 4 v2 (fun t5 w2=>
 AB prog 107 [v1] (fun o x=>
 AB prog 145 [o,(.func (.func 146) #[] #[t3,t5])] (fun i w4=>
 K i w4) x) w2) j) w):AB prog 75 [v0,v1,v2] K w:=cO (aN aE) func75 h (by kernel_rfl)
theorem Zk(h: BX .i64 v1 (.int .i64 1) fun a8=>
 Jr .i64 a8 (.int .i64 0) fun t22=>
 AX .i64 v2 (.int .i64 1) fun ak=>
 AJ v0 fun al=>
 AM 3 al fun an=>
 AK an (fun av w1=>
 AB prog 111 [av] (fun ax w2=>
 Jt .i64 ak ax fun J=>
 AJ v0 fun ay=>
 AM 3 ay fun b0=>
 AK b0 (fun b1 w3=>
 AB prog 48 [b1,t22,J] (fun O w4=>
 AO 0 O fun t39=>
 AO 1 O fun _t40=>
 AJ v0 fun b2=>
 AM 3 b2 fun b3=>
 AK b3 (fun b4 w5=>
 AB prog 151 [b4,v1,v2,v3] (fun _t48 w6=>
 BX .i64 v1 v2 fun b5=>
 AX .i64 J b5 fun t53=>
 Al v3 fun t55=>
 Ay [t53,(.int .i64 0)] (fun vs B w7=>∀_:Env,
 Bc .i64 (nth vs 1) t55 fun b6=>
 AD b6
 (Be 2 v3 (nth vs 1) fun b7=>
 Ac 2 b7 (fun b8 w8=>
 An 108 [(.int .i64 0),(.int .i64 0)] (fun Q w9=>
 AY 2 Q b8 (fun b9=>
 AM 0 Q fun ba=>
 AK ba (fun bc bd=>
 AX .i64 (nth vs 0) bc fun bk=>
 AX .i64 (nth vs 1) (.int .i64 1) fun bl=>
 B [bk,bl] bd) b9) w9) w8) w7)
 (AJ v0 fun bp=>
 AM 3 bp fun bs=>
 AK bs (fun bx c4=>
 AB prog 48 [bx,t22,(nth vs 0)] (fun S c6=>
 AO 0 S fun T=>
 AO 1 S fun _t74=>
 Al T fun t76=>
 Ay [(.int .i64 0)] (fun i j U=>∀_:Env,
 Bc .i64 (nth i 0) t76 fun c7=>
 AD c7
 (Be 2 T (nth i 0) fun c8=>
 Ac 2 c8 (fun c9 ca=>
 An 108 [(.int .i64 0),(.int .i64 0)] (fun V cc=>
 AY 2 V c9 (fun E=>
 Az [6] [[],[0],[0,1],[0,1,2],[],[4],[0,1,2,3,4,5]] E.drew (fun M St=>
 AJ v0 fun cd=>
 AM 5 cd fun ch=>
 BD (St 3) ch fun cn=>
 AM 1 V fun cv=>
 BD (St 5) cv fun cx=>
 AB prog 152 [cn,cx] (fun _t87 X=>
 Mod (M 6) E.drew X/\
 AX .i64 (nth i 0) (.int .i64 1) fun dk=>
 j [dk] X) E.drew)) cc) ca) U)
 (Al t39 fun du=>
 Ay [(.int .i64 0)] (fun o x Y=>∀_:Env,
 Bc .i64 (nth o 0) du fun dv=>
 AD dv
 (Be 2 t39 (nth o 0) fun dw=>
 Ac 2 dw (fun dx dy=>
 An 108 [(.int .i64 0),(.int .i64 0)] (fun Z dz=>
 AY 2 Z dx (fun I=>
 Az [6] [[],[0],[0,1],[0,1,2],[],[4],[0,1,2,3,4,5]] I.drew (fun dT y=>
 AJ v0 fun e1=>
 AM 5 e1 fun e2=>
 BD (y 3) e2 fun e3=>
 AM 1 Z fun e4=>
 BD (y 5) e4 fun a1=>
 AB prog 79 [e3,a1] (fun _t101 a6=>
 Mod (dT 6) I.drew a6/\
 AX .i64 (nth o 0) (.int .i64 1) fun a7=>
 x [a7] a6) I.drew)) dz) dy) Y)
 (K (.tuple #[]) Y)) U)) c6) c4) w7)) w6) w5) w4) w3) w2) w1) w):AB prog 78 [v0,v1,v2,v3] K w:=cO (aN (aN (aN (aN (aO (aN (.node [9,56] [(9,9),(13,13),(56,64)] (aN (aO aE (aO aE .nil))) .nil)) (aN (aO (aN (.node [77] [(17,17),(77,88)] (aN (aO aE (aO (aN (.dc [6] [[],[0],[0,1],[0,1,2],[],[4],(aR 6)] [])) .nil))) .nil)) (aN (.node [91] [(19,19),(91,102)] (aN (aO aE (aO (aN (.dc [6] [[],[0],[0,1],[0,1,2],[],[4],(aR 6)] [])) .nil))) .nil))))))))) func78 h (by kernel_rfl)
theorem Zh(h: Al v0 fun t9=>
 Ay [(.int .i64 0),(.int .i64 0)] (fun vs i w1=>∀_:Env,
 Bc .i64 (nth vs 1) t9 fun B=>
 AD B
 (Be 5 v0 (nth vs 1) fun E=>
 Ac 5 E (fun I w2=>
 An 83 [(.int .u8 0),(.int .i64 0),(.slice none 0 0),(.slice none 0 0),(.slice none 0 0)] (fun x w3=>
 AY 5 x I (fun w4=>
 Au (fun _vs_1 w5=>∀_:Env,
 AM 1 x fun O=>
 AK O (fun Q w6=>
 AX .i64 (nth vs 0) Q fun S=>
 AX .i64 (nth vs 1) (.int .i64 1) fun T=>
 i [S,T] w6) w5) (fun J=>
 AM 0 x fun U=>
 AK U (fun o y=>
 DI .u8 o (.int .u8 2) fun V=>
 AD V
 (DI .i64 (nth vs 0) v1 fun X=>
 AD X
 (K (.bool false) y)
 (AX .i64 (nth vs 1) (.int .i64 1) fun j=>
 i [(nth vs 0),j] y))
 (DI .u8 o (.int .u8 3) fun t22=>
 AD t22
 (AM 1 x fun Y=>
 AK Y (fun t25 w8=>
 AX .i64 (nth vs 0) t25 fun Z=>
 DI .i64 Z v1 fun a1=>
 AD a1
 (K (.bool false) w8)
 (J [] w8)) y)
 (J [] y))) w4)) w3) w2) w1)
 (K (.bool true) w1)) w):AB prog 82 [v0,v1] K w:=cO (aN (aN (aN (aO (aN (.node [5,10] [(4,5),(7,7),(10,33)] (aN (aO aE (aO (aN (.cut [] [(4,4),(14,28)] (aN (aN (aO (aO (aN (aO aE .nil)) .nil) (aN (aO (aN (aO aE .nil)) .nil))))) .nil)) .nil))) .nil)) aE)))) func82 h (by kernel_rfl)
theorem ZP(h: Al v1 fun a1=>
 Ay [(.int .i64 0)] (fun vs j w1=>∀_:Env,
 Bc .i64 (nth vs 0) a1 fun a6=>
 AD a6
 (Au (fun _vs_1 w2=>∀_:Env,
 AX .i64 (nth vs 0) (.int .i64 1) fun a7=>
 j [a7] w2) (fun J=>
 Be 5 v1 (nth vs 0) fun a8=>
 Ac 5 a8 (fun ak w3=>
 An 83 [(.int .u8 0),(.int .i64 0),(.slice none 0 0),(.slice none 0 0),(.slice none 0 0)] (fun i w4=>
 AY 5 i ak (fun w5=>
 Au (fun _vs_2 w6=>∀_:Env,
 Az [3,7] [[],[],[1],[0,1,2],[0,1,2,3],[],[5],[0,1,2,3,5,6],[0,1,2,3,4,5,6,7],[0,1,2,3,4,5,6,7,8]] w6.drew (fun M St=>
 AM 3 i fun t25=>
 BD (St 2) t25 fun al=>
 AB prog 75 [v0,al,(.bool true)] (fun an w7=>
 Mod (M 3) w6.drew w7/\
 Al an fun o=>
 AM 2 i fun av=>
 BD (St 6) av fun ax=>
 AB prog 154 [ax] (fun x w8=>
 Mod (M 7) w7 w8/\
 EX .i64 o (.int .i64 0) fun ay=>
 AD ay
 (AM 3 i fun b0=>
 AK b0 (fun b1 w9=>
 Al b1 fun b2=>
 Bc .i64 o b2 fun b3=>
 AD b3
 (K (.bool false) w9)
 (AM 2 i fun t46=>
 AK t46 (fun b4 U=>
 Al b4 fun b5=>
 Bc .i64 x b5 fun b6=>
 AD b6
 (K (.bool false) U)
 (J [] U)) w9)) w8)
 (EX .i64 x (.int .i64 0) fun b7=>
 AD b7
 (AM 3 i fun y=>
 AK y (fun B V=>
 Al B fun E=>
 Bc .i64 o E fun I=>
 AD I
 (K (.bool false) V)
 (AM 2 i fun O=>
 AK O (fun Q X=>
 Al Q fun S=>
 Bc .i64 x S fun T=>
 AD T
 (K (.bool false) X)
 (J [] X)) V)) w8)
 (J [] w8))) w7) w6.drew)) (fun b8=>
 AM 0 i fun b9=>
 AK b9 (fun ba Y=>
 Dm .u8 ba (.int .u8 2) fun bc=>
 AD bc
 (J [] Y)
 (AM 3 i fun bd=>
 AK bd (fun bk Z=>
 Al bk fun bl=>
 DI .i64 bl (.int .i64 0) fun t22=>
 AD t22
 (J [] Z)
 (b8 [] Z)) Y)) w5)) w4) w3) w1))
 (K (.bool true) w1)) w):AB prog 83 [v0,v1] K w:=cO (aN (aO (aN (.node [11] [(4,4),(6,8),(11,52)] (aN (aO aE (.cut [] [(4,4),(6,8),(13,51)] (aN (.cut [] [(15,23)] (aN aE) (aO (.dc [3,7] [[],[],[1],[0,1,2],(aR 4),[],[5],[0,1,2,3,5,6],(aR 8),(aR 9)] [[3]]) (aN (aO aE .nil))))) .nil))) .nil)) aE)) func83 h (by kernel_rfl)
theorem Zd(h: AJ v0 fun T=>
 AM 3 T fun U=>
 AK U (fun V w1=>
 AB prog 48 [V,v1,v2] (fun t22 w2=>
 AO 0 t22 fun i=>
 AO 1 t22 fun _t24=>
 Al i fun X=>
 Ay [(.int .i64 0)] (fun vs y S=>∀_:Env,
 Bc .i64 (nth vs 0) X fun Y=>
 AD Y
 (Az [9] [[],[0],[0,1],[0,1,2],[],[],[4,5],[4,5,6],[4,5,6,7],[0,1,2,3,4,5,6,7,8],[0,1,2,3,4,5,6,7,8,9],[0,1,2,3,4,5,6,7,8,9,10],[0,1,2,3,4,5,6,7,8,9,10],[0,1,2,3,4,5,6,7,8,9,10,11],[0,1,2,3,4,5,6,7,8,9,10,11,12,13]] S.drew (fun M St=>
 AJ v0 fun Z=>
 AM 5 Z fun a1=>
 BD (St 3) a1 fun a6=>
 Be 2 i (nth vs 0) fun a7=>
 AM 1 a7 fun a8=>
 BD (St 8) a8 fun t39=>
 AB prog 51 [a6,t39] (fun I w4=>
 Mod (M 9) S.drew w4/\
 AO 0 I fun ak=>
 AO 1 I fun _t42=>
 Az [8,9,15] [[],[],[],[2],[2,3],[2,3,4],[],[],[6,7],[2,3,4,5,6,7,8],[2,3,4,5,6,7,8,9],[2,3,4,5,6,7,8,9,10],[2,3,4,5,6,7,8,9,10],[0,1,2,3,4,5,6,7,8,9,10,11],[0,1,2,3,4,5,6,7,8,9,10,11,13],[0,1,2,3,4,5,6,7,8,9,10,11,13,14]] w4.drew (fun B J=>
 AJ v0 fun al=>
 AM 5 al fun an=>
 BD (J 5) an fun av=>
 AB prog 156 [ak,v3] (fun ax w5=>
 Mod (B 8) w4.drew w5/\
 AB prog 74 [av,ax] (fun t53 w6=>
 Mod (B 9) w5 w6/\
 AO 0 t53 fun ay=>
 AO 1 t53 fun _t55=>
 Be 2 i (nth vs 0) fun b0=>
 AM 1 b0 fun b1=>
 BC b1 ay (fun w7=>
 Mod (B 15) w6 w7/\
 AX .i64 (nth vs 0) (.int .i64 1) fun b2=>
 y [b2] w7) w6) w5) w4.drew)) S.drew))
 (AB prog 78 [v0,v1,v2,i] (fun _t63 w8=>
 Al i fun b3=>
 Ay [(.int .i64 0)] (fun j o w9=>∀_:Env,
 Bc .i64 (nth j 0) b3 fun b4=>
 AD b4
 (Be 2 i (nth j 0) fun b5=>
 Ac 2 b5 (fun b6 b7=>
 An 108 [(.int .i64 0),(.int .i64 0)] (fun O b8=>
 AY 2 O b6 (fun E=>
 Az [6] [[],[0],[0,1],[0,1,2],[],[4],[0,1,2,3,4,5]] E.drew (fun b9 x=>
 AJ v0 fun ba=>
 AM 5 ba fun bc=>
 BD (x 3) bc fun bd=>
 AM 1 O fun bk=>
 BD (x 5) bk fun bl=>
 AB prog 79 [bd,bl] (fun _t76 Q=>
 Mod (b9 6) E.drew Q/\
 AX .i64 (nth j 0) (.int .i64 1) fun t77=>
 o [t77] Q) E.drew)) b8) b7) w9)
 (K (.tuple #[]) w9)) w8) S)) w2) w1) w):AB prog 86 [v0,v1,v2,v3] K w:=cO (aN (aO (aN (.node [27] [(10,12),(27,58)] (aN (aO aE (aO (aN (aO (.dc [9] [[],[0],[0,1],[0,1,2],[],[],[4,5],[4,5,6],[4,5,6,7],(aR 9),(aR 10),(aR 11),(aR 11),(aR 12),(aR 14)] []) (.dc [8,9,15] [[],[],[],[2],[2,3],[2,3,4],[],[],[6,7],[2,3,4,5,6,7,8],[2,3,4,5,6,7,8,9],[2,3,4,5,6,7,8,9,10],[2,3,4,5,6,7,8,9,10],(aR 12),[0,1,2,3,4,5,6,7,8,9,10,11,13],[0,1,2,3,4,5,6,7,8,9,10,11,13,14]] [[8,9]]))) .nil))) .nil)) (aN (aN (.node [66] [(14,14),(66,77)] (aN (aO aE (aO (aN (.dc [6] [[],[0],[0,1],[0,1,2],[],[4],(aR 6)] [])) .nil))) .nil))))) func86 h (by kernel_rfl)
theorem We(h: AB prog 213 [v0,v1] (fun j w1=>
 DI .i64 j (.int .i64 (-1)) fun x=>
 AD x
 (K v0 w1)
 (AX .i64 j (.int .i64 1) fun y=>
 Ay [j,y] (fun vs i w2=>∀_:Env,
 Al v0 fun B=>
 Bc .i64 (nth vs 1) B fun E=>
 AD E
 (Be 5 v0 (nth vs 1) fun I=>
 Ac 5 I (fun t25 w3=>
 An 79 [(.int .i64 0),(.int .u8 0),(.int .i64 0),(.int .u64 0),(.string (ByteArray.mk #[]))] (fun J w4=>
 AY 5 J t25 (fun w5=>
 Ac 5 J (fun O w6=>
 CO prog DE v1 [O] (fun Q w7=>
 Bt Q fun S=>
 AD S
 (Ac 5 J (fun T w8=>
 Be 5 v0 (nth vs 0) fun U=>
 AY 5 U T (fun w9=>
 AX .i64 (nth vs 0) (.int .i64 1) fun V=>
 AX .i64 (nth vs 1) (.int .i64 1) fun X=>
 i [V,X] w9) w8) w7)
 (AX .i64 (nth vs 1) (.int .i64 1) fun o=>
 i [(nth vs 0),o] w7)) w6) w5) w4) w3) w2)
 (runK prog (Instr.sliceAt 43 v0 (some (nth vs 0)) none none) (fun Y Z=>
 runK prog (Builtin.clear_ #[43] 0 [Y].toArray) (fun _u a1=>
 runK prog (Instr.sliceAt 43 v0 none (some (nth vs 0)) none) (fun a6 a7=>
 K a6 a7) a1) Z) w2)) w1)) w):AB prog 145 [v0,v1] K w:=cO (aN (aN (aO (aN (aO aE .nil)) (aO (aN (.node [5,6] [(5,7),(16,35)] (aO (aN aE) (aO (aN (aN (aO aE .nil))) .nil)) .nil)) (aN aE))))) func145 h (by kernel_rfl)
theorem XX(h: Ba 79 v0 (fun t3 Q=>
 AK v1 (fun S w2=>
 AM 0 t3 fun t9=>
 AK t9 (fun j T=>
 AB prog 131 [S,j] (fun i w4=>
 AO 0 i fun o=>
 AO 1 i fun x=>
 An 65 [(.int .i64 0),(.bool false),(.int .u8 0),(.bool false),(.bool false),(.int .i64 0)] (fun t5 U=>
 AY 6 t5 o (fun O=>
 Bt x fun y=>
 AD y
 (K (.bool true) O)
 (AM 1 t5 fun B=>
 AK B (fun E V=>
 AK v2 (fun I X=>
 TI E I fun J=>
 K J X) V) O)) U) w4) T) w2) Q) w):AB prog 146 [v0,v1,v2] K w:=cO (aN (aN aE)) func146 h (by kernel_rfl)
theorem Vc(h: Al v0 fun J=>
 Ay [(.int .i64 0),(.int .i64 0)] (fun vs i I=>∀_:Env,
 Bc .i64 (nth vs 1) J fun t9=>
 AD t9
 (Be 1 v0 (nth vs 1) fun o=>
 AK o (fun x w2=>
 DI .i32 x (.int .i32 10) fun y=>
 AD y
 (AX .i64 (nth vs 0) (.int .i64 1) fun B=>
 AX .i64 (nth vs 1) (.int .i64 1) fun E=>
 i [B,E] w2)
 (AX .i64 (nth vs 1) (.int .i64 1) fun j=>
 i [(nth vs 0),j] w2)) I)
 (K (nth vs 0) I)) w):AB prog 154 [v0] K w:=cO (aN (aN (aO (aN (.node [3,8] [(3,3),(5,5),(8,16)] (aN (aO aE (aO (aN (aN aE)) .nil))) .nil)) aE))) func154 h (by kernel_rfl)
theorem XK(h: Al v0 fun I=>
 Ay [(.int .i64 0)] (fun vs i B=>∀_:Env,
 Bc .i64 (nth vs 0) I fun t9=>
 AD t9
 (Be 5 v0 (nth vs 0) fun j=>
 Ac 5 j (fun o w2=>
 CO prog DE v1 [o] (fun x E=>
 AD x
 (K (nth vs 0) E)
 (AX .i64 (nth vs 0) (.int .i64 1) fun y=>
 i [y] E)) w2) B)
 (K (.int .i64 (-1)) B)) w):AB prog 213 [v0,v1] K w:=cO (aN (aO (aN (.node [8] [(4,5),(8,18)] (aN (aO aE (aO (aN (aN (aO aE .nil))) .nil))) .nil)) aE)) func213 h (by kernel_rfl)
end Go.Proofs.YtmdhibffnkhcnaaGreatDoor
namespace Go.Proofs.YtmdhibffnkhcnaaGreatDoor
open Go Go.K Proofs.Tryz
def P1(G:World->Prop)(j:Value)(i:Attr->Bool):Prop:=∀W c (K:Cont),G W->(∀W',Grow W W'->K (.bool (i c)) W')->CO prog DE j [.agg c.cells.toArray] K W
theorem Xm{S:Nat->Prop}{v B:Value}{p:List Attr}{x:Attr->Bool}{w:World}(h:Cu S w v p)(E:P1 (Grow w) B x) :
  AB prog 213 [v,B] (fun v' w'=>Grow w w'/\((v'=.int .i64 (-1)/\∀c∈p,x c=false)\/∃i:Nat,∃I:i<p.length,v'=.int .i64 i/\x p[i]=true/\∀c∈p.take i,x c=false)) w:=by
 apply XK;obtain⟨a,c,rfl,hm⟩:=h.shape;simp only[maxLen] at hm;rw[AS];refine Ae (fun vs W=>∃i:Nat,i<=p.length/\vs=[.int .i64 i]/\Grow w W/\∀c∈p.take i,x c=false) (fun vs _=>p.length-ED vs 0) ⟨0,Nat.zero_le _,rfl,Mod.refl _ _,by simp⟩ ?_;rintro vs W ⟨i,I,rfl,g,y⟩ _;rw[CN,List.headD_cons,Ax];refine AE (fun J=>?_) fun O=>?_
 .have o:i<p.length:=by omega
  obtain⟨q,r,rfl,_,hr,hc,rfl⟩:=(h.grow g (by decide) fun _ _ h=>h).get o;refine AZ o (Ah hr (fun j u hu=>by rw[Addr.add_add];exact hc j u hu) ?_);refine E W p[i] _ g fun W' g'=>?_;cases e:x p[i] with
  |true=>exact Ao ⟨g.trans g',.inr ⟨i,o,rfl,e,y⟩⟩
  |false=>
   refine AT ?_;rw[AR,AQ (by omega)];refine⟨⟨i+1,o,rfl,g.trans g',fun c hc=>?_⟩,by rw[DW,DW];omega⟩;rw[List.take_add_one,List.getElem?_eq_getElem o] at hc;rcases List.mem_append.1 hc with hc|hc
   .exact y c hc
   .simp at hc;subst hc;exact e
 .have:i=p.length:=by omega
  subst this;exact⟨g,.inl ⟨rfl,fun c hc=>y c (by rw[List.take_length];exact hc)⟩⟩
theorem Attr.X5(c:Attr):c.cells.length=5:=rfl
set_option maxRecDepth 20000 in
theorem Vd{B:Nat}{v fv:Value}{p:List Attr}{o:Attr->Bool}{w:World}(U:AF B 79 5 Cv w v p)(ak:p.length<=1099511627776)(Y:P1 (Mod (fun b=>v.ownBlock=some b) w) fv o) :
  AB prog 145 [v,fv] (fun v' w'=>Cu (fun b=>v.ownBlock=some b) w' v' (p.filter fun c=>!o c)/\Mod (fun b=>v.ownBlock=some b) w w') w:=by
 apply We;refine AA (Xm (AF.sl U) fun W c K g hK=>Y W c K (g.mono fun _ _ e=>e.elim) hK) ?_;rintro _ w1 ⟨V,⟨rfl,E⟩|⟨i0,I,rfl,hd,E⟩⟩
 .rw[Am];refine AE (fun _=>?_) fun e=>(e rfl).elim;rw[List.filter_eq_self.2 fun c hc=>by rw[E c hc];rfl];exact⟨BJ.sub (AF.sl (AF.mod U V (fun _ _ h=>h) fun _ _ _ h=>h)) (fun b _ h=>h.2) (by decide) fun _ _ h=>h,V.mono fun _ _ e=>e.elim⟩
 rw[Am];refine AE (fun e=>absurd e (by omega)) fun _=>?_;obtain⟨a,c,rfl,al,an,hp,hn⟩:=AF.shape U;cases a with
 |none=>rw[hn rfl] at I;simp at I
 |some q=>
 obtain⟨g,rfl,av,Z,a8⟩:=hp q rfl;have a1:∀b,(Value.slice (some ⟨g,0,none⟩) p.length c).ownBlock=some b↔b=g:=fun b=>⟨fun e=>by cases e;rfl,fun e=>by subst e;rfl⟩;simp only[a1] at Y ⊢;have R0:Ih 5 Attr.cells w g p:=Ih.of U (by decide) fun _ _ h=>h;have R1:=R0.mod V fun h=>h;rw[AR,AQ (by omega)];refine Ae (fun vs W=>∃(i j:Nat) (L:List Attr),i<j/\j<=p.length/\vs=[.int .i64 i,.int .i64 j]/\L.length=p.length/\Ih 5 Attr.cells W g L/\L.take i=(p.take j).filter (fun c=>!o c)/\L.drop j=p.drop j/\Mod (fun b=>b=g) w W) (fun vs _=>p.length-ED vs 1)
  ⟨i0,i0+1,p,by omega,I,rfl,rfl,R1,?_,rfl,V.mono fun _ _ e=>e.elim⟩ ?_
 .rw[List.take_add_one,List.getElem?_eq_getElem I,List.filter_append,List.filter_eq_self.2 fun c hc=>by rw[E c hc];rfl];simp[hd]
 rintro vs W ⟨i,j,L,ax,hj,rfl,hL,X,ht,O,hm⟩ _;simp only[Fx];rw[AS,Ax];refine AE (fun Q=>?_) fun ay=>?_
 .have y:j<p.length:=by omega
  have a6:L[j]'(by omega)=p[j]:=by
   have e:=congrArg List.head? O;rw[List.head?_drop,List.head?_drop,List.getElem?_eq_getElem (by omega),List.getElem?_eq_getElem y] at e;exact Option.some.inj e
  refine AZ y ?_;rw[AI];refine Ah (vs:=p[j].cells) rfl (fun q u hu=>by rw[Gc];exact X.cells j (by omega) q u (by rw[a6];exact hu)) ?_;refine BO (vs:=p[j].cells) rfl rfl (Cv.one (w:=W) (x:=p[j]) rfl) fun b7 w4 b0 b1 g4 S _=>?_;have b2:g<W.heap.size:=Nat.lt_of_lt_of_le Z hm.size;refine Ah (vs:=p[j].cells) rfl S ?_;refine Y w4 p[j] _ (hm.next g4 fun _ _ e=>e.elim) fun W5 g5=>?_;have R5:=(X.mod g4 fun h=>h).mod g5 fun h=>h;have m5:=(hm.next g4 fun _ _ e=>e.elim).next g5 fun _ _ e=>e.elim;have et:(p.take (j+1)).filter (fun c=>!o c)=(p.take j).filter (fun c=>!o c)++if o p[j] then[] else[p[j]]:=by
   rw[List.take_add_one,List.getElem?_eq_getElem y,List.filter_append];cases e:o p[j]<;>simp[e]
  have J:L.drop (j+1)=p.drop (j+1):=by have:=congrArg (List.drop 1) O;simpa[List.drop_drop] using this
  cases e:o p[j] with
  |true=>
   rw[Aq];refine AT ?_;rw[AR,AQ (by omega)];rw[e,if_pos rfl,List.append_nil] at et;refine⟨⟨i,j+1,L,by omega,y,rfl,hL,R5,by rw[et];exact ht,?_,m5⟩,by rw[BH,BH];omega⟩;exact J
  |false=>
   rw[Aq];refine Ao ?_;refine Ah (vs:=p[j].cells) rfl (fun q u hu=>g5.cell (S q u hu) fun h=>h) ?_;refine AZ (by omega) ?_;rw[AI];refine R5.store (i:=i) (x:=p[j]) (by omega) Attr.X5 (Cv.one (w:=W) (x:=p[j]) rfl) fun W6 R6 m6=>?_;rw[AR,AR,AQ (by omega),AQ (by omega)];rw[e,if_neg (by decide)] at et;refine⟨⟨i+1,j+1,L.set i p[j],by omega,y,rfl,by simp[hL],R6,?_,?_,m5.trans m6⟩,by rw[BH,BH];omega⟩
   .rw[et,<-ht,List.take_set,List.take_add_one,List.getElem?_eq_getElem (by omega),List.set_append_right _ _ (by simp;omega)];simp[Nat.min_eq_left (show i<=L.length by omega)]
   .rw[List.drop_set_of_lt (by omega)];exact J
 .obtain rfl:j=p.length:=by omega
  rw[List.take_length] at ht;refine Ai (EM (e:=79) (k:=5) (i:=Tryz.t79) (by kernel_rfl) (by kernel_rfl) (by kernel_rfl) (by omega) W) ?_;have a7:sliced (some (⟨g,0,none⟩:Addr)) i p.length c 5=.slice (some ⟨g,i*5,none⟩) (p.length-i) (c-i):=by
   unfold sliced;rw[if_neg (by omega)];simp only[Option.map_some,AI]
  rw[a7];obtain⟨W2,hr,m2,h2⟩:=Ls (P:=prog) (t:=43) (e:=79) (k:=5) (i:=Tryz.t79) (zv:=.agg (⟨0,BE.zero⟩:Attr).cells.toArray) (W:=W) (g:=g) (off:=i*5) (m:=p.length-i) (c:=c-i) (by kernel_rfl) (by kernel_rfl) (by kernel_rfl) (by kernel_rfl) (by decide)
   (fun u hu=>Cv.one (w:=W) (x:=⟨0,BE.zero⟩) rfl u (by simpa[Value.cells] using hu)) (by omega) fun q hq=>by
    have:=X.live (i+q/5) (q%5) (by omega) (Nat.mod_lt _ (by decide));rwa [show(i+q/5)*5+q%5=i*5+q by omega] at this
  refine Ai hr ?_;refine Ai (Ev (e:=79) (k:=5) (i:=Tryz.t79) (by kernel_rfl) (by kernel_rfl) (by kernel_rfl) (by omega) W2) ?_;refine⟨?_,hm.trans m2⟩;rw[<-ht];have Q:(L.take i).length=i:=by simp;omega
  refine⟨_,_,by rw[Q],by omega,by omega,fun m x hx=>?_⟩;obtain⟨b3,T⟩:=List.getElem?_eq_some_iff.1 hx;rw[List.getElem_take] at T;subst T;refine⟨⟨g,0,none⟩,_,rfl,rfl,rfl,fun q u hu=>?_,rfl⟩;have hq:q<5:=(List.getElem?_eq_some_iff.1 hu).1;rw[AI,h2 _ (by omega)];exact X.cells m (by omega) q u hu
def Lu(ks:List DKey)(b:Bool)(c:Attr):Bool:=match BY ks c.key with|some k=>decide (k.block=b)|none=>false
theorem RT{D:Nat->Prop}{sv:Value}{ks:List DKey}{b:Bool}{c:Attr}{B E:Nat}{w:World}(I:DG D w sv ks)(J:w.cell? ⟨B,0,none⟩=some sv)(O:w.cell? ⟨E,0,none⟩=some (.bool b)) :
  AB prog 146 [.agg c.cells.toArray,.pointer (some ⟨B,0,none⟩),.pointer (some ⟨E,0,none⟩)] (fun v' w'=>v'=.bool (!Lu ks b c)/\Grow w w') w:=by
 apply XX;refine Da fun Y Z Q S o y _=>?_;refine AL (o.cell J fun h=>h) ?_;rw[AG];refine AL (y 0 _ rfl) ?_;refine AA (Ip (I.grow o) c.key) ?_;rintro _ w2 ⟨rfl,T⟩;refine BM ?_;refine BO (vs:=((BY ks c.key).getD DKey.zero).cells) rfl rfl (Fv.one (w:=w2) (x:=(BY ks c.key).getD DKey.zero) rfl) fun b4 w3 U V X j _=>?_;have i:=(o.trans T).trans X;rw[Aq];unfold Lu;cases e:BY ks c.key with
 |none=>exact Ao ⟨rfl,i⟩
 |some k=>
  rw[e] at j;refine AT ?_;rw[AG];refine AL (j 1 _ rfl) ?_;refine AL (i.cell O fun h=>h) ?_;rw[PI];refine⟨?_,i⟩;show Value.bool (k.block != b)=.bool (!decide (k.block=b));cases k.block<;>cases b<;>rfl
def Dj(ks:List DKey)(b:Bool)(l:List Attr):List Attr:=l.filter (Lu ks b)
theorem KX{D S:Nat->Prop}{sv V:Value}{ks:List DKey}{b:Bool}{p:List Attr}{w:World}(X:DG D w sv ks)(hp:Cu S w V p)(hl:p.length<=1099511627776) :
  AB prog 75 [sv,V,.bool b] (fun v' w'=>Cu (fun x=>w.heap.size<=x) w' v' (Dj ks b p)/\Grow w w') w:=by
 apply aI;have J:sv.cells=#[sv]:=by
  obtain⟨b,m,kv,l,rfl,_⟩:=X;rfl
 have O:DG (fun x=>D x/\x<w.heap.size) w sv ks:=X.sub fun x B h=>⟨h,B⟩;refine⟨J,EE fun E w1 a1 a6 o Q _=>?_⟩;refine⟨rfl,EE fun I w2 a7 a8 j T _=>?_⟩;refine AA (L4 (hp.grow (o.trans j) (by decide) fun _ _ h=>h) (by omega)) ?_;rintro v3 w3 ⟨Y,U⟩;have c3:w2.cell? ⟨E,0,none⟩=some sv:=by have:=j.cell (Q 0 _ rfl) fun h=>h;rwa [AI] at this
 have c5:w2.cell? ⟨I,0,none⟩=some (.bool b):=by have:=T 0 _ rfl;rwa [AI] at this
 have i:∀x,v3.ownBlock=some x->w2.heap.size<=x:=fun x e=>(AF.BL Y x e).1;have y:=(o.trans j).trans U;have tl:P1 (Mod (fun x=>v3.ownBlock=some x) w3) (.func (.func 146) #[] #[.pointer (some ⟨E,0,none⟩),.pointer (some ⟨I,0,none⟩)]) fun c=>!Lu ks b c:=by
  intro W c K m hK;refine .inl ⟨_,[],[.pointer (some ⟨E,0,none⟩),.pointer (some ⟨I,0,none⟩)],rfl,by kernel_rfl,?_⟩;refine AA (RT ((O.grow y).mod m fun x _ B e=>?_) (m.cell (U.cell c3 fun h=>h) fun e=>?_) (m.cell (U.cell c5 fun h=>h) fun e=>?_)) ?_
  .have:=i _ e;have:=B.2;have:=(o.trans j).size;omega
  .have h:w2.heap.size<=E:=i _ e;omega
  .have h:w2.heap.size<=I:=i _ e;omega
  .rintro _ W' ⟨rfl,g⟩;exact hK W' g
 refine AA (Vd Y hl tl) ?_;rintro v4 w4 ⟨Z,m4⟩;have e:(p.filter fun c=>!(!Lu ks b c))=Dj ks b p:=by simp only[Bool.not_not];rfl
 rw[e] at Z;refine⟨BJ.sub Z (fun x _ e=>by have:=i x e;have:=(o.trans j).size;omega) (by decide) fun _ _ h=>h,?_⟩;exact y.next m4 fun x B e=>by have:=i x e;have:=(o.trans j).size;omega
end Go.Proofs.YtmdhibffnkhcnaaGreatDoor
namespace Go.Proofs.YtmdhibffnkhcnaaGreatDoor
open Go
def bump:List Spn->List Spn
 |[]=>[]
 |[s]=>[⟨s.n+1,s.id⟩]
 |s::t=>s::bump t
def Et(id:Int)(s:List Spn×Option Int)(r:Int):List Spn×Option Int:=
 (if r=10 then s.1++[⟨1,0⟩] else match s.2 with
  |some q=>if q=10 then s.1++[⟨1,id⟩] else bump s.1
  | none=>s.1++[⟨1,id⟩],some r)
def rowOf(id:Int)(rs:List Int):List Spn×Option Int:=rs.foldl (Et id) ([],none)
def FM(id:Int)(r:Int):Int:=if r=10 then 0 else id
theorem OZ(l:List Spn)(s:Spn):bump (l++[s])=l++[⟨s.n+1,s.id⟩]:=by
 induction l with
 |nil=>rfl
 |cons x l i=>
  cases l with
  |nil=>rfl
  |cons y l=>rw[List.cons_append,List.cons_append,bump,<-List.cons_append,i];rfl;simp
theorem IB(id:Int)(rs:List Int)(r:Int):rowOf id (rs++[r])=Et id (rowOf id rs) r:=by simp[rowOf]
theorem Ky(id:Int)(rs:List Int):(rowOf id rs).2=rs.getLast?:=by
 rcases List.eq_nil_or_concat rs with rfl|⟨o,y,rfl⟩
 .rfl
 .rw[List.concat_eq_append,IB];simp[Et]
theorem K2(id:Int)(rs:List Int):(rowOf id rs).1.flatMap Spn.u=rs.map (FM id)/\(∀s∈(rowOf id rs).1,0<s.n)/\(∀q,rs.getLast?=some q->∃l n,(rowOf id rs).1=l++[⟨n,FM id q⟩]/\0<n)/\(rs=[]->(rowOf id rs).1=[])/\(rowOf id rs).1.length<=rs.length:=by
 have key:∀(n:Nat) (rs:List Int),rs.length=n->(rowOf id rs).1.flatMap Spn.u=rs.map (FM id)/\(∀s∈(rowOf id rs).1,0<s.n)/\(∀q,rs.getLast?=some q->∃l n,(rowOf id rs).1=l++[⟨n,FM id q⟩]/\0<n)/\(rs=[]->(rowOf id rs).1=[])/\(rowOf id rs).1.length<=rs.length:=by
  intro n;induction n with
  |zero=>
   intro rs h;obtain rfl:=List.length_eq_zero_iff.1 h;exact⟨rfl,fun s i=>(nomatch i),fun q y=>(nomatch y),fun _=>rfl,Nat.le_refl _⟩
  |succ n S=>
   intro rs h;rcases List.eq_nil_or_concat rs with rfl|⟨o,r,rfl⟩
   .simp at h
   .rw[List.concat_eq_append] at h ⊢;obtain⟨h1,E,T,V,J⟩:=S o (by simpa using h);have hp:=Ky id o;have x:∀j:Int,FM id r=j->((rowOf id o).1++[(⟨1,j⟩:Spn)]).flatMap Spn.u=(o++[r]).map (FM id)/\(∀s∈(rowOf id o).1++[(⟨1,j⟩:Spn)],0<s.n)/\(∀q,(o++[r]).getLast?=some q->∃l n,(rowOf id o).1++[(⟨1,j⟩:Spn)]=l++[⟨n,FM id q⟩]/\0<n)/\(o++[r]=[]->(rowOf id o).1++[(⟨1,j⟩:Spn)]=[])/\((rowOf id o).1++[(⟨1,j⟩:Spn)]).length<=(o++[r]).length:=fun j O=>by
     refine⟨by rw[List.flatMap_append,h1];simp[Spn.u,O],fun s i=>?_,fun q y=>?_,fun e=>by simp at e,by simp;omega⟩
     .rcases List.mem_append.1 i with i|i
      .exact E s i
      .simp at i;subst i;exact Nat.one_pos
     .simp at y;subst y;exact⟨_,1,by rw[O],Nat.one_pos⟩
    rw[IB,Et];by_cases hr:r=10
    .simp only[if_pos hr];exact x 0 (by simp[FM,hr])
    .simp only[if_neg hr];rw[hp];cases U:o.getLast? with
     |none=>exact x id (by simp[FM,hr])
     |some q=>
      by_cases y:q=10
      .simp only[if_pos y];exact x id (by simp[FM,hr])
      .simp only[if_neg y];obtain⟨l,m,e,hm⟩:=T q U;have I:FM id q=id:=by simp[FM,y]
       have Q:FM id r=id:=by simp[FM,hr]
       rw[I] at e;rw[e] at h1 E J ⊢;rw[OZ];refine⟨?_,fun s i=>?_,fun X B=>?_,fun e=>by simp at e,by simp at J ⊢;omega⟩
       .rw[List.flatMap_append] at h1 ⊢;rw[List.map_append,<-h1];simp[Spn.u,Q,List.replicate_succ']
       .rcases List.mem_append.1 i with i|i
        .exact E s (by simp[i])
        .simp at i;subst i;exact Nat.succ_pos _
       .simp at B;subst B;exact⟨l,m+1,by rw[Q],Nat.succ_pos _⟩
 exact key _ rs rfl
end Go.Proofs.YtmdhibffnkhcnaaGreatDoor
namespace Go.Proofs.YtmdhibffnkhcnaaGreatDoor
open Go Go.K Proofs.Tryz
abbrev Sm(sv:Value)(most:Int)(r s p t:Nat):List Value:=[sv,.int .i64 most,.pointer (some ⟨r,0,none⟩),.pointer (some ⟨s,0,none⟩),.pointer (some ⟨p,0,none⟩),.pointer (some ⟨t,0,none⟩)]
section
variable {W:World}{b r s p t bt N:Nat}{sv:Value}{most:Int}{F:Nat->Prop}{l:List Ck}
theorem GR{i:Nat}(j:Bx W b (Sm sv most r s p t))(h:DF As.toAvT F FN W r bt l N)(o:i<=(BU l).length)(x:(BU l).length<=1099511627776) :
  AB prog 50 [.pointer (some ⟨b,0,none⟩),.int .i64 (i:Int)] (fun v' w'=>v'=.int .i64 (BQ ((BU l).take i):Int)/\Grow W w') W:=by
 apply Sp;refine AH ?_;refine Bl (j.cells 2 _ rfl) ?_;refine AA (JG h o x) ?_;rintro _ B ⟨rfl,y⟩;exact B0 (vs:=[_,_]) (by rfl) (B0 (vs:=[_,_]) (by rfl) ⟨rfl,y⟩)
theorem Ed(i:Bx W b (Sm sv most r s p t)):AB prog 41 [.pointer (some ⟨b,0,none⟩)] (fun v' w'=>v'=.bool true/\w'=W) W:=by
 apply ZH;refine⟨_,rfl,?_⟩;refine Ao ?_;refine AH ?_;refine Bl (i.cells 2 _ rfl) ?_;exact⟨_,rfl,rfl,rfl⟩
theorem TR(i:Bx W b (Sm sv most r s p t))(h:DF As.toAvT F FN W r bt l N) :
  AB prog 17 [.pointer (some ⟨b,0,none⟩)] (fun v' w'=>v'=.int .i64 ((BU l).length:Int)/\Grow W w') W:=by
 apply ZB;refine AA (Ed i) ?_;rintro _ _ ⟨rfl,rfl⟩;rename World=>W
 rw[Aq];refine AT ?_;refine AH ?_;refine Bl (i.cells 2 _ rfl) ?_;exact Uz h
theorem T7(i:Bx W b (Sm sv most r s p t))(h:DF As.toAvT F FN W r bt l N) :
  AB prog 13 [.pointer (some ⟨b,0,none⟩)] (fun v' w'=>v'=.int .i64 (BQ (BU l):Int)/\Grow W w') W:=by
 apply Zv;refine AA (Ed i) ?_;rintro _ _ ⟨rfl,rfl⟩;rename World=>W
 rw[Aq];refine AT ?_;refine AH ?_;refine Bl (i.cells 2 _ rfl) ?_;exact Jm h
theorem OP{k:Nat}(i:Bx W b (Sm sv most r s p t))(h:DF As.toAvT F FN W r bt l N)(j:(BU l).length<=1099511627776) :
  AB prog 14 [.pointer (some ⟨b,0,none⟩),.int .i64 (k:Int)] (fun v' w'=>v'=IF (BU l) k/\Grow W w') W:=by
 apply Zr;refine AA (Ed i) ?_;rintro _ _ ⟨rfl,rfl⟩;rename World=>W
 rw[Aq];refine AT ?_;refine AH ?_;refine Bl (i.cells 2 _ rfl) ?_;have e:∃x y,IF (BU l) k=.tuple #[x,y]:=by
  unfold IF;split
  .exact⟨_,_,rfl⟩
  .split
   .exact⟨_,_,rfl⟩
   .rename_i h1 E;obtain⟨q,o,_⟩:=Mg (l:=BU l) (k:=k-1) (by omega);rw[o];exact⟨_,_,rfl⟩
 obtain⟨x,y,e⟩:=e;refine AA (Jp h j) ?_;rintro v I ⟨rfl,B⟩;rw[e];exact B0 (vs:=[_,_]) (by rfl) (B0 (vs:=[_,_]) (by rfl) ⟨rfl,B⟩)
end
theorem UH{S D:Nat->Prop}{W:World}{v T:Value}{rs:List Int}{bl:List Attr}{id:Int}{Kend:List Value->World->Prop}(hv:BJ S 1 CI W v rs)(hb:Cu D W T bl)(hl:rs.length<=1099511627)
 (hK:∀U O w',AF W.heap.size 108 2 DT w' U (rowOf id rs).1->AF W.heap.size 43 1 (CY fun x=>D x/\x<W.heap.size) w' O (List.replicate (BQ rs) bl)->(∀g,U.ownBlock=some g->O.ownBlock≠some g)->Grow W w'->Kend [U,O,.int .i64 (rs.length:Int)] w') :
  Ay [(.slice none 0 0),(.slice none 0 0),(.int .i64 0)] (fun vs al w5=>∀_:Env,
   Bc .i64 (nth vs 2) (.int .i64 (rs.length:Int)) fun c6=>
   AD c6
   (Au (fun a7 w6=>∀_:Env,
   AX .i64 (nth vs 2) (.int .i64 1) fun c7=>
   al [(nth a7 0),(nth a7 1),c7] w6) (fun J=>
   Be 1 v (nth vs 2) fun c8=>
   AK c8 (fun c9 w7=>
   DI .i32 c9 (.int .i32 10) fun ca=>
   AD ca
   (Af [(0,1),(1,1)] [(.int .i64 0),(.int .i64 0)] [(0,(.int .i64 1))] fun t46=>
   Bh 108 2 1 [(.int .i64 0),(.int .i64 0)] [(0,t46)] (fun an w8=>
   runK prog (Builtin.append_ #[101,101] 101 [(nth vs 0),an].toArray) (fun cc w9=>
   Bh 43 1 1 [(.slice none 0 0)] [(0,T)] (fun cd ch=>
   runK prog (Builtin.append_ #[50,50] 50 [(nth vs 1),cd].toArray) (fun cn cx=>
   J [cc,cn] cx) ch) w9) w8) w7)
   (Al (nth vs 0) fun dk=>
   BX .i64 dk (.int .i64 1) fun t55=>
   LB .i64 t55 (.int .i64 0) fun du=>
   AD du
   (BX .i64 (nth vs 2) (.int .i64 1) fun dv=>
   Be 1 v dv fun dw=>
   AK dw (fun dx b9=>
   Dm .i32 dx (.int .i32 10) fun dy=>
   AD dy
   (Be 2 (nth vs 0) t55 fun dz=>
   AM 0 dz fun dT=>
   AK dT (fun t70 e1=>
   AX .i64 t70 (.int .i64 1) fun e2=>
   Be 2 (nth vs 0) t55 fun e3=>
   AM 0 e3 fun e4=>
   BC e4 e2 (fun e5=>
   J [(nth vs 0),(nth vs 1)] e5) e1) b9)
   (Af [(0,1),(1,1)] [(.int .i64 0),(.int .i64 0)] [(0,(.int .i64 1)),(1,.int .i64 id)] fun t76=>
   Bh 108 2 1 [(.int .i64 0),(.int .i64 0)] [(0,t76)] (fun t77 av=>
   runK prog (Builtin.append_ #[101,101] 101 [(nth vs 0),t77].toArray) (fun ax ay=>
   J [ax,(nth vs 1)] ay) av) b9)) w7)
   (Af [(0,1),(1,1)] [(.int .i64 0),(.int .i64 0)] [(0,(.int .i64 1)),(1,.int .i64 id)] fun b0=>
   Bh 108 2 1 [(.int .i64 0),(.int .i64 0)] [(0,b0)] (fun b1 e6=>
   runK prog (Builtin.append_ #[101,101] 101 [(nth vs 0),b1].toArray) (fun b2 e7=>
   J [b2,(nth vs 1)] e7) e6) w7))) w5))
   (Kend vs w5)) W:=by
 obtain⟨a,c,rfl,_⟩:=hv.shape;have e8:=hv.HH (by decide);have e9:CY (fun x=>D x/\x<W.heap.size) W [T] bl:=⟨_,rfl,hb.mono (fun x hx h=>⟨h,hx⟩) (fun _ _ _=>rfl) (by decide) fun _ _ h=>h⟩;have Fy:∀{M:Nat->Prop} {w2 w3:World} {r:List Value} {x:List Attr},Mod M w2 w3->(∀b,b<W.heap.size->¬M b)->CY (fun b=>D b/\b<W.heap.size) w2 r x->CY (fun b=>D b/\b<W.heap.size) w3 r x:=fun hm hn hy=>A6.BR hy hm fun b _ hd=>hn b hd.2
 let St:List Int->Value->Value->World->Prop:=fun q U O W'=>AF W.heap.size 108 2 DT W' U (rowOf id q).1/\AF W.heap.size 43 1 (CY fun x=>D x/\x<W.heap.size) W' O (List.replicate (BQ q) bl)/\(∀g,U.ownBlock=some g->O.ownBlock≠some g)/\Grow W W'
 have ea:St (rs.take 0) (.slice none 0 0) (.slice none 0 0) W:=And.intro AF.nil (And.intro AF.nil (And.intro (fun g Q=>by simp[Value.ownBlock] at Q) (Mod.refl _ _)));refine Ae (fun vs W'=>∃(i:Nat) (U O:Value),i<=rs.length/\vs=[U,O,.int .i64 i]/\St (rs.take i) U O W') (fun vs _=>rs.length-ED vs 2) ⟨0,_,_,Nat.zero_le _,rfl,ea⟩ ?_;rintro vs W1 ⟨i,U,O,hi,rfl,o1,o2,V,g1⟩ _;simp only[Fx];have z1:=g1.size;refine HU (fun ei=>?_) fun ej=>?_
 .have X:i<rs.length:=by omega
  have ba:rs.take (i+1)=rs.take i++[rs[i]]:=by rw[List.take_add_one];simp[X]
  have bc:=(K2 id (rs.take i)).2.2.2.2;rw[List.length_take] at bc;have ec:=Cz (rs.take i);rw[List.length_take] at ec;have push:∀{Y:World} {j:Int} {K:Value->World->Prop},Grow W1 Y->(∀o W3,AF W.heap.size 108 2 DT W3 o ((rowOf id (rs.take i)).1++[⟨1,j⟩])->AF W.heap.size 43 1 (CY fun x=>D x/\x<W.heap.size) W3 O (List.replicate (BQ (rs.take i)) bl)->(∀g,o.ownBlock=some g->O.ownBlock≠some g)->Grow W W3->K o W3)->
    Bh 108 2 1 [(.int .i64 0),(.int .i64 0)] [(0,.agg (Spn.cells ⟨1,j⟩).toArray)] (fun an w8=>runK prog (Builtin.append_ #[101,101] 101 [U,an].toArray) K w8) Y:=fun{Y j K} g2 hk=>by
   have z2:=g2.size;have q1:AF W.heap.size 108 2 DT Y U (rowOf id (rs.take i)).1:=AF.mod o1 g2 (fun _ _ h=>h) fun _ _ _ h=>h;have q2:AF W.heap.size 43 1 (CY fun x=>D x/\x<W.heap.size) Y O (List.replicate (BQ (rs.take i)) bl):=AF.mod o2 g2 (fun _ _ h=>h) fun _ _ _ h=>Fy g2 (fun _ _ h=>h) h;have bd:=AF.BL q1;have bk:=AF.BL q2;refine DO Cl.elE q1 (by omega) (cs:=Spn.cells ⟨1,j⟩) (x:=(⟨1,j⟩:Spn)) (DP (v:=.agg (Spn.cells ⟨1,j⟩).toArray) rfl (by decide) rfl rfl) rfl rfl (fun _ _ _ h=>by have h':=h;subst h';exact Spn.one _) (fun _ _ _ _ _ _ h=>h) (by show _*16<=_;omega) (by simp only[maxLen];omega) fun o W3 o3 m3 n3=>?_;refine hk o W3 o3 (AF.mod q2 m3 (fun g Q e=>V g e Q) fun _ _ _ h=>Fy m3 (fun b hb e=>by have:=(bd b e).1;omega) h) (fun g Q e=>?_) ((g1.trans g2).next m3 fun b hb e=>by have:=(bd b e).1;omega);rcases n3 g Q with h|h
   .exact V g h e
   .have:=(bk g e).2;omega
  refine AW (fun vs W'=>∃o I,vs=[o,I]/\St (rs.take (i+1)) o I W') ?_ ?_
  .rintro _ Y ⟨o,I,rfl,s1,s2,s3,s4⟩ _;simp only[Fx];rw[AR,AQ (by omega)];exact⟨⟨i+1,o,I,X,rfl,s1,s2,s3,s4⟩,by show rs.length-ED [o,I,_] 2<rs.length-ED [U,O,_] 2;simp only[ED,Uh,CN,List.headD_cons,List.tail_cons];omega⟩
  have rd:∀{Y:World} {q:Nat} {K:Value->World->Prop} (hq:q<rs.length),Grow W Y->K (.int .i32 rs[q]) Y->Be 1 (.slice a rs.length c) (.int .i64 (q:Int)) (fun t=>AK t K Y):=fun{Y q K} hq g hk=>by
   obtain⟨p,r,rfl,_,hr,hc,rfl⟩:=e8.get hq;exact AZ hq (AL (by have:=hc 0 _ rfl;exact g.cell this fun h=>h) hk)
  refine rd X g1 ?_;rw[Am];have b3:BQ (rs.take (i+1))=BQ (rs.take i)+(if rs[i]=10 then 1 else 0):=by
   rw[ba,EZ];by_cases e:rs[i]=(10:Int)<;>simp[BQ,e]
  have b4:(rowOf id (rs.take (i+1))).1=(Et id (rowOf id (rs.take i)) rs[i]).1:=by rw[ba,IB]
  have b5:=Ky id (rs.take i);have inl:(Et id (rowOf id (rs.take i)) rs[i]).1=(rowOf id (rs.take i)).1++[⟨1,id⟩]->¬rs[i]=10->
    Af [(0,1),(1,1)] [(.int .i64 0),(.int .i64 0)] [(0,(.int .i64 1)),(1,.int .i64 id)] (fun t76=>
     Bh 108 2 1 [(.int .i64 0),(.int .i64 0)] [(0,t76)] (fun t77 av=>
     runK prog (Builtin.append_ #[101,101] 101 [U,t77].toArray) (fun ax ay=>
     (fun vs W'=>∃ o I,vs=[o,I]/\St (rs.take (i+1)) o I W') [ax,O] ay) av) W1):=fun e Z=>by
   refine⟨(Spn.cells ⟨1,id⟩).toArray,by kernel_rfl,?_⟩;refine push (j:=id) (Mod.refl _ _) fun o W3 s1 s2 s3 s4=>⟨o,O,rfl,by rw[b4,e];exact s1,by rw[b3,if_neg Z,Nat.add_zero];exact s2,s3,s4⟩
  refine AE (fun Z=>?_) fun Z=>?_
  .have B:rs[i]=(10:Int):=Z;refine⟨(Spn.cells ⟨1,0⟩).toArray,by kernel_rfl,?_⟩;refine push (j:=0) (Mod.refl _ _) fun o W3 s1 s2 s3 s4=>?_;have zs:=s4.size;have a8:=AF.BL s2;have bp:=AF.BL s1;have bs:T.cells=[T].toArray:=by
    obtain⟨a,c,e,_⟩:=hb.shape;rw[e];rfl
   refine DO A6.elE s2 (by omega) (cs:=[T]) (x:=bl) (DP (v:=T) rfl (by decide) bs rfl) rfl (Fy s4 (fun _ _ h=>h) e9) (fun _ _ _ h=>A6.rone h) (fun w2 w3 r y ek hm hy=>Fy hm (fun b hb e=>by
    rcases e with e|e
    .have:=(a8 b e).1;omega
    .omega) hy) (by rw [List.length_replicate];show _ * 24<=_;omega) (by rw [List.length_replicate];simp only [maxLen];omega) fun I W4 o4 m4 n4=>?_
   refine⟨o,I,rfl,?_,?_,fun g Q e=>?_,s4.next m4 fun b hb e=>by have:=(a8 b e).1;omega⟩
   .rw[b4,Et,if_pos B];exact AF.mod s1 m4 (fun g Q e=>s3 g Q e) fun _ _ _ h=>h
   .rw[b3,if_pos B,List.replicate_succ'];exact o4
   .rcases n4 g e with h|h
    .exact s3 g Q h
    .have:=(bp g Q).2;omega
  .have B:¬rs[i]=(10:Int):=Z;obtain⟨ra,rc,ed,en,_,eo,ep⟩:=AF.shape o1;subst ed;rw[AS,Av,wrap64 (by omega) (by omega),Dl];have E:(Et id (rowOf id (rs.take i)) rs[i]).1=match (rs.take i).getLast? with
     |some q=>if q=10 then(rowOf id (rs.take i)).1++[⟨1,id⟩] else bump (rowOf id (rs.take i)).1
     |none=>(rowOf id (rs.take i)).1++[⟨1,id⟩]:=by rw[Et,if_neg B,b5];first | done | (cases(rs.take i).getLast?<;>rfl)
   obtain⟨f1,f2,f3,f4,f5⟩:=K2 id (rs.take i);refine AE (fun ak=>?_) fun eg=>?_
   .have er:0<i:=by
     rcases Nat.eq_zero_or_pos i with e|e
     .subst e;rw[f4 (by simp)] at ak;simp at ak
     .exact e
    have a1:(rs.take i).getLast?=some rs[i-1]:=by
     rw[List.getLast?_take,if_neg (by omega),List.getElem?_eq_getElem (by omega)];rfl
    rw[a1] at E;simp only at E;rw[Av,wrap64 (by omega) (by omega),show((i:Int)-1)=((i-1:Nat):Int) by omega];refine rd (by omega) g1 ?_;rw[Br];refine Ab (fun e=>?_) fun e=>?_
    .exact inl (by rw[E,if_pos e]) B
    .obtain⟨L,n,eL,et⟩:=f3 _ a1;have hq:FM id rs[i-1]=id:=by simp only[FM];exact if_neg e
     rw[hq] at eL;have eu:n<=i:=by
      have:=congrArg List.length f1;rw[eL] at this;simp[Spn.u] at this;omega
     have b6:(rowOf id (rs.take i)).1.length=L.length+1:=by rw[eL];simp
     have a6:=o1;rw[b6] at a6 ⊢;rw[eL] at a6;have ee:=AF.sl a6;rw[show((L.length+1:Nat):Int)-1=((L.length:Nat):Int) by omega];obtain⟨p,r,rfl,b7,hr,hc,ef⟩:=ee.get (i:=L.length) (by simp);have bx:r=Spn.cells ⟨n,id⟩:=by have h':r=_:=ef;rw[h'];simp
     subst bx;refine AZ (by omega) ?_;rw[AG,Addr.add_add];refine AL (v:=.int .i64 (n:Int)) (hc 0 _ rfl) ?_;rw[AR,wrap64 (by omega) (by omega)];refine AZ (by omega) ?_;rw[AG,Addr.add_add];refine ME (k:=2) (i:=L.length) (j:=0) (x':=(⟨n+1,id⟩:Spn)) a6 (by simp) (by decide) rfl rfl (fun _ _ _ _ h=>h) (fun _ _ r hr=>?_) fun W' o' m'=>?_
     .have h':r=_:=hr;rw[h'];simp[Spn.cells,DT]
     .have eh:(Value.slice (some p) (L.length+1) rc).ownBlock=some p.block->W.heap.size<=p.block:=fun e=>(AF.BL a6 _ e).1;have c4:(L++[(⟨n,id⟩:Spn)]).set L.length ⟨n+1,id⟩=L++[⟨n+1,id⟩]:=by simp
      rw[c4] at o';refine⟨_,_,rfl,?_,?_,fun g Q=>V g ?_,?_⟩
      .rw[b4,E,if_neg e,eL,OZ];exact o'
      .rw[b3,if_neg B,Nat.add_zero];exact AF.mod o2 m' (fun g Q e=>V g (by rw[b6,e];exact b7.2) Q) fun _ _ _ h=>Fy m' (fun b hb e=>by have:=b7.1;omega) h
      .rw[b6];exact Q
      .exact g1.next m' fun b hb e=>by have:=b7.1;omega
   .have hz:(rowOf id (rs.take i)).1.length=0:=by omega
    have b8:(rs.take i).getLast?=none:=by
     cases Q:(rs.take i).getLast? with
     |none=>rfl
     |some q=>
      obtain⟨L,n,eL,_⟩:=f3 q Q;rw[eL] at hz;simp at hz
    exact inl (by rw[E,b8]) B
 .obtain rfl:i=rs.length:=by omega
  rw[List.take_length] at o1 o2;exact hK U O W1 o1 o2 V g1
end Go.Proofs.YtmdhibffnkhcnaaGreatDoor
namespace Go.K
open Go MapKept
def HM(d:TypeDesc)(w:World)(b:Nat)(f:Value->Option Value):Prop:=
 ∃j i,w.heap[b]?=some (.map j i)/\(∀x∈j.toList,IsKey d x.key)/\j.toList.Pairwise (fun x y=>x.key≠y.key)/\∀k v,IsKey d k->(f k=some v↔∃x∈j.toList,x.key=k/\x.val=v)
theorem HM.lt{d:TypeDesc}{w:World}{b:Nat}{f:Value->Option Value}(h:HM d w b f):b<w.heap.size:=by
 obtain⟨i,c,hb,_⟩:=h;exact(Array.getElem?_eq_some_iff.1 hb).1
theorem HM.mod{d:TypeDesc}{M:Nat->Prop}{w w':World}{b:Nat}{f:Value->Option Value}(h:HM d w b f)(hm:Mod M w w')(hb:¬M b):HM d w' b f:=by
 have hl:=h.lt;obtain⟨i,c,h1,j⟩:=h;exact⟨i,c,(hm.same b hl hb).trans h1,j⟩
theorem HM.make(d:TypeDesc)(w:World):HM d (w.alloc (.map #[] 0)) w.heap.size (fun _=>none):=
 ⟨#[],0,(heap_alloc w _).1,by simp,by simp,fun k v _=>by simp⟩
theorem Om{P:Program}{d:TypeDesc}{t kt et:TypeId}{z:Value}{w:World}{b:Nat}{f:Value->Option Value}{k:Value}(ht:P.underlying t=some (.map kt et))(hk:P.underlying kt=some d)(i:IsKey d k)(I:(zeroValue et).run P w=.ok z w)(h:HM d w b f) :
  (Instr.lookup t (.map (some b)) k true).run P w=.ok (.tuple #[(f k).getD z,.bool (f k).isSome]) w:=by
 obtain⟨J,o,hb,y,hp,E⟩:=h;have hc:=fun em=>MapKept.run_checkKey (w:=w) hk i em 9999;rcases findNow_spec i J.toList 0 y with⟨h1,B⟩|⟨j,e,h1,B,O⟩
 .have h0:f k=none:=by
   cases Q:f k with
   |none=>rfl
   |some v=>obtain⟨x,S,e,_⟩:=(E k v i).1 Q;exact absurd e (B x S)
  simp[Instr.lookup,run_underlying ht,MapKept.run_getObj_map hb,hc,MapKept.run_findKey hk h1,I,Result.andThen,h0]
 .have h0:f k=some e.val:=(E k e.val i).2 ⟨e,List.mem_of_getElem? B,O,rfl⟩;simp[Instr.lookup,run_underlying ht,MapKept.run_getObj_map hb,hc,MapKept.run_findKey hk h1,Result.andThen,h0]
open Classical in
theorem OE{P:Program}{d:TypeDesc}{t kt et:TypeId}{w:World}{b:Nat}{f:Value->Option Value}{k v:Value}(ht:P.underlying t=some (.map kt et))(hk:P.underlying kt=some d)(O:IsKey d k)(h:HM d w b f)(T:f k=none) :
  ∃w',(Instr.mapUpdate t (.map (some b)) k v).run P w=.ok () w'/\HM d w' b (fun E=>if E=k then some v else f E)/\Mod (fun x=>x=b) w w':=by
 obtain⟨U,o,hb,I,hp,V⟩:=h;have hc:=fun em=>MapKept.run_checkKey (w:=w) hk O em 9999;rcases findNow_spec O U.toList 0 I with⟨h1,Q⟩|⟨j,e,h1,Q,Y⟩
 .refine⟨{ w with heap:=w.heap.setIfInBounds b (.map (U.push ⟨k,v,o⟩) (o+1)) },by simp[Instr.mapUpdate,run_underlying ht,MapKept.run_getObj_map hb,hc,MapKept.run_findKey hk h1,MapKept.run_setObj_map _ hb,Result.andThen],⟨_,_,(heap_set hb).1,?_,?_,?_⟩,⟨rfl,rfl,rfl,by simp,fun x _ i=>(heap_set hb).2 x i⟩⟩
  .intro x i;simp only[Array.toList_push,List.mem_append,List.mem_singleton] at i;rcases i with i|rfl
   .exact I x i
   .exact O
  .rw[Array.toList_push,List.pairwise_append];exact⟨hp,by simp,fun x i y X=>by simp at X;subst X;exact Q x i⟩
  .intro E v' S;simp only[Array.toList_push,List.mem_append,List.mem_singleton];by_cases e:E=k
   .subst e;rw[if_pos rfl];constructor
    .intro e;cases e;exact⟨_,.inr rfl,rfl,rfl⟩
    .rintro⟨x,i|rfl,B,J⟩
     .exact absurd B (Q x i)
     .rw[<-J]
   .rw[if_neg e,V E v' S];constructor
    .rintro⟨x,i,B,J⟩;exact⟨x,.inl i,B,J⟩
    .rintro⟨x,i|rfl,B,J⟩
     .exact⟨x,i,B,J⟩
     .exact absurd B.symm e
 .rw[(V k e.val O).2 ⟨e,List.mem_of_getElem? Q,Y,rfl⟩] at T;cases T
theorem JO{α:Type}{l:List α}{j:Nat}{x:α}:x∈l.eraseIdx j↔∃i,i≠j/\l[i]?=some x:=by
 rw[List.mem_eraseIdx_iff_getElem?]
open Classical in
theorem O7{P:Program}{d:TypeDesc}{t kt et ty:TypeId}{w:World}{b:Nat}{f:Value->Option Value}{k:Value}(ht:P.underlying t=some (.map kt et))(hk:P.underlying kt=some d)(hi:IsKey d k)(h:HM d w b f) :
  ∃w',(Builtin.delete_ #[t,kt] ty #[.map (some b),k]).run P w=.ok (.tuple #[]) w'/\HM d w' b (fun y=>if y=k then none else f y)/\Mod (fun x=>x=b) w w':=by
 obtain⟨I,B,hb,Q,hp,hf⟩:=h;have hc:=fun em=>MapKept.run_checkKey (w:=w) hk hi em 9999;rcases findNow_spec hi I.toList 0 Q with⟨h1,V⟩|⟨j,e,h1,V,h3⟩
 .refine⟨{ w with heap:=w.heap.setIfInBounds b (.map I B) },by simp[Builtin.delete_,run_underlying ht,MapKept.run_getObj_map hb,hc,MapKept.run_findKey hk h1,MapKept.run_setObj_map _ hb,Result.andThen],⟨_,_,(heap_set hb).1,Q,hp,?_⟩,⟨rfl,rfl,rfl,by simp,fun x _ o=>(heap_set hb).2 x o⟩⟩;intro y v' S;show(if y=k then none else f y)=some v'↔_;by_cases e:y=k
  .subst e;rw[if_pos rfl];exact⟨fun h=>(by cases h),fun⟨x,o,J,_⟩=>absurd J (V x o)⟩
  .rw[if_neg e];exact hf y v' S
 .have hj:j<I.size:=by have:=(List.getElem?_eq_some_iff.1 V).1;simpa using this
  have X:(I.eraseIdxIfInBounds (0+j)).toList=I.toList.eraseIdx j:=by
   unfold Array.eraseIdxIfInBounds;rw[dif_pos (by omega)];simp
  have O:(I.eraseIdxIfInBounds (0+j)).toList.Sublist I.toList:=by rw[X];exact List.eraseIdx_sublist _ _
  have E:∀x,x∈(I.eraseIdxIfInBounds (0+j)).toList↔x∈I.toList/\x.key≠k:=by
   intro x;rw[X,JO];constructor
   .rintro⟨i,a1,o⟩;refine⟨List.mem_of_getElem? o,fun e'=>?_⟩;have Y:=(List.getElem?_eq_some_iff.1 o).1;have Z:=(List.getElem?_eq_some_iff.1 V).1;have pw:=List.pairwise_iff_getElem.1 hp;have ex:=(List.getElem?_eq_some_iff.1 o).2;have ee:=(List.getElem?_eq_some_iff.1 V).2;rcases Nat.lt_or_gt_of_ne a1 with T|T
    .exact pw i j Y Z T (by rw[ex,ee,e',h3])
    .exact pw j i Z Y T (by rw[ex,ee,e',h3])
   .rintro⟨o,a6⟩;obtain⟨i,U⟩:=List.mem_iff_getElem?.1 o;exact⟨i,fun e'=>a6 (by subst e';rw[V] at U;cases U;exact h3),U⟩
  refine⟨{ w with heap:=w.heap.setIfInBounds b (.map (I.eraseIdxIfInBounds (0+j)) B) },by simp[Builtin.delete_,run_underlying ht,MapKept.run_getObj_map hb,hc,MapKept.run_findKey hk h1,MapKept.run_setObj_map _ hb,Result.andThen],⟨_,_,(heap_set hb).1,fun x o=>Q x (O.subset o),hp.sublist O,?_⟩,⟨rfl,rfl,rfl,by simp,fun x _ o=>(heap_set hb).2 x o⟩⟩;intro y v' S;show(if y=k then none else f y)=some v'↔_;by_cases e':y=k
  .subst e';rw[if_pos rfl];exact⟨fun h=>(by cases h),fun⟨x,o,J,_⟩=>absurd J ((E x).1 o).2⟩
  .rw[if_neg e',hf y v' S];exact⟨fun⟨x,o,J,e2⟩=>⟨x,(E x).2 ⟨o,fun e3=>e' (J.symm.trans e3)⟩,J,e2⟩,fun⟨x,o,J,e2⟩=>⟨x,((E x).1 o).1,J,e2⟩⟩
end Go.K
namespace Go.Proofs.YtmdhibffnkhcnaaGreatDoor
open Go Go.K Proofs.Tryz
variable {v0 v1 v2 v3 v4 v5 v6 v7 v8 v9:Value}{K:Cont}{w:World}
theorem Zp(h: runK prog (Instr.makeMap 143 none) (fun t4 i=>
 Af [(0,1),(1,1),(2,1),(3,1),(4,1)] [(.pointer none),(.slice none 0 0),(.slice none 0 0),(.map none),(.int .i64 0)] [(0,v0),(3,t4)] fun t5=>
 Ba 147 t5 (fun j w2=>
 K j w2) i) w):AB prog 39 [v0] K w:=cO (aN aE) func39 h (by kernel_rfl)
theorem Wb(h: CX v0 fun j=>
 AD (.bool (!j))
 (AJ v0 fun o=>
 AM 3 o fun x=>
 AK x (fun t9 y=>
 runK prog (BZ .neq 143 (.tmp 9) (.const (.map none)) t9 (.map none)) (fun i w2=>
 K i w2) y) w)
 (K (.bool false) w)):AB prog 124 [v0] K w:=cO (aN aE) func124 h (by kernel_rfl)
theorem Xv(h: Al v0 fun t7=>
 Ay [(.slice none 0 0),(.int .i64 0)] (fun vs i w1=>∀_:Env,
 Bc .i64 (nth vs 1) t7 fun t9=>
 AD t9
 (Be 5 v0 (nth vs 1) fun j=>
 Ac 5 j (fun o w2=>
 An 79 [(.int .i64 0),(.int .u8 0),(.int .i64 0),(.int .u64 0),(.string (ByteArray.mk #[]))] (fun t5 w3=>
 AY 5 t5 o (fun w4=>
 AM 0 t5 fun x=>
 AK x (fun y w5=>
 AB prog 210 [(nth vs 0),y] (fun B w6=>
 AM 1 t5 fun E=>
 AM 0 E fun I=>
 AK I (fun J w7=>
 runK prog (convert 5 75 J) (fun O w8=>
 AB prog 211 [B,O] (fun Q w9=>
 AM 1 t5 fun S=>
 AM 1 S fun T=>
 AK T (fun t25 U=>
 AB prog 210 [Q,t25] (fun V X=>
 AM 1 t5 fun Y=>
 AM 2 Y fun Z=>
 AK Z (fun a1 a6=>
 AB prog 211 [V,a1] (fun a7 a8=>
 AM 1 t5 fun ak=>
 AM 3 ak fun al=>
 AK al (fun an av=>
 runK prog (convert 9 293 an) (fun ax ay=>
 AB prog 212 [a7,ax] (fun b0 b1=>
 AX .i64 (nth vs 1) (.int .i64 1) fun b2=>
 i [b0,b2] b1) ay) av) a8) a6) X) U) w9) w8) w7) w6) w5) w4) w3) w2) w1)
 (runK prog (convert 293 9 (nth vs 0)) (fun b3 b4=>
 K b3 b4) w1)) w):AB prog 143 [v0] K w:=cO (aN (aN (aO (aN (.node [3,8] [(3,3),(5,5),(8,38)] (aN (aO aE (aO (aN (aN (aN (aN aE)))) .nil))) .nil)) aE))) func143 h (by kernel_rfl)
theorem Za(h: AB prog 124 [v0] (fun I w1=>
 Bt I fun O=>
 AD O
 (K (.tuple #[(.int .i64 0),(.int .i64 1)]) w1)
 (AJ v0 fun Q=>
 AM 0 Q fun S=>
 AK S (fun T w2=>
 AB prog 142 [T,v1] (fun o U=>
 Dm .i64 o (.int .i64 0) fun V=>
 AD V
 (K (.tuple #[(.int .i64 0),o]) U)
 (Al v1 fun X=>
 DI .i64 X (.int .i64 0) fun Y=>
 AD Y
 (AJ v0 fun Z=>
 AM 4 Z fun a1=>
 AK a1 (fun a6 w4=>
 AX .i64 a6 (.int .i64 1) fun a7=>
 AJ v0 fun a8=>
 AM 4 a8 fun ak=>
 BC ak a7 (fun w5=>
 K (.tuple #[(.int .i64 0),(.int .i64 0)]) w5) w4) U)
 (AB prog 143 [v1] (fun x w6=>
 AJ v0 fun al=>
 AM 3 al fun an=>
 AK an (fun av w7=>
 runK prog (Instr.lookup 143 av x true) (fun y w8=>
 AO 0 y fun ax=>
 AO 1 y fun ay=>
 Au (fun vs w9=>∀_:Env,
 AJ v0 fun b0=>
 AM 1 b0 fun b1=>
 AK b1 (fun t66 b2=>
 BX .i64 (nth vs 0) (.int .i64 1) fun B=>
 Be 2 t66 B fun b3=>
 AM 1 b3 fun t70=>
 AK t70 (fun b4 b5=>
 AX .i64 b4 (.int .i64 1) fun b6=>
 Be 2 t66 B fun b7=>
 AM 1 b7 fun b8=>
 BC b8 b6 (fun b9=>
 K (.tuple #[(nth vs 0),(.int .i64 0)]) b9) b5) b2) w9) (fun J=>
 Bt ay fun ba=>
 AD ba
 (AB prog 144 [v0] (fun t46 i=>
 Az [7,10] [[],[0],[0,1],[0,1,2],[],[4],[],[6],[0,1,2,3,4,5,6,7],[0,1,2,3,4,5,6,7,8],[0,1,2,3,4,5,6,7,8,9]] i.drew (fun M St=>
 AJ v0 fun bc=>
 AM 1 bc fun bd=>
 BD (St 3) bd fun t50=>
 BX .i64 t46 (.int .i64 1) fun bk=>
 AB prog 52 [v1] (fun bl j=>
 Mod (M 7) i.drew j/\
 Be 2 t50 bk fun t55=>
 AM 0 t55 fun bp=>
 BC bp bl (fun E=>
 Mod (M 10) j E/\
 AJ v0 fun bs=>
 AM 3 bs fun bx=>
 AK bx (fun c4 c6=>
 runK prog (do Instr.mapUpdate 143 c4 x t46;pure undef) (fun _u c7=>
 J [t46] c7) c6) E) j) i.drew)) w8)
 (J [ax] w8))) w7) w6) U))) w2) w1)) w):AB prog 74 [v0,v1] K w:=cO (aN (aO (aN (aO aE .nil)) (aO (aN (aN (aO aE .nil))) (aO (aN (aO (aN aE) .nil)) (aN (aN (.cut [8] [(8,8),(43,62)] (aN (aO (aN (aO (.dc [7,10] [[],[0],[0,1],[0,1,2],[],[4],[],[6],(aR 8),(aR 9),(aR 10)] [[7]]) .nil)) .nil)) (aN aE)))))))) func74 h (by kernel_rfl)
theorem Wq(h: AJ v0 fun t6=>
 AM 2 t6 fun t7=>
 AK t7 (fun t8 w1=>
 Al t8 fun t9=>
 BX .i64 t9 (.int .i64 1) fun i=>
 LB .i64 i (.int .i64 0) fun j=>
 AD j
 (AJ v0 fun o=>
 AM 2 o fun x=>
 AK x (fun y w2=>
 Be 1 y i fun B=>
 AK B (fun E w3=>
 AJ v0 fun t22=>
 AM 2 t22 fun I=>
 AK I (fun J w4=>
 runK prog (Instr.sliceAt 145 J none (some i) none) (fun O w5=>
 AJ v0 fun Q=>
 AM 2 Q fun S=>
 BC S O (fun w6=>
 AX .i64 E (.int .i64 1) fun T=>
 K T w6) w5) w4) w3) w2) w1)
 (AJ v0 fun U=>
 AM 1 U fun V=>
 AK V (fun X w7=>
 Af [(0,1),(1,1)] [(.slice none 0 0),(.int .i64 0)] [] fun Y=>
 Bh 181 2 1 [(.slice none 0 0),(.int .i64 0)] [(0,Y)] (fun Z w8=>
 runK prog (Builtin.append_ #[144,144] 144 [X,Z].toArray) (fun a1 w9=>
 AJ v0 fun t39=>
 AM 1 t39 fun a6=>
 BC a6 a1 (fun a7=>
 AJ v0 fun a8=>
 AM 1 a8 fun ak=>
 AK ak (fun al an=>
 Al al fun t45=>
 K t45 an) a7) w9) w8) w7) w1)) w):AB prog 144 [v0] K w:=cO (aN (aO (aN (aN (aO (aN (aN aE)) .nil))) (aN aE))) func144 h (by kernel_rfl)
theorem X6(h: An 181 [(.slice none 0 0),(.int .i64 0)] (fun t4 w1=>
 Au (fun _vs w2=>∀_:Env,
 AJ v0 fun t45=>
 AM 1 t45 fun t46=>
 AK t46 (fun S w3=>
 BX .i64 v1 (.int .i64 1) fun T=>
 Be 2 S T fun t50=>
 Ac 2 t50 (fun U w4=>
 AY 2 t4 U (fun w5=>
 Ac 2 t4 (fun r0 w6=>
 K (.tuple #[r0,(.int .i64 0)]) w6) w5) w4) w3) w2) (fun J=>
 AB prog 124 [v0] (fun t8 Q=>
 Bt t8 fun t9=>
 AD t9
 (Af [(0,1),(1,1)] [(.slice none 0 0),(.int .i64 0)] [] fun V=>
 AY 2 t4 V (fun w8=>
 Ac 2 t4 (fun o w9=>
 K (.tuple #[o,(.int .i64 1)]) w9) w8) Q)
 (DI .i64 v1 (.int .i64 0) fun X=>
 AD X
 (AJ v0 fun Y=>
 AM 4 Y fun Z=>
 AK Z (fun a1 a6=>
 Af [(0,1),(1,1)] [(.slice none 0 0),(.int .i64 0)] [(1,a1)] fun a7=>
 AY 2 t4 a7 (fun a8=>
 Ac 2 t4 (fun x ak=>
 K (.tuple #[x,(.int .i64 0)]) ak) a8) a6) Q)
 (Bc .i64 v1 (.int .i64 0) fun al=>
 AD al
 (Af [(0,1),(1,1)] [(.slice none 0 0),(.int .i64 0)] [] fun an=>
 AY 2 t4 an (fun av=>
 Ac 2 t4 (fun y ax=>
 K (.tuple #[y,(.int .i64 5)]) ax) av) Q)
 (AJ v0 fun t25=>
 AM 1 t25 fun ay=>
 AK ay (fun b0 B=>
 Al b0 fun b1=>
 EX .i64 v1 b1 fun b2=>
 AD b2
 (Af [(0,1),(1,1)] [(.slice none 0 0),(.int .i64 0)] [] fun i=>
 AY 2 t4 i (fun b3=>
 Ac 2 t4 (fun E b4=>
 K (.tuple #[E,(.int .i64 5)]) b4) b3) B)
 (AJ v0 fun b5=>
 AM 1 b5 fun b6=>
 AK b6 (fun b7 b8=>
 BX .i64 v1 (.int .i64 1) fun b9=>
 Be 2 b7 b9 fun ba=>
 AM 1 ba fun t39=>
 AK t39 (fun bc I=>
 DI .i64 bc (.int .i64 0) fun bd=>
 AD bd
 (Af [(0,1),(1,1)] [(.slice none 0 0),(.int .i64 0)] [] fun j=>
 AY 2 t4 j (fun bk=>
 Ac 2 t4 (fun O bl=>
 K (.tuple #[O,(.int .i64 5)]) bl) bk) I)
 (J [] I)) b8) B)) Q)))) w1)) w):AB prog 106 [v0,v1] K w:=cO (aN (.cut [] [(5,43)] (aN (aO aE (aN (aO aE (aN (aO aE .nil)))))) aE)) func106 h (by kernel_rfl)
theorem XZ(h: AB prog 106 [v0,v1] (fun i w1=>
 AO 0 i fun y=>
 AO 1 i fun j=>
 An 181 [(.slice none 0 0),(.int .i64 0)] (fun t5 w2=>
 AY 2 t5 y (fun B=>
 Dm .i64 j (.int .i64 0) fun E=>
 AD E
 (K j B)
 (DI .i64 v1 (.int .i64 0) fun I=>
 AD I
 (AJ v0 fun J=>
 AM 4 J fun O=>
 AK O (fun Q w4=>
 AX .i64 Q (.int .i64 1) fun S=>
 AJ v0 fun T=>
 AM 4 T fun U=>
 BC U S (fun w5=>
 K (.int .i64 0) w5) w4) B)
 (AJ v0 fun V=>
 AM 1 V fun X=>
 AK X (fun o w6=>
 BX .i64 v1 (.int .i64 1) fun x=>
 Be 2 o x fun Y=>
 AM 1 Y fun Z=>
 AK Z (fun a1 w7=>
 AX .i64 a1 (.int .i64 1) fun t22=>
 Be 2 o x fun a6=>
 AM 1 a6 fun a7=>
 BC a7 t22 (fun w8=>
 K (.int .i64 0) w8) w7) w6) B))) w2) w1) w):AB prog 152 [v0,v1] K w:=cO (aN (aN (aO (aN (aO aE (aN aE))) aE))) func152 h (by kernel_rfl)
theorem ZY(h: AB prog 106 [v0,v1] (fun i w1=>
 AO 0 i fun B=>
 AO 1 i fun j=>
 An 181 [(.slice none 0 0),(.int .i64 0)] (fun t5 w2=>
 AY 2 t5 B (fun E=>
 Dm .i64 j (.int .i64 0) fun I=>
 AD I
 (K j E)
 (DI .i64 v1 (.int .i64 0) fun J=>
 AD J
 (AJ v0 fun O=>
 AM 4 O fun Q=>
 AK Q (fun S w4=>
 BX .i64 S (.int .i64 1) fun T=>
 Jr .i64 T (.int .i64 0) fun U=>
 AJ v0 fun t39=>
 AM 4 t39 fun V=>
 BC V U (fun w5=>
 K (.int .i64 0) w5) w4) E)
 (AM 1 t5 fun X=>
 AK X (fun Y y=>
 DI .i64 Y (.int .i64 1) fun Z=>
 AD Z
 (Az [6,7] [[],[0],[0,1],[0,1,2],[],[4],[4,5],[0,1,2,3,4,5,6]] y.drew (fun M St=>
 AJ v0 fun t46=>
 AM 3 t46 fun a1=>
 BD (St 3) a1 fun a6=>
 AM 0 t5 fun a7=>
 BD (St 5) a7 fun t50=>
 AB prog 143 [t50] (fun a8 w7=>
 Mod (M 6) y.drew w7/\
 runK prog (Builtin.delete_ #[143,9] 0 [a6,a8].toArray) (fun _u w8=>
 Mod (M 7) w7 w8/\
 AJ v0 fun t53=>
 AM 1 t53 fun ak=>
 AK ak (fun t55 w9=>
 BX .i64 v1 (.int .i64 1) fun al=>
 Af [(0,1),(1,1)] [(.slice none 0 0),(.int .i64 0)] [] fun an=>
 Be 2 t55 al fun av=>
 AY 2 av an (fun ax=>
 AJ v0 fun ay=>
 AM 2 ay fun b0=>
 AK b0 (fun b1 b2=>
 BX .i64 v1 (.int .i64 1) fun t66=>
 Bh 3 1 1 [(.int .i64 0)] [(0,t66)] (fun b3 b4=>
 runK prog (Builtin.append_ #[145,145] 145 [b1,b3].toArray) (fun b5 b6=>
 AJ v0 fun b7=>
 AM 2 b7 fun t70=>
 BC t70 b5 (fun b8=>
 K (.int .i64 0) b8) b6) b4) b2) ax) w9) w8) w7) y.drew))
 (AJ v0 fun b9=>
 AM 1 b9 fun ba=>
 AK ba (fun o bc=>
 BX .i64 v1 (.int .i64 1) fun x=>
 Be 2 o x fun bd=>
 AM 1 bd fun bk=>
 AK bk (fun bl bp=>
 BX .i64 bl (.int .i64 1) fun t22=>
 Be 2 o x fun bs=>
 AM 1 bs fun bx=>
 BC bx t22 (fun c4=>
 K (.int .i64 0) c4) bp) bc) y)) E))) w2) w1) w):AB prog 79 [v0,v1] K w:=cO (aN (aN (aO (aN (aO aE (aN (aN (aN (aO (aO (.dc [6,7] [[],[0],[0,1],[0,1,2],[],[4],[4,5],(aR 7)] []) aE) .nil)))))) aE))) func79 h (by kernel_rfl)
theorem Z3(h: AB prog 106 [v0,v1] (fun i O=>
 AO 0 i fun o=>
 AO 1 i fun j=>
 An 181 [(.slice none 0 0),(.int .i64 0)] (fun I w2=>
 AY 2 I o (fun J=>
 Dm .i64 j (.int .i64 0) fun x=>
 AD x
 (K (.tuple #[(.slice none 0 0),j]) J)
 (AM 0 I fun y=>
 AK y (fun B w4=>
 AB prog 52 [B] (fun E Q=>
 K (.tuple #[E,(.int .i64 0)]) Q) w4) J)) w2) O) w):AB prog 51 [v0,v1] K w:=cO (aN (aN (aO (aN (aO aE .nil)) aE))) func51 h (by kernel_rfl)
theorem Y5(h: AB prog 124 [v0] (fun t4 I=>
 Bt t4 fun t5=>
 AD t5
 (K (.int .i64 0) I)
 (DY I (fun C=>
 AJ v0 fun J=>
 AM 1 J fun O=>
 BI C O fun t9=>
 Al t9 fun i=>
 AX .i64 (.int .i64 1) i fun j=>
 AJ v0 fun o=>
 AM 2 o fun x=>
 BI C x fun y=>
 Al y fun B=>
 BX .i64 j B fun E=>
 ∀w2:World,C w2->
 K E w2))) w):AB prog 67 [v0] K w:=cO (aN (aO (aN (aO aE .nil)) (aO .draw .nil))) func67 h (by kernel_rfl)
theorem WV(h: Al v1 fun t9=>
 EX .i64 t9 (.int .i64 64) fun S=>
 AD S
 (K (.int .i64 3) w)
 (Al v1 fun T=>
 Ay [(.int .i64 0),(.int .i64 0)] (fun vs i w1=>∀_:Env,
 Bc .i64 (nth vs 1) T fun U=>
 AD U
 (Be 5 v1 (nth vs 1) fun V=>
 Ac 5 V (fun X w2=>
 An 79 [(.int .i64 0),(.int .u8 0),(.int .i64 0),(.int .u64 0),(.string (ByteArray.mk #[]))] (fun E w3=>
 AY 5 E X (fun w4=>
 Au (fun I w5=>∀_:Env,
 AD (nth I 0)
 (K (.int .i64 3) w5)
 (AM 0 E fun Y=>
 AK Y (fun Z w6=>
 AM 1 E fun a1=>
 Ac 4 a1 (fun a6 w7=>
 AB prog 209 [v0,Z,a6] (fun a7 w8=>
 Bt a7 fun t45=>
 AD t45
 (AX .i64 (nth vs 1) (.int .i64 1) fun t46=>
 i [(.int .i64 4),t46] w8)
 (AX .i64 (nth vs 1) (.int .i64 1) fun j=>
 i [(nth vs 0),j] w8)) w7) w6) w5)) (fun J=>
 Az [16] [[],[0],[0,1],[0,1,2],[0,1,2],[0,1,2,4],[0,1,2,3,4,5],[0,1,2,3,4,5,6],[0,1,2,3,4,5,6,7],[0,1,2],[0,1,2,9],[0,1,2,3,4,5,6,7,8,9,10],[0,1,2,3,4,5,6,7,8,9,10,11],[0,1,2,3,4,5,6,7,8,9,10,11,12],[0,1,2,3,4,5,6,7,8,9,10,11,12,13],[0,1,2,3,4,5,6,7,8,9,10,11,12,13,14],[0,1,2,3,4,5,6,7,8,9,10,11,12,13,14,15],[0,1,2,3,4,5,6,7,8,9,10,11,12,13,14,15,16],[0,1,2,3,4,5,6,7,8,9,10,11,12,13,14,15,16,17],[0,1,2,3,4,5,6,7,8,9,10,11,12,13,14,15,16,17,18]] w4.drew (fun M Q=>
 EX .i64 (nth vs 1) (.int .i64 0) fun a8=>
 AD a8
 (BX .i64 (nth vs 1) (.int .i64 1) fun ak=>
 Be 5 v1 ak fun t25=>
 AM 0 t25 fun al=>
 BD (Q 8) al fun an=>
 AM 0 E fun av=>
 BD (Q 10) av fun ax=>
 LB .i64 an ax fun ay=>
 AD ay
 (J [(.bool true)] w4.drew)
 (AM 1 E fun b0=>
 EA (Q 15) 4 b0 fun b1=>
 AB prog 208 [b1] (fun b2 w9=>
 Mod (M 16) w4.drew w9/\
 Bt b2 fun b3=>
 J [b3] w9) w4.drew))
 (AM 1 E fun o=>
 EA (Q 15) 4 o fun x=>
 AB prog 208 [x] (fun y O=>
 Mod (M 16) w4.drew O/\
 Bt y fun B=>
 J [B] O) w4.drew)))) w3) w2) w1)
 (K (nth vs 0) w1)) w)):AB prog 142 [v0,v1] K w:=cO (aN (aO (aN (aO aE .nil)) (aN (aO (aN (.node [5,13] [(4,7),(13,46)] (aN (aO aE (aO (aN (.cut [18] [(18,37)] (.dc [16] [[],[0],[0,1],[0,1,2],[0,1,2],[0,1,2,4],(aR 6),(aR 7),(aR 8),[0,1,2],[0,1,2,9],(aR 11),(aR 12),(aR 13),(aR 14),(aR 15),(aR 16),(aR 17),(aR 18),(aR 19)] []) (aO aE (aN aE)))) .nil))) .nil)) aE)))) func142 h (by kernel_rfl)
theorem WA(h: AB prog 260 [v0] (fun Q S=>
 Ay [Q,v1] (fun vs i w2=>∀_:Env,
 EX .u64 (nth vs 1) (.int .u64 127) fun T=>
 AD T
 (runK prog (convert 75 5 (nth vs 1)) (fun j U=>
 runK prog (BZ .or 5 (.tmp 13) (.const (.int .u8 128)) j (.int .u8 128)) (fun o w4=>
 Bh 5 1 1 [(.int .u8 0)] [(0,o)] (fun x V=>
 runK prog (Builtin.append_ #[293,293] 293 [(nth vs 0),x].toArray) (fun y X=>
 runK prog (BZ .shr 75 (.tmp 9) (.const (.int .u64 7)) (nth vs 1) (.int .u64 7)) (fun B Y=>
 i [y,B] Y) X) V) w4) U) w2)
 (runK prog (convert 75 5 (nth vs 1)) (fun E Z=>
 Bh 5 1 1 [(.int .u8 0)] [(0,E)] (fun I w9=>
 runK prog (Builtin.append_ #[293,293] 293 [(nth vs 0),I].toArray) (fun J O=>
 K J O) w9) Z) w2)) S) w):AB prog 211 [v0,v1] K w:=cO (aN (aN (aO (.node [0,1] [(0,1),(7,16)] (aO (aN aE) aE) .nil) aE))) func211 h (by kernel_rfl)
theorem YA(h: AB prog 259 [v1] (fun i j=>
 AB prog 211 [v0,i] (fun o w2=>
 K o w2) j) w):AB prog 210 [v0,v1] K w:=cO (aN aE) func210 h (by kernel_rfl)
theorem YJ(h: Al v1 fun j=>
 runK prog (convert 3 75 j) (fun o x=>
 AB prog 211 [v0,o] (fun t9 w2=>
 runK prog (Builtin.append_ #[293,293] 293 [t9,v1].toArray) (fun i y=>
 K i y) w2) x) w):AB prog 212 [v0,v1] K w:=cO (aN aE) func212 h (by kernel_rfl)
theorem XE(h: runK prog (convert 2 75 v0) (fun t4 i=>
 runK prog (BZ .shl 75 (.tmp 4) (.const (.int .u64 1)) t4 (.int .u64 1)) (fun t5 w2=>
 runK prog (BZ .shr 2 (.tmp 6) (.const (.int .u64 63)) v0 (.int .u64 63)) (fun j o=>
 runK prog (convert 2 75 j) (fun x w4=>
 runK prog (BZ .xor 75 (.tmp 5) (.tmp 8) t5 x) (fun t9 y=>
 K t9 y) w4) o) w2) i) w):AB prog 259 [v0] K w:=cO (aN aE) func259 h (by kernel_rfl)
theorem WC(h: G1 v0 fun i=>
 AD (.bool i)
 (K (.slice none 0 0) w)
 (Bh 5 1 0 [] [] (fun t5 j=>
 runK prog (Builtin.append_ #[293,293] 293 [t5,v0].toArray) (fun o w2=>
 K o w2) j) w)):AB prog 260 [v0] K w:=cO (aN (aO (aN (aO aE .nil)) aE)) func260 h (by kernel_rfl)
end Go.Proofs.YtmdhibffnkhcnaaGreatDoor
namespace Go.Proofs.YtmdhibffnkhcnaaGreatDoor
open Go Go.K Proofs.Tryz
theorem HT:DC prog 293 5 1 1:=⟨Tryz.t5,.int .u8 0,by kernel_rfl,by kernel_rfl,by kernel_rfl,by kernel_rfl,by kernel_rfl,by rfl,by decide⟩
theorem IT.one{w:World}{r:List Value}{x:Int}(h:IT w r x):∀u∈r,u.oneCell'=true:=by
 subst h;intro u hu;simp at hu;subst hu;rfl
abbrev En(B:Nat)(w:World)(v:Value)(l:List Int):Prop:=AF B 5 1 IT w v l
theorem ZQ{x:Int}(h0:0<=x)(h1:x<256):IntKind.u8.wrap x=x:=by
 have i:(2:Int) ^ IntKind.u8.bits=256:=by decide
 simp only[IntKind.wrap,i,IntKind.signed,Bool.false_and];rw[if_neg (by decide)];omega
theorem Ps{x:Int}:IntKind.u8.wrap x=x%256:=by
 have i:(2:Int) ^ IntKind.u8.bits=256:=by decide
 simp only[IntKind.wrap,i,IntKind.signed,Bool.false_and];rw[if_neg (by decide)]
theorem bo:∀a:Nat,a<256->(a ||| 128)=a%128+128:=by decide +kernel
theorem Va{t:TypeId}{xo yo:Operand}{a:Int}(w:World)(h0:0<=a)(h1:a<256):(BZ .or t xo yo (.int .u8 a) (.int .u8 128)).run prog w=.ok (.int .u8 (a%128+128)) w:=by
 rw[(Iz w).1];have e:((BitVec.ofInt IntKind.u8.bits a ||| BitVec.ofInt IntKind.u8.bits 128).toNat:Int)=((a.toNat ||| 128:Nat):Int):=by
  show((BitVec.ofInt 8 a ||| BitVec.ofInt 8 128).toNat:Int)=_;rw[BitVec.toNat_or,BitVec.toNat_ofInt,BitVec.toNat_ofInt];have e:((2 ^ 8:Nat):Int)=256:=by decide
  rw[e,Int.emod_eq_of_lt h0 h1];rfl
 rw[e,bo _ (by omega),ZQ (by omega) (by omega)];congr 2
 omega
theorem OU{S:Nat->Prop}{v:Value}{l:List Int}{w:World}(h:Ci S w v l)(hl:l.length<=1099511627776) :
  AB prog 260 [v] (fun v' w'=>En w.heap.size w' v' l/\Grow w w') w:=by
 apply WC;obtain⟨a,c,rfl,hm⟩:=h.shape;rw[Qu];cases a with
 |none=>
  have:l=[]:=by
   cases l with
   |nil=>rfl
   |cons x l=>obtain⟨p,r,e,_⟩:=h.get (i:=0) (by simp);cases e
  subst this;exact Ao ⟨AF.nil,Mod.refl _ _⟩
 |some p=>
  refine AT ?_;refine IE ?_;have o:Grow w (w.alloc (.cells #[] 5)):=Mod.alloc _ _ _;have y:En w.heap.size (w.alloc (.cells #[] 5)) (.slice (some ⟨w.heap.size,0,none⟩) 0 0) []:=AF.made (Nat.le_refl _);obtain⟨v',w',h1,B,E,I⟩:=AF.append (ty:=293) HT y (h.grow o (by decide) fun _ _ h=>h) (fun _ _=>IT.one) (by simp;omega) (by simp) (by simpa using hm) (fun _ _ _ _ h=>h);refine Ai h1 ⟨?_,o.next (Mod.of_grownBy E) ?_⟩
  .refine B.base fun g j=>?_;rcases I g j with h|h
   .cases h;exact Nat.le_refl _
   .simp only[World.size_alloc] at h;omega
  .intro b hb e;simp only[Value.ownBlock,Option.some.injEq] at e;omega
theorem N1{n:Int}{K:Cont}{w:World}(h:K (.int .u8 (n%256)) w):runK prog (convert 75 5 (.int .u64 n)) K w:=by
 refine Ai (Eb (k:=.u8) w (by kernel_rfl) (by kernel_rfl)) ?_;rw[Ps];exact h
theorem Is{S:Nat->Prop}{v:Value}{l:List Int}{n:Nat}{w:World}(h:Ci S w v l)(hl:l.length+20<=1099511627776)(E:n<18446744073709551616) :
  AB prog 211 [v,.int .u64 n] (fun v' w'=>En w.heap.size w' v' (l++uv n)/\Grow w w') w:=by
 apply WA;refine AA (OU h (by omega)) ?_;rintro v1 X ⟨I,J⟩;have y:(128:Nat) ^ (9+1)=1180591620717411303424:=by decide
 refine Ae (fun vs W=>∃(f m:Nat) (pre:List Int) (o:Value),vs=[o,.int .u64 m]/\uv n=pre++MP f m/\m<128 ^ (f+1)/\m<18446744073709551616/\pre.length+f=9/\En w.heap.size W o (l++pre)/\Grow w W) (fun vs _=>ED vs 1)
  ⟨9,n,[],v1,rfl,rfl,by omega,E,rfl,by rw[List.append_nil];exact I,J⟩ ?_
 rintro vs W ⟨f,m,pre,o,rfl,hu,hm,O,Y,B,g⟩ _;simp only[Fx];rw[BK];refine AE (fun Q=>?_) fun T=>?_
 .cases f with
  |zero=>simp at hm;omega
  |succ f=>
   have i:MP (f+1) m=((m%128+128:Nat):Int)::MP f (m/128):=by
    simp only[MP];rw[if_neg (by omega)]
   refine N1 (Ai (Va W (by omega) (by omega)) ?_);have U:((m:Int)%256%128+128)=((m%128+128:Nat):Int):=by omega
   rw[U];refine PX (w0:=w) HT B g (cs:=[.int .u8 ((m%128+128:Nat):Int)]) (x:=((m%128+128:Nat):Int)) (by kernel_rfl) rfl rfl (fun _ _ _=>IT.one) (fun _ _ _ _ _ _ h=>h) (by simp only[List.length_append];omega) (by simp only[List.length_append,maxLen];omega) fun v' w' o' g'=>?_;refine Ai (MX (n:=7) w' (by decide)) ?_;have V:((m:Int)).fdiv (2 ^ 7)=((m/128:Nat):Int):=by
    rw[Int.fdiv_eq_ediv_of_nonneg _ (by decide)];show(m:Int)/128=_;omega
   rw[V];refine⟨⟨f,m/128,pre++[((m%128+128:Nat):Int)],v',rfl,by rw[hu,i];simp,?_,by omega,by simp;omega,by rw[<-List.append_assoc];exact o',g'⟩,?_⟩
   .rw[Nat.pow_succ] at hm;exact Nat.div_lt_of_lt_mul (by omega)
   .show(((m/128:Nat):Int)).toNat<((m:Nat):Int).toNat;omega
 .have j:MP f m=[(m:Int)]:=by
   cases f with
   |zero=>rfl
   |succ f=>simp only[MP];rw[if_pos (by omega)]
  refine N1 ?_;rw[show((m:Int)%256)=m by omega];refine PX (w0:=w) HT B g (cs:=[.int .u8 (m:Int)]) (x:=(m:Int)) (by kernel_rfl) rfl rfl (fun _ _ _=>IT.one) (fun _ _ _ _ _ _ h=>h) (by simp only[List.length_append];omega) (by simp only[List.length_append,maxLen];omega) fun v' w' o' g'=>?_;refine⟨?_,g'⟩;rw[hu,j,<-List.append_assoc];exact o'
theorem RX{t:TypeId}{xo yo:Operand}{a b:Int}(w:World)(ha:HY a)(hb:HY b):(BZ .xor t xo yo (.int .u64 a) (.int .u64 b)).run prog w=.ok (.int .u64 ((a.toNat ^^^ b.toNat:Nat):Int)) w:=by
 have e0:(BZ .xor t xo yo (.int .u64 a) (.int .u64 b)).run prog w=.ok (.int .u64 (IntKind.u64.wrap (BitVec.ofInt IntKind.u64.bits a ^^^ BitVec.ofInt IntKind.u64.bits b).toNat)) w:=by
  simp[BZ,eqGuard,binOp,Op.intBits]
 rw[e0];have e:((BitVec.ofInt IntKind.u64.bits a ^^^ BitVec.ofInt IntKind.u64.bits b).toNat:Int)=((a.toNat ^^^ b.toNat:Nat):Int):=by
  show((BitVec.ofInt 64 a ^^^ BitVec.ofInt 64 b).toNat:Int)=_;unfold HY at ha hb;rw[BitVec.toNat_xor,BitVec.toNat_ofInt,BitVec.toNat_ofInt];have e:((2 ^ 64:Nat):Int)=18446744073709551616:=by decide
  rw[e,Int.emod_eq_of_lt ha.1 ha.2,Int.emod_eq_of_lt hb.1 hb.2]
 have i:a.toNat ^^^ b.toNat<2 ^ 64:=Nat.xor_lt_two_pow (by unfold HY at ha;omega) (by unfold HY at hb;omega);rw[e,Fi ⟨by omega,by omega⟩]
theorem Ei{x:Int}:IntKind.u64.wrap x=x%18446744073709551616:=by
 have i:(2:Int) ^ IntKind.u64.bits=18446744073709551616:=by decide
 simp only[IntKind.wrap,i,IntKind.signed,Bool.false_and];rw[if_neg (by decide)]
theorem Z9{n:Int}{w:World}(h0:-9223372036854775808<=n)(h1:n<=9223372036854775807) :
  AB prog 259 [.int .i64 n] (fun v' w'=>v'=.int .u64 (Gn n:Nat)/\w'=w) w:=by
 apply XE;refine Ai (Eb (k:=.u64) w (by kernel_rfl) (by kernel_rfl)) ?_;refine Ai (Qi (n:=1) w (by decide)) ?_;refine Ai (MX (n:=63) w (by decide)) ?_;refine Ai (Eb (k:=.u64) w (by kernel_rfl) (by kernel_rfl)) ?_;have o:HY (IntKind.u64.wrap (IntKind.u64.wrap n*2 ^ 1)):=by
  rw[Ei];exact⟨by omega,by omega⟩
 have x:HY (IntKind.u64.wrap (n.fdiv (2 ^ 63))):=by
  rw[Ei];exact⟨by omega,by omega⟩
 refine Ai (RX w o x) ⟨?_,rfl⟩;congr 1
 rw[Ei,Ei,Ei,Int.fdiv_eq_ediv_of_nonneg _ (by decide)];have i:((2:Int) ^ 63)=9223372036854775808:=by decide
 have y:((2:Int) ^ 1)=2:=by decide
 rw[i,y];by_cases j:0<=n
 .have q:n/9223372036854775808=0:=by omega
  rw[q];simp only[Int.zero_emod,Int.toNat_zero,Nat.xor_zero];unfold Gn;rw[if_pos j];omega
 .have q:n/9223372036854775808=-1:=by omega
  rw[q];have r:((-1:Int)%18446744073709551616).toNat=2 ^ 64-1:=by decide
  rw[r,Nat.xor_comm,Lib.xor_ones64 _ (by omega)];unfold Gn;rw[if_neg j];omega
theorem QP{S:Nat->Prop}{v:Value}{l:List Int}{n:Int}{w:World}(h:Ci S w v l)(hl:l.length+20<=1099511627776)(h0:-9223372036854775808<=n)(h1:n<=9223372036854775807) :
  AB prog 210 [v,.int .i64 n] (fun v' w'=>En w.heap.size w' v' (l++uv (Gn n))/\Grow w w') w:=by
 apply YA;refine AA (Z9 h0 h1) ?_;rintro _ _ ⟨rfl,rfl⟩;exact AA (Is h hl (Gf h0 h1)) fun _ _ h=>h
theorem SP{S E:Nat->Prop}{v j:Value}{l x:List Int}{w:World}(h:Ci S w v l)(o:Ci E w j x)(hl:l.length+x.length+40<=1099511627776) :
  AB prog 212 [v,j] (fun v' w'=>En w.heap.size w' v' (l++(uv x.length++x))/\Grow w w') w:=by
 apply YJ;obtain⟨a,c,rfl,_⟩:=o.shape;rw[AS];refine Ai (Eb (k:=.u64) w (by kernel_rfl) (by kernel_rfl)) ?_;rw[Fi ⟨by omega,by omega⟩];refine AA (Is h (by omega) (by omega)) ?_;rintro v1 O ⟨y,i⟩;have I:(uv x.length).length<=10:=(FT 9 x.length).2;obtain⟨v',w',h1,B,J,Q⟩:=AF.append (ty:=293) HT y (o.grow i (by decide) fun _ _ h=>h) (fun _ _=>IT.one) (by simp only[List.length_append];omega) i.size (by simp only[List.length_append,maxLen];omega) (fun _ _ _ _ h=>h);refine Ai h1 ⟨?_,i.next (Mod.of_grownBy J) fun b hb e=>by have:=(AF.BL y b e).1;omega⟩;rw[List.append_assoc] at B;exact B
theorem Ta{a:Attr}:(JW a).length<=50+a.val.s.size:=by
 have h1:=(FT 9 (Gn a.key)).2;have i:=(FT 9 a.val.kind.toNat).2;have j:=(FT 9 (Gn a.val.n)).2;have o:=(FT 9 a.val.f.toNat).2;have x:=(FT 9 a.val.s.size).2;simp only[JW,List.length_append,uv,Cq];omega
theorem Um:∀{l:List Attr},(∀a∈l,a.val.s.size<=64)->(FA l).length<=114*l.length:=by
 intro l;induction l with
 |nil=>intro _;simp[FA]
 |cons a l i=>
  intro h;have h1:=@Ta a;have o:=h a List.mem_cons_self;have y:=i fun x j=>h x (List.mem_cons_of_mem _ j);simp only[FA,List.flatMap_cons,List.length_append,List.length_cons] at *;omega
theorem En.low{B i:Nat}{w:World}{v:Value}{l:List Int}(h:En B w v l)(hb:i<=B):En i w v l:=h.base fun g j=>by have:=(AF.BL h g j).1;omega
theorem N5{S:Nat->Prop}{v:Value}{l:List Attr}{w:World}(h:Cu S w v l)(hI:∀a∈l,LP a)(hs:∀a∈l,a.val.s.size<=64)(hl:l.length<=64) :
  AB prog 143 [v] (fun v' w'=>v'=.string (EF l)/\Grow w w') w:=by
 apply Xv;obtain⟨a,c,rfl,_⟩:=h.shape;rw[AS];refine Ae (fun vs W=>∃(i:Nat) (T:Value),i<=l.length/\vs=[T,.int .i64 i]/\En w.heap.size W T (FA (l.take i))/\Grow w W) (fun vs _=>l.length-ED vs 1)
  ⟨0,_,Nat.zero_le _,rfl,AF.nil,Mod.refl _ _⟩ ?_
 rintro vs W ⟨i,T,hi,rfl,U,g⟩ _;simp only[Fx];refine HU (fun a7=>?_) fun a8=>?_
 .have o:i<l.length:=by omega
  have V:=hI l[i] (List.getElem_mem o);have ak:=hs l[i] (List.getElem_mem o);have a6:(FA (l.take i)).length<=114*i:=by
   have:=@Um (l.take i) fun a ha=>hs a (List.mem_of_mem_take ha);rw[List.length_take] at this;omega
  have X:FA (l.take (i+1))=FA (l.take i)++JW l[i]:=by
   have e:l.take (i+1)=l.take i++[l[i]]:=by rw[List.take_add_one,List.getElem?_eq_getElem o];rfl
   rw[e];unfold FA;rw[List.flatMap_append];simp only[List.flatMap_cons,List.flatMap_nil,List.append_nil]
  obtain⟨p,r,rfl,_,hr,hc,rfl⟩:=(h.grow g (by decide) fun _ _ h=>h).get o;generalize l[i]=x at *;obtain⟨i1,i2,i3,i4,i5⟩:=V;refine AZ o (Ah hr (fun j u hu=>by rw[Addr.add_add];exact hc j u hu) ?_);refine BO (vs:=x.cells) rfl rfl (Cv.one (w:=w) (x:=x) rfl) fun b5 W1 al an g5 y _=>?_;have q0:=y 0 _ rfl;have q1:=y 1 _ rfl;have q2:=y 2 _ rfl;have q3:=y 3 _ rfl;have q4:=y 4 _ rfl;have E:=g.trans g5;have o1:En w.heap.size W1 T (FA (l.take i)):=AF.mod U g5 (fun _ _ h=>h) fun _ _ _ h=>h;rw[AG];refine AL q0 ?_;refine AA (QP o1.sl (by omega) i1.1 i1.2) ?_;rintro v2 W2 ⟨o2,g2⟩;have B:∀n,(uv n).length<=10:=fun n=>(FT 9 n).2;have u1:=B (Gn x.key);have u2:=B x.val.kind.toNat;have u3:=B (Gn x.val.n);have u4:=B x.val.f.toNat;rw[AG,AG,Addr.add_add];refine AL (g2.cell q1 fun h=>h) ?_;refine Ai (Eb (k:=.u64) W2 (by kernel_rfl) (by kernel_rfl)) ?_;rw[Fi ⟨i2.1,by omega⟩];have ek:(Value.int .u64 x.val.kind)=.int .u64 ((x.val.kind.toNat:Nat):Int):=by rw[Int.toNat_of_nonneg i2.1]
  rw[ek];refine AA (Is o2.sl (by simp only[List.length_append];omega) (by omega)) ?_;rintro v3 W3 ⟨o3,g3⟩;have I:=g2.trans g3;rw[AG,AG,Addr.add_add];refine AL (I.cell q2 fun h=>h) ?_;refine AA (QP o3.sl (by simp only[List.length_append];omega) i3.1 i3.2) ?_;rintro v4 W4 ⟨o4,g4⟩;have J:=I.trans g4;rw[AG,AG,Addr.add_add];refine AL (J.cell q3 fun h=>h) ?_;have ef:(Value.int .u64 x.val.f)=.int .u64 ((x.val.f.toNat:Nat):Int):=by rw[Int.toNat_of_nonneg i4.1]
  rw[ef];refine AA (Is o4.sl (by simp only[List.length_append];omega) (by omega)) ?_;rintro v5 W5 ⟨o5,Y⟩;have O:=J.trans Y;rw[AG,AG,Addr.add_add];refine AL (O.cell q4 fun h=>h) ?_;refine NW (by omega) fun v6 W6 g6 Z=>?_;have Q:=O.trans g6;have o6:En W4.heap.size W6 v5 _:=AF.mod (R':=IT) o5 g6 (fun _ _ h=>h) fun _ _ _ h=>h;refine AA (SP o6.sl Z (by simp only[List.length_append,Cq];omega)) ?_;rintro v7 W7 ⟨o7,g7⟩;have a1:=Q.trans g7;rw[AR,AQ (by omega)];refine⟨⟨i+1,v7,o,rfl,?_,E.trans a1⟩,by rw[BH,BH];omega⟩;rw[X];have e7:FA (l.take i)++JW x=FA (l.take i)++uv (Gn x.key)++uv x.val.kind.toNat++uv (Gn x.val.n)++uv x.val.f.toNat++(uv (Bj x.val.s).length++Bj x.val.s):=by
   rw[Cq];simp only[JW,List.append_assoc]
  rw[e7];exact o7.low (Nat.le_trans E.size Q.size)
 .have:i=l.length:=by omega
  subst this;rw[List.take_length] at U;exact Ai (Qd U.sl (JK hI)) ⟨rfl,g⟩
theorem Qx{D S:Nat->Prop}{sv v:Value}{ks:List DKey}{l:List Attr}{w:World}(hS:DG D w sv ks)(h:Cu S w v l)(hT:ET w)(hI:∀a∈l,0<=a.val.f) :
  AB prog 142 [sv,v] (fun v' w'=>v'=.int .i64 (Bb ks l)/\Grow w w') w:=by
 classical
 apply WV;obtain⟨a,c,rfl,hm⟩:=h.shape;simp only[maxLen] at hm;have bad:∀w',Grow w w'->JC l->Value.int .i64 3=.int .i64 (Bb ks l)/\Grow w w':=fun w' g hb=>⟨by rw[Bb,if_pos hb],g⟩;rw[AS,BK];refine AE (fun h6=>bad _ (Mod.refl _ _) (.inr (.inl (by omega)))) fun h6=>?_;rw[AS];refine Ae (fun vs W=>∃i:Nat,i<=l.length/\vs=[.int .i64 (if GF ks (l.take i) then 4 else 0),.int .i64 i]/\Grow w W/\(∀a∈l.take i,DK a.val)/\Ld Attr.key l i) (fun vs _=>l.length-ED vs 1)
  ⟨0,Nat.zero_le _,by rw[if_neg (by rintro⟨a,ha,_⟩;simp at ha)];rfl,Mod.refl _ _,by simp,fun j hj=>by omega⟩ ?_
 rintro vs W ⟨i,hi,rfl,g,hv,T⟩ _;simp only[Fx];refine HU (fun b3=>?_) fun a7=>?_
 .have o:i<l.length:=by omega
  obtain⟨p,r,rfl,_,hr,hc,rfl⟩:=(h.grow g (by decide) fun _ _ h=>h).get o;refine AZ o (Ah hr (fun j u hu=>by rw[Addr.add_add];exact hc j u hu) ?_);refine BO (vs:=l[i].cells) rfl rfl (Cv.one (w:=w) (x:=l[i]) rfl) fun b7 V b4 b5 g7 J _=>?_;have I:=g.trans g7;have Z:=hI l[i] (List.getElem_mem o);have e1:l.take (i+1)=l.take i++[l[i]]:=by rw[List.take_add_one,List.getElem?_eq_getElem o];rfl
  refine AW (fun vs W2=>Grow V W2/\((vs=[.bool true]/\JC l)\/(vs=[.bool false]/\DK l[i].val/\Ld Attr.key l (i+1)))) ?_ ?_
  .rintro vs W2 ⟨X,a8⟩ _;rcases a8 with⟨rfl,hb⟩|⟨rfl,E,O⟩
   .exact Ao (bad _ (I.trans X) hb)
   .refine AT ?_;rw[AG];refine AL (X.cell (J 0 _ rfl) fun h=>h) ?_;rw[AG];refine Ah (vs:=l[i].val.cells) rfl (fun j u hu=>X.cell (by rw[Addr.add_add];exact J (1+j) u (by rw[Nat.add_comm];exact hu)) fun h=>h) ?_;refine AA (Nq (hS.grow (I.trans X)) (hT.grow (I.trans X)) Z) ?_;rintro _ W3 ⟨rfl,g3⟩;have a1:=(I.trans X).trans g3;rw[Aq];have a6:∀a∈l.take (i+1),DK a.val:=fun a ha=>by
     rw[e1] at ha;rcases List.mem_append.1 ha with ha|ha
     .exact hv a ha
     .simp at ha;subst ha;exact E
    by_cases B:Gr ks l[i].key l[i].val
    .rw[decide_eq_true B];refine AT ?_;rw[AR,AQ (by omega)];refine⟨⟨i+1,o,?_,a1,a6,O⟩,by rw[BH,BH];omega⟩;have e:GF ks (l.take (i+1))↔GF ks (l.take i):=by
      unfold GF;rw[e1];constructor
      .rintro⟨a,ha,hn⟩;rcases List.mem_append.1 ha with ha|ha
       .exact⟨a,ha,hn⟩
       .simp at ha;subst ha;exact absurd B hn
      .rintro⟨a,ha,hn⟩;exact⟨a,List.mem_append_left _ ha,hn⟩
     simp only[e]
    .rw[decide_eq_false B];refine Ao ?_;rw[AR,AQ (by omega)];refine⟨⟨i+1,o,?_,a1,a6,O⟩,by rw[BH,BH];omega⟩;rw[if_pos (show GF ks (l.take (i+1)) from⟨l[i],by rw[e1];exact List.mem_append_right _ (List.mem_singleton.2 rfl),B⟩)]
  .refine Ag (fun _ _=>False) ?_;have Y:Grow V V.drew:=Mod.drew _ _;have U:Ld Attr.key l (i+1)->AM 1 (.pointer (some (⟨b7,0,none⟩:Addr))) fun ak=>EA (Hk [16] [[],[0],[0,1],[0,1,2],[0,1,2],[0,1,2,4],[0,1,2,3,4,5],[0,1,2,3,4,5,6],[0,1,2,3,4,5,6,7],[0,1,2],[0,1,2,9],[0,1,2,3,4,5,6,7,8,9,10],[0,1,2,3,4,5,6,7,8,9,10,11],[0,1,2,3,4,5,6,7,8,9,10,11,12],[0,1,2,3,4,5,6,7,8,9,10,11,12,13],[0,1,2,3,4,5,6,7,8,9,10,11,12,13,14],[0,1,2,3,4,5,6,7,8,9,10,11,12,13,14,15],[0,1,2,3,4,5,6,7,8,9,10,11,12,13,14,15,16],[0,1,2,3,4,5,6,7,8,9,10,11,12,13,14,15,16,17],[0,1,2,3,4,5,6,7,8,9,10,11,12,13,14,15,16,17,18]] (fun _ _=>False) V.drew 15) 4 ak fun al=>
     AB prog 208 [al] (fun an w9=>Mod (fun _=>False) V.drew w9/\Bt an fun av=>(fun vs W2=>Grow V W2/\((vs=[.bool true]/\JC l)\/(vs=[.bool false]/\DK l[i].val/\Ld Attr.key l (i+1)))) [av] w9) V.drew:=by
    intro O;rw[AG];refine CP (vs:=l[i].val.cells) rfl (fun j u hu=>⟨Y.cell (by rw[Addr.add_add];exact J (1+j) u (by rw[Nat.add_comm];exact hu)) fun h=>h,fun _ _ h=>h⟩) ?_;refine AA (Ma (hT.grow (I.trans Y)) Z) ?_;rintro _ W3 ⟨rfl,g3⟩;refine⟨g3,?_⟩;rw[Aq];refine⟨Y.trans g3,?_⟩;by_cases E:DK l[i].val
    .exact .inr ⟨by rw[decide_eq_true E];rfl,E,O⟩
    .exact .inl ⟨by rw[decide_eq_false E];rfl,.inr (.inr ⟨l[i],List.getElem_mem o,E⟩)⟩
   rw[BK];refine AE (fun ax=>?_) fun ax=>U (fun j hj=>by omega);rw[Av,wrap64 (by omega) (by omega),show((i:Int)-1)=((i-1:Nat):Int) by omega];have Q:i-1<l.length:=by omega
   obtain⟨_,r2,e2,_,b6,ay,rfl⟩:=(h.grow g (by decide) fun _ _ h=>h).get Q;cases e2;refine AZ Q ?_;rw[AG,Addr.add_add];refine Aa ⟨(g7.trans Y).cell (ay 0 _ rfl) fun h=>h,fun _ _ h=>h⟩ ?_;rw[AG];refine Aa ⟨Y.cell (J 0 _ rfl) fun h=>h,fun _ _ h=>h⟩ ?_;rw[Dl];refine AE (fun a7=>⟨Y,.inl ⟨rfl,.inl fun hr=>?_⟩⟩) fun b2=>U ?_
   .have:=hr i (by omega) o _ _ (List.getElem?_eq_getElem Q) (List.getElem?_eq_getElem o);omega
   .intro j b0 b8 x y hx hy;by_cases b1:j<i
    .exact T j b0 b1 x y hx hy
    .have:j=i:=by omega
     subst this;rw[List.getElem?_eq_getElem Q] at hx;rw[List.getElem?_eq_getElem o] at hy;cases hx;cases hy;omega
 .have:i=l.length:=by omega
  subst this;rw[List.take_length] at hv;refine⟨?_,g⟩;have ok:¬JC l:=by
   rintro(h|h|⟨a,ha,h⟩)
   .exact h T
   .omega
   .exact h (hv a ha)
  rw[List.take_length,Bb,if_neg ok]
end Go.Proofs.YtmdhibffnkhcnaaGreatDoor
namespace Go.K
open Go
theorem P2(s:ByteArray):MapKept.IsKey .string (.string s):=trivial
def Tab.ask{α:Type}(t:Tab α)(z:α)(id:Int):Option (Ent α):=if id=0 then some ⟨z,t.empty⟩ else if id<0 then none else match t.places[(id-1).toNat]? with
 |some p=>if p.held=0 then none else some p
 |none=>none
structure Tab.Small {α:Type} (t:Tab α) (n:Nat):Prop where
 pl:t.places.length<=n
 em:t.empty<=n
 he:∀p∈t.places,p.held<=n
theorem Tab.Il{α:Type}{t:Tab α}{z:α}{id:Int}{p:Ent α}(h:t.ask z id=some p)(h0:id≠0):∃i:Nat,id=(i:Int)+1/\t.places[i]?=some p/\0<p.held:=by
 unfold Tab.ask at h;rw[if_neg h0] at h;split at h
 .cases h
 .cases hp:t.places[(id-1).toNat]? with
  |none=>rw[hp] at h;cases h
  |some q=>
   rw[hp] at h;simp only at h;split at h
   .cases h
   .cases h;exact⟨(id-1).toNat,by omega,hp,by omega⟩
theorem Tab.TS{α:Type}{t:Tab α}{z:α}{i:Nat}{p:Ent α}(h:t.places[i]?=some p)(h0:0<p.held):t.ask z ((i:Int)+1)=some p:=by
 unfold Tab.ask;rw[if_neg (by omega),if_neg (by omega),show((i:Int)+1-1).toNat=i by omega,h];simp only;rw[if_neg (by omega)]
end Go.K
namespace Go.Proofs.YtmdhibffnkhcnaaGreatDoor
open Go Go.K Proofs.Tryz
abbrev Px:Nat:=181
def Fm(C:Nat->Prop):World->List Value->Ent (List Attr)->Prop:=fun w r x=>∃sv,r=[sv,.int .i64 x.held]/\Cu C w sv x.set
theorem Fm.one{C:Nat->Prop}{w:World}{r:List Value}{x:Ent (List Attr)}(h:Fm C w r x):∀u∈r,u.oneCell'=true:=by
 obtain⟨sv,rfl,i⟩:=h;obtain⟨a,c,rfl,_⟩:=i.shape;intro u hu;simp at hu;rcases hu with rfl|rfl<;>rfl
theorem Fm.mod{C M:Nat->Prop}{w w':World}{r:List Value}{x:Ent (List Attr)}(h:Fm C w r x)(hm:Mod M w w')(hC:∀b,b<w.heap.size->C b->¬M b):Fm C w' r x:=by
 obtain⟨sv,e,i⟩:=h;exact⟨sv,e,i.mod hm hC (by decide) fun _ _ h=>h⟩
theorem Fm.sub{C i:Nat->Prop}{w:World}{r:List Value}{x:Ent (List Attr)}(h:Fm C w r x)(hC:∀b,b<w.heap.size->C b->i b):Fm i w r x:=by
 obtain⟨sv,e,j⟩:=h;exact⟨sv,e,j.sub hC (by decide) fun _ _ h=>h⟩
abbrev FQ(ks:List DKey):List Attr->Prop:=Ox fun s=>Bb ks s=0
structure SKs where
 sv:Value
 ks:List DKey
 S:Nat->Prop
structure To (F C:Nat->Prop) (W:World) (b:Nat) (ks:SKs) (t:Tab (List Attr)) (pl fr:Value) (bm:Nat):Prop where
 IP:DG ks.S W ks.sv ks.ks
 FL:AF 0 Px 2 (Fm C) W pl t.places
 I9:AF 0 3 1 Kx W fr (t.free.map fun i:Nat=>(i:Int))
 map:∃f,HM .string W bm f/\Dx t f
 inv:t.Inv (FQ ks.ks)
 fb:F b/\¬C b
 fm:F bm/\¬C bm/\bm≠b
 pF:∀g,pl.ownBlock=some g->F g/\¬C g/\g≠b/\g≠bm
 fF:∀g,fr.ownBlock=some g->F g/\¬C g/\g≠b/\g≠bm/\pl.ownBlock≠some g
 cf:∀x,C x->F x/\x<W.heap.size
 sf:∀x,ks.S x->¬F x/\x<W.heap.size
theorem To.mod{F C M:Nat->Prop}{W W':World}{b:Nat}{ks:SKs}{t:Tab (List Attr)}{pl fr:Value}{bm:Nat}(h:To F C W b ks t pl fr bm)(hm:Mod M W W')(j:∀x,F x\/ks.S x->x≠b->¬M x):To F C W' b ks t pl fr bm:=by
 have hC:∀ x,x < W.heap.size->C x->¬ M x:=fun x _ i=>j x (.inl (h.cf x i).1) fun e=>h.fb.2 (e ▸ i);obtain ⟨f,y,B⟩:=h.map;exact ⟨h.IP.mod hm fun x _ i=>j x (.inr i) fun e=>(h.sf x i).1 (e ▸ h.fb.1),AF.mod h.FL hm (fun g o=>j g (.inl (h.pF g o).1) (h.pF g o).2.2.1) fun r x _ i=>i.mod hm hC,AF.mod h.I9 hm (fun g o=>j g (.inl (h.fF g o).1) (h.fF g o).2.2.1) fun _ _ _ h=>h,⟨f,y.mod hm (j bm (.inl h.fm.1) h.fm.2.2),B⟩,h.inv,h.fb,h.fm,h.pF,h.fF,
  fun x i=>⟨(h.cf x i).1,Nat.lt_of_lt_of_le (h.cf x i).2 hm.size⟩,fun x i=>⟨(h.sf x i).1,Nat.lt_of_lt_of_le (h.sf x i).2 hm.size⟩⟩
abbrev SH(sv pl fr:Value)(bm:Nat)(em:Nat):List Value:=[sv,pl,fr,.map (some bm),.int .i64 em]
structure Ki (F C:Nat->Prop) (W:World) (b:Nat) (ks:SKs) (t:Tab (List Attr)) (pl fr:Value) (bm:Nat):Prop where
 cells:∀j v,(SH ks.sv pl fr bm t.empty)[j]?=some v->W.cell? ⟨b,j,none⟩=some v
 live:∀j,j<5->Live W ⟨b,j,none⟩
 core:To F C W b ks t pl fr bm
def EV(F:Nat->Prop)(W:World)(b:Nat)(ks:SKs)(t:Tab (List Attr)):Prop:=∃C pl fr bm,Ki F C W b ks t pl fr bm
theorem Ki.mod{F C M:Nat->Prop}{W W':World}{b:Nat}{ks:SKs}{t:Tab (List Attr)}{pl fr:Value}{bm:Nat}(h:Ki F C W b ks t pl fr bm)(hm:Mod M W W')(i:∀x,F x\/ks.S x->¬M x):Ki F C W' b ks t pl fr bm:=
 ⟨fun j v o=>hm.cell (h.cells j v o) (i b (.inl h.core.fb.1)),fun j y=>(h.live j y).mod hm (i b (.inl h.core.fb.1)),h.core.mod hm fun x B _=>i x B⟩
theorem EV.mod{F M:Nat->Prop}{W W':World}{b:Nat}{ks:SKs}{t:Tab (List Attr)}(h:EV F W b ks t)(hm:Mod M W W')(i:∀x,F x\/ks.S x->¬M x):EV F W' b ks t:=by
 obtain⟨C,pl,fr,bm,h⟩:=h;exact⟨C,pl,fr,bm,h.mod hm i⟩
theorem EV.grow{F:Nat->Prop}{W W':World}{b:Nat}{ks:SKs}{t:Tab (List Attr)}(h:EV F W b ks t)(g:Grow W W'):EV F W' b ks t:=h.mod g fun _ _ h=>h
def IW(F:Nat->Prop)(w w':World)(b:Nat)(ks:SKs)(t:Tab (List Attr)):Prop:=∃F',(∀x,F' x->F x\/w.heap.size<=x/\x<w'.heap.size)/\EV F' w' b ks t/\Mod F w w'
theorem IW.same{F:Nat->Prop}{w w':World}{b:Nat}{ks:SKs}{t:Tab (List Attr)}(h:EV F w' b ks t)(hm:Mod F w w'):IW F w w' b ks t:=⟨F,fun _ h=>.inl h,h,hm⟩
theorem EV.lt{F:Nat->Prop}{W:World}{b:Nat}{ks:SKs}{t:Tab (List Attr)}(h:EV F W b ks t):b<W.heap.size/\F b:=by
 obtain⟨C,pl,fr,bm,h⟩:=h;exact⟨World.block_lt_of_cell? W _ (h.cells 4 _ rfl),h.core.fb.1⟩
theorem LV{xo yo:Operand}{m:Option Nat}(w:World):(BZ .neq 143 xo yo (.map m) (.map none)).run prog w=.ok (.bool (!m.isNone)) w:=by
 have hu:=underlying143;have e:(binOp .neq 143 (.map m) (.map none)).run prog w=.ok (.bool (!m.isNone)) w:=run_neq_map_nil w _ _ _ _ hu;simp[BZ,eqGuard,e]
theorem LD{F:Nat->Prop}{W:World}{b:Nat}{ks:SKs}{t:Tab (List Attr)}(h:EV F W b ks t):AB prog 124 [.pointer (some ⟨b,0,none⟩)] (fun v' w'=>v'=.bool true/\w'=W) W:=by
 obtain⟨C,pl,fr,bm,h⟩:=h;apply Wb;refine Cs (Ao (AH ?_));rw[AG,AI];exact AL (h.cells 3 _ rfl) (Ai (LV W) ⟨rfl,rfl⟩)
theorem Xc{ks:SKs}{w:World}(h:DG ks.S w ks.sv ks.ks)(Q:∀x,ks.S x->x<w.heap.size) :
  AB prog 39 [ks.sv] (fun v' w'=>Grow w w'/\∃b,w.heap.size<=b/\v'=.pointer (some ⟨b,0,none⟩)/\EV (fun x=>w.heap.size<=x/\x<w'.heap.size) w' b ks (Tab.z _)) w:=by
 apply Zp;refine Ai (v:=.map (some w.heap.size)) (w':=w.alloc (.map #[] 0)) rfl ?_;have T:Grow w (w.alloc (.map #[] 0)):=Mod.alloc _ _ _;have o:HM .string (w.alloc (.map #[] 0)) w.heap.size (fun _=>none):=HM.make .string w;have E:(w.alloc (.map #[] 0)).heap.size=w.heap.size+1:=by simp
 generalize w.alloc (.map #[] 0)=w1 at T o E ⊢;obtain⟨sv,ks,S⟩:=ks;obtain⟨U,_,_,_,rfl,_⟩:=id h;refine⟨(SH (.pointer (some ⟨U,0,none⟩)) (.slice none 0 0) (.slice none 0 0) w.heap.size 0).toArray,by kernel_rfl,?_⟩;refine Da (vs:=SH (.pointer (some ⟨U,0,none⟩)) (.slice none 0 0) (.slice none 0 0) w.heap.size 0) fun b w2 hb X V I J=>?_;have i:=T.trans V;have y:=h.grow i;have Y:=i.size;refine⟨i,b,by omega,rfl,fun _=>False,.slice none 0 0,.slice none 0 0,w.heap.size,?_⟩;refine⟨fun j v Z=>by have:=I j v Z;rwa [AI] at this,fun j hj=>by have:=J j hj;rwa [AI] at this,?_⟩;refine⟨y,AF.nil,AF.nil,⟨_,o.mod V fun h=>h,Dx.z⟩,Tab.Inv.z _,⟨⟨by omega,by omega⟩,fun h=>h⟩,⟨⟨by omega,by omega⟩,fun h=>h,by omega⟩,(fun g O=>nomatch O),(fun g O=>nomatch O),(fun x B=>B.elim),fun x B=>⟨fun e=>by have:=Q x B;omega,by have:=Q x B;omega⟩⟩
theorem Wj{F:Nat->Prop}{W:World}{b:Nat}{ks:SKs}{t:Tab (List Attr)}(h:EV F W b ks t)(o:t.places.length<=1099511627776) :
  AB prog 67 [.pointer (some ⟨b,0,none⟩)] (fun v' w'=>v'=.int .i64 (1+t.places.length-t.free.length)/\Grow W w') W:=by
 apply Y5;refine AA (LD h) ?_;rintro _ _ ⟨rfl,rfl⟩;rename World=>W
 obtain⟨C,pl,fr,bm,h⟩:=h;have y:=Tab.NP h.core.inv;rw[Aq];refine AT (CZ (fun W'=>Grow W W') (Mod.drew _ _) ?_);refine AH ?_;rw[AG,AI];refine Ar (fun w2 g=>g.cell (h.cells 1 _ rfl) fun h=>h) ?_;obtain⟨a,c,i,_⟩:=h.core.FL.sl.shape;obtain⟨B,E,j,_⟩:=h.core.I9.sl.shape;rw[i,AS,AR];refine AH ?_;rw[AG,AI];refine Ar (fun w2 g=>g.cell (h.cells 2 _ rfl) fun h=>h) ?_;rw[j,AS,Av,List.length_map];intro W' g';refine⟨?_,g'⟩;rw[wrap64 (x:=1+(t.places.length:Int)) (by omega) (by omega),wrap64 (by omega) (by omega)]
theorem K9{F:Nat->Prop}{W:World}{b:Nat}{ks:SKs}{t:Tab (List Attr)}{id:Int}(h:EV F W b ks t)(hs:t.places.length<=1099511627776)(h0:-9223372036854775808<=id)(h1:id<=9223372036854775807) :
  AB prog 106 [.pointer (some ⟨b,0,none⟩),.int .i64 id] (fun v' w'=>Grow W w'/\match t.ask [] id with
   |some p=>∃sv,v'=.tuple #[.agg #[sv,.int .i64 p.held],.int .i64 0]/\sv.oneCell'=true/\Cu F w' sv p.set
   | none=>v'=.tuple #[.agg #[.slice none 0 0,.int .i64 0],.int .i64 5]) W:=by
 apply X6;refine EE fun b4 Y ax ay V _ Z=>?_;have a1:=h.grow V;obtain⟨C,pl,fr,bm,X⟩:=h;have B:=X.mod V fun _ _ h=>h;obtain⟨pa,pc,E,_⟩:=X.core.FL.sl.shape;have J:=B.core.FL.sl;rw[E] at J;have box:∀(vs:List Value) {W':World} {K:Cont},vs.length=2->(∀v∈vs,v.oneCell'=true)->Grow Y W'->(∀o,Grow W o->K (.agg vs.toArray) o)->AY 2 (.pointer (some ⟨b4,0,none⟩)) (.agg vs.toArray) (fun w=>Ac 2 (.pointer (some ⟨b4,0,none⟩)) K w) W':=by
  intro vs W' K hn ho g' hK;refine CT hn ho (fun j hj=>(Z j hj).mod g' fun h=>h) fun o m hc _=>?_;exact Ah hn hc (hK _ ((V.trans g').next m fun x hx e=>by omega))
 have no:t.ask [] id=none->∀{o:World},Grow W o->Grow W o/\match t.ask [] id with
   |some p=>∃sv,Value.tuple #[.agg #[.slice none 0 0,.int .i64 0],.int .i64 5]=.tuple #[.agg #[sv,.int .i64 p.held],.int .i64 0]/\sv.oneCell'=true/\Cu F o sv p.set
   |none=>Value.tuple #[.agg #[.slice none 0 0,.int .i64 0],.int .i64 5]=.tuple #[.agg #[.slice none 0 0,.int .i64 0],.int .i64 5]:=fun e o g=>⟨g,by rw[e]⟩
 refine AW (fun _ W'=>Grow Y W'/\∃(i:Nat) (p:Ent (List Attr)),id=(i:Int)+1/\t.places[i]?=some p/\0<p.held) ?_ ?_
 .rintro _ W2 ⟨g2,i,p,rfl,hp,a6⟩ _;have I:=(List.getElem?_eq_some_iff.1 hp).1;have Q:=(List.getElem?_eq_some_iff.1 hp).2;refine AH ?_;refine Bl (g2.cell (B.cells 1 _ rfl) fun h=>h) ?_;rw[Av,wrap64 (by omega) (by omega),show((i:Int)+1-1)=(i:Int) by omega,E];obtain⟨q,r,rfl,_,hr,hc,O⟩:=J.get I;obtain⟨si,rfl,S⟩:=O;refine AZ I (Ah hr (fun j u hu=>by rw[Addr.add_add];exact g2.cell (hc j u hu) fun h=>h) ?_);obtain⟨sa,sc,rfl,_⟩:=S.shape;refine box [_,_] rfl (fun u hu=>by simp at hu;rcases hu with rfl|rfl<;>rfl) g2 fun o y=>?_;rw[Tab.TS hp a6];refine⟨y,_,by rw[Q],rfl,?_⟩;have a7:Cu C W (.slice sa t.places[i].set.length sc) t.places[i].set:=by
   obtain⟨q',r',e',_,b0,a8,s',e2,ak⟩:=(E▸X.core.FL.sl).get I;cases e';have c0:=V.cell (a8 0 s' (by rw[e2];rfl)) fun h=>h;have c1:=hc 0 _ rfl;rw[c0] at c1;cases c1;exact ak
  rw[<-Q];exact(a7.sub (fun x _ hx=>(X.core.cf x hx).1) (by decide) fun _ _ h=>h).grow y (by decide) fun _ _ h=>h
 .refine AA (LD a1) ?_;rintro _ _ ⟨rfl,rfl⟩;rename World=>Y
  rw[Aq];refine AT ?_;rw[Am];refine AE (fun T=>?_) fun T=>?_
  .refine AH ?_;refine Bl (B.cells 4 _ rfl) ?_;refine⟨#[.slice none 0 0,.int .i64 t.empty],by kernel_rfl,?_⟩;refine box [.slice none 0 0,.int .i64 t.empty] rfl (fun u hu=>by simp at hu;rcases hu with rfl|rfl<;>rfl) (Mod.refl _ _) fun o y=>?_;have ea:t.ask [] id=some ⟨[],t.empty⟩:=by unfold Tab.ask;rw[if_pos T]
   rw[ea];exact⟨y,_,rfl,rfl,BJ.nil⟩
  refine HU (fun al=>?_) fun U=>?_
  .refine⟨#[.slice none 0 0,.int .i64 0],by kernel_rfl,?_⟩;exact box [.slice none 0 0,.int .i64 0] rfl (fun u hu=>by simp at hu;rcases hu with rfl|rfl<;>rfl) (Mod.refl _ _) fun o y=>no (by unfold Tab.ask;rw[if_neg T,if_pos al]) y
  have an:0<=id:=by omega
  refine AH ?_;refine Bl (B.cells 1 _ rfl) ?_;rw[E,AS,BK];refine AE (fun av=>?_) fun b1=>?_
  .refine⟨#[.slice none 0 0,.int .i64 0],by kernel_rfl,?_⟩;refine box [.slice none 0 0,.int .i64 0] rfl (fun u hu=>by simp at hu;rcases hu with rfl|rfl<;>rfl) (Mod.refl _ _) fun o y=>no ?_ y;unfold Tab.ask;rw[if_neg T,if_neg U,List.getElem?_eq_none (by omega)]
  obtain⟨i,rfl⟩:∃i:Nat,id=(i:Int)+1:=⟨(id-1).toNat,by omega⟩;have I:i<t.places.length:=by omega
  refine AH ?_;refine Bl (B.cells 1 _ rfl) ?_;rw[Av,wrap64 (by omega) (by omega),show((i:Int)+1-1)=(i:Int) by omega,E];obtain⟨q,r,rfl,_,hr,hc,O⟩:=J.get I;obtain⟨si,rfl,S⟩:=O;refine AZ I ?_;rw[AG,Addr.add_add];refine AL (hc 1 _ rfl) ?_;rw[Am];refine AE (fun h0=>?_) fun h0=>⟨Mod.refl _ _,i,t.places[i],rfl,List.getElem?_eq_getElem I,by omega⟩;refine⟨#[.slice none 0 0,.int .i64 0],by kernel_rfl,?_⟩;refine box [.slice none 0 0,.int .i64 0] rfl (fun u hu=>by simp at hu;rcases hu with rfl|rfl<;>rfl) (Mod.refl _ _) fun o y=>no ?_ y;unfold Tab.ask;rw[if_neg T,if_neg U,show((i:Int)+1-1).toNat=i by omega,List.getElem?_eq_getElem I];simp only;rw[if_pos (by omega)]
end Go.Proofs.YtmdhibffnkhcnaaGreatDoor
namespace Go.K
open Go
def Tab.hold{α:Type}(t:Tab α)(z:α)(id:Int):Tab α:=match t.ask z id with
 |none=>t
 |some p=>if id=0 then { t with empty:=t.empty+1 } else t.HG (id-1).toNat ⟨p.set,p.held+1⟩
def Tab.release{α:Type}(t:Tab α)(z:α)(id:Int):Tab α:=match t.ask z id with
 |none=>t
 |some p=>if id=0 then { t with empty:=t.empty-1 } else if p.held=1 then t.drop z (id-1).toNat else t.HG (id-1).toNat ⟨p.set,p.held-1⟩
end Go.K
namespace Go.Proofs.YtmdhibffnkhcnaaGreatDoor
open Go Go.K Proofs.Tryz
theorem KF{ks:List DKey}{s:List Attr}(h:FQ ks s):s.length<=64/\∀a∈s,a.val.s.size<=64:=by
 classical
 have hb:¬JC s:=fun hb=>by
  have o:Bb ks s=0:=h.2.2;unfold Bb at o;rw[if_pos hb] at o;cases o
 refine⟨Nat.le_of_not_lt fun j=>hb (.inr (.inl j)),fun a ha=>Nat.le_of_not_lt fun j=>hb (.inr (.inr ⟨a,ha,fun i=>?_⟩))⟩;rcases i with i|i|i|i
 .rw[i.2.1] at j;exact absurd j (by simp[FY,ByteArray.size])
 .rw[i.2] at j;exact absurd j (by simp[FY,ByteArray.size])
 .rw[i.2.1] at j;exact absurd j (by simp[FY,ByteArray.size])
 .have:=i.2.2.1;omega
theorem NG{F C:Nat->Prop}{W:World}{b:Nat}{ks:SKs}{t:Tab (List Attr)}{pl fr:Value}{bm:Nat}(h:To F C W b ks t pl fr bm){id:Int}{p:Ent (List Attr)}(hp:t.ask [] id=some p):p.set.length<=64:=by
 by_cases h0:id=0
 .unfold Tab.ask at hp;rw[if_pos h0] at hp;cases hp;simp
 .obtain⟨i,_,h1,j⟩:=Tab.Il hp h0;exact(KF (h.inv.ok i p h1 j)).1
theorem Mn{F:Nat->Prop}{W:World}{b:Nat}{ks:SKs}{t:Tab (List Attr)}{id:Int}(h:EV F W b ks t)(E:t.places.length<=1099511627776)(h0:-9223372036854775808<=id)(h1:id<=9223372036854775807) :
  AB prog 51 [.pointer (some ⟨b,0,none⟩),.int .i64 id] (fun v' w'=>Grow W w'/\match t.ask [] id with
   |some p=>∃sv,v'=.tuple #[sv,.int .i64 0]/\IJ W.heap.size w' sv p.set
   | none=>v'=.tuple #[.slice none 0 0,.int .i64 5]) W:=by
 apply Z3;refine AA (K9 h E h0 h1) ?_;rintro v1 T ⟨y,hm⟩;cases ha:t.ask [] id with
 |none=>
  rw[ha] at hm;subst hm;refine BM ?_;refine BO (vs:=[.slice none 0 0,.int .i64 0]) rfl rfl (fun u hu=>by simp at hu;rcases hu with rfl|rfl<;>rfl) fun I w2 _ _ x i _=>?_;rw[Br];exact Ab (fun e=>by cases e) fun _=>⟨y.trans x,rfl⟩
 |some p=>
  rw[ha] at hm;obtain⟨sv,rfl,J,j⟩:=hm;refine BM ?_;refine BO (vs:=[sv,.int .i64 p.held]) rfl rfl (fun u hu=>by simp at hu;rcases hu with rfl|rfl;exact J;rfl) fun I w2 _ _ x i _=>?_;refine LQ ?_;rw[AG];refine AL (i 0 _ rfl) ?_;obtain⟨C,pl,fr,bm,O⟩:=h;have hl:=NG O.core ha;refine AA (G0 (j.grow x (by decide) fun _ _ h=>h) (by omega)) ?_;rintro v3 U ⟨B,Q⟩;have o:=y.trans x;exact⟨o.trans Q,v3,rfl,B.base fun g S=>by have:=(AF.BL B g S).1;have:=o.size;omega⟩
theorem KB{F C:Nat->Prop}{W:World}{b:Nat}{ks:SKs}{t:Tab (List Attr)}{pl fr:Value}{bm i n:Nat}{p:Ent (List Attr)}{K:World->Prop}{a:Addr}{c:Nat}(h:Ki F C W b ks t pl fr bm)(hp:t.places[i]?=some p)(h0:0<p.held)(T:0<n)(B:pl=.slice (some a) t.places.length c)
 (Y:∀W',Ki F C W' b ks (t.HG i ⟨p.set,n⟩) pl fr bm->Mod F W W'->K W'):BC (.pointer (some (a.add (i*2+1)))) (.int .i64 n) K W:=by
 have Z:=(List.getElem?_eq_some_iff.1 hp).1;have O:=(List.getElem?_eq_some_iff.1 hp).2;have E:=h.core.FL;rw[B] at E;have I:pl.ownBlock=some a.block:=by rw[B];rfl
 obtain ⟨U,f2,V,f4⟩:=h.core.pF _ I;have J:Mod (fun x=>x=a.block) W (W.setCell (a.add (i * 2+1)) (.int .i64 n)):=Mod.setCell _ _ _ (by rw [BW]);have hC:∀ x,x < W.heap.size->C x->¬ x=a.block:=fun x _ o e=>f2 (e ▸ o);obtain ⟨⟨u,hu⟩,hf,ho,hm⟩:=AF.store (R':=Fm C) (u:=.int .i64 n) (x':=⟨p.set,n⟩) (j:=1) E Z (by decide) rfl (fun r y _ hr=>hr.mod J hC) (fun r hr=>by
  obtain ⟨s,rfl,X⟩:=hr;refine ⟨s,rfl,?_⟩;rw [O] at X;exact X.mod J hC (by decide) fun _ _ h=>h)
 refine K3 rfl rfl hu hf (Y _ ?_ (hm.mono fun x _ e=>by rw[e];exact U));obtain⟨f,Q,S⟩:=h.core.map;refine⟨fun j v hv=>hm.cell (h.cells j v hv) (fun e=>V e.symm),fun j hj=>(h.live j hj).mod hm (fun e=>V e.symm),?_⟩;exact⟨h.core.IP.mod hm fun x _ o e=>(h.core.sf x o).1 (e▸U),by rw[B];exact ho,AF.mod h.core.I9 hm (fun g hg e=>(h.core.fF g hg).2.2.2.2 (by rw[I,e])) fun _ _ _ h=>h,⟨f,Q.mod hm (fun e=>f4 e.symm),S.HG hp h0 T⟩,h.core.inv.HG hp h0 T,h.core.fb,h.core.fm,h.core.pF,h.core.fF,fun x o=>⟨(h.core.cf x o).1,Nat.lt_of_lt_of_le (h.core.cf x o).2 hm.size⟩,fun x o=>⟨(h.core.sf x o).1,Nat.lt_of_lt_of_le (h.core.sf x o).2 hm.size⟩⟩
theorem HJ{F C:Nat->Prop}{W:World}{b:Nat}{ks:SKs}{t:Tab (List Attr)}{pl fr:Value}{bm n:Nat}{K:World->Prop}(h:Ki F C W b ks t pl fr bm)
 (o:∀W',Ki F C W' b ks { t with empty:=n } pl fr bm->Mod F W W'->K W'):BC (.pointer (some ⟨b,4,none⟩)) (.int .i64 n) K W:=by
 refine Ex h.cells (fun j i=>h.live j i) (q:=4) (show 4<5 by decide) rfl rfl fun W' hm hc hl=>?_;refine o W' ⟨hc,fun j i=>hl j i,?_⟩ (hm.mono fun x _ e=>by rw[e];exact h.core.fb.1);have:=h.core.mod hm fun x _ y=>y;exact⟨this.IP,this.FL,this.I9,this.map,⟨this.inv.PA,this.inv.SQ,this.inv.Gy,this.inv.ok⟩,this.fb,this.fm,this.pF,this.fF,this.cf,this.sf⟩
theorem Sx{F:Nat->Prop}{W:World}{b:Nat}{ks:SKs}{t:Tab (List Attr)}{id:Int}(h:EV F W b ks t)(O:t.Small 1099511627776)(h0:-9223372036854775808<=id)(h1:id<=9223372036854775807) :
  AB prog 152 [.pointer (some ⟨b,0,none⟩),.int .i64 id] (fun v' w'=>v'=.int .i64 (if(t.ask [] id).isSome then 0 else 5)/\IW F W w' b ks (t.hold [] id)) W:=by
 apply XZ;refine AA (K9 h O.pl h0 h1) ?_;rintro v1 w1 ⟨Y,hm⟩;unfold Tab.hold;cases ha:t.ask [] id with
 |none=>
  rw[ha] at hm;subst hm;refine BM ?_;refine BO (vs:=[.slice none 0 0,.int .i64 0]) rfl rfl (fun u hu=>by simp at hu;rcases hu with rfl|rfl<;>rfl) fun b5 w2 _ _ Q S _=>?_;rw[Br];have j:=Y.trans Q;exact Ab (fun e=>by cases e) fun _=>⟨rfl,.same (h.grow j) (j.mono fun _ _ h=>h.elim)⟩
 |some p=>
  rw[ha] at hm;obtain⟨sv,rfl,ho,Z⟩:=hm;refine BM ?_;refine BO (vs:=[sv,.int .i64 p.held]) rfl rfl (fun u hu=>by simp at hu;rcases hu with rfl|rfl;exact ho;rfl) fun b5 w2 _ _ Q S _=>?_;have j:=Y.trans Q;obtain⟨C,pl,fr,bm,hR⟩:=h;have o:=hR.mod j fun _ _ h=>h;refine LQ ?_;rw[Am];refine AE (fun I=>?_) fun I=>?_
  .refine AH ?_;refine Bl (o.cells 4 _ rfl) ?_;have:=O.em;rw[AR,wrap64 (by omega) (by omega)];refine AH ?_;rw[AG,AI];have T:((t.empty:Int)+1)=((t.empty+1:Nat):Int):=by omega
   rw[T];refine HJ o fun W' x y=>⟨rfl,?_⟩;dsimp only;rw[if_pos I];exact .same ⟨C,pl,fr,bm,x⟩ ((j.mono fun _ _ h=>h.elim).trans y)
  .obtain⟨i,rfl,hp,U⟩:=Tab.Il ha I;have J:=(List.getElem?_eq_some_iff.1 hp).1;have V:=(List.getElem?_eq_some_iff.1 hp).2;refine AH ?_;refine Bl (o.cells 1 _ rfl) ?_;obtain⟨pa,pc,B,_⟩:=o.core.FL.sl.shape;have E:=o.core.FL.sl;rw[B] at E;rw[Av,wrap64 (by omega) (by omega),show((i:Int)+1-1)=(i:Int) by omega,B];obtain⟨q,r,rfl,_,hr,hc,X⟩:=E.get J;obtain⟨si,rfl,a1⟩:=X;refine AZ J ?_;rw[AG,Addr.add_add];refine AL (hc 1 _ rfl) ?_;have a6:=O.he t.places[i] (List.getElem_mem J);rw[AR,wrap64 (by omega) (by omega)];refine AZ J ?_;rw[AG,Addr.add_add];have T:((t.places[i].held:Int)+1)=((p.held+1:Nat):Int):=by rw[V];omega
   rw[T];refine KB o hp U (n:=p.held+1) (by omega) B fun W' x y=>⟨rfl,?_⟩;dsimp only;rw[if_neg I,Int.toNat_natCast];exact .same ⟨C,pl,fr,bm,x⟩ ((j.mono fun _ _ h=>h.elim).trans y)
structure Dd (F C:Nat->Prop) (W:World) (b:Nat) (ks:SKs) (places:List (Ent (List Attr))) (free:List Nat) (em:Nat) (f:Value->Option Value) (pl fr:Value) (bm:Nat):Prop where
 cells:∀j v,(SH ks.sv pl fr bm em)[j]?=some v->W.cell? ⟨b,j,none⟩=some v
 live:∀j,j<5->Live W ⟨b,j,none⟩
 IP:DG ks.S W ks.sv ks.ks
 FL:AF 0 Px 2 (Fm C) W pl places
 I9:AF 0 3 1 Kx W fr (free.map fun i:Nat=>(i:Int))
 map:HM .string W bm f
 fb:F b/\¬C b
 fm:F bm/\¬C bm/\bm≠b
 pF:∀g,pl.ownBlock=some g->F g/\¬C g/\g≠b/\g≠bm
 fF:∀g,fr.ownBlock=some g->F g/\¬C g/\g≠b/\g≠bm/\pl.ownBlock≠some g
 cf:∀x,C x->F x/\x<W.heap.size
 sf:∀x,ks.S x->¬F x/\x<W.heap.size
section
variable {F C M:Nat->Prop}{W W':World}{b:Nat}{ks:SKs}{t:Tab (List Attr)}{places:List (Ent (List Attr))}{free:List Nat}{em:Nat}{f:Value->Option Value}{pl fr:Value}{bm:Nat}
theorem Ki.m(h:Ki F C W b ks t pl fr bm):∃f,Dd F C W b ks t.places t.free t.empty f pl fr bm/\Dx t f:=by
 obtain⟨f,i,j⟩:=h.core.map;exact⟨f,⟨h.cells,h.live,h.core.IP,h.core.FL,h.core.I9,i,h.core.fb,h.core.fm,h.core.pF,h.core.fF,h.core.cf,h.core.sf⟩,j⟩
theorem Dd.r(h:Dd F C W b ks t.places t.free t.empty f pl fr bm)(i:Dx t f)(j:t.Inv (FQ ks.ks)):Ki F C W b ks t pl fr bm:=
 ⟨h.cells,h.live,h.IP,h.FL,h.I9,⟨f,h.map,i⟩,j,h.fb,h.fm,h.pF,h.fF,h.cf,h.sf⟩
theorem Dd.mod(h:Dd F C W b ks places free em f pl fr bm)(hm:Mod M W W')(o:∀x,F x\/ks.S x->¬M x):Dd F C W' b ks places free em f pl fr bm:=by
 have hC:∀ x,x < W.heap.size->C x->¬ M x:=fun x _ i=>o x (.inl (h.cf x i).1);exact ⟨fun j v B=>hm.cell (h.cells j v B) (o b (.inl h.fb.1)),fun j E=>(h.live j E).mod hm (o b (.inl h.fb.1)),h.IP.mod hm fun x _ i=>o x (.inr i),AF.mod h.FL hm (fun g y=>o g (.inl (h.pF g y).1)) fun r x _ i=>i.mod hm hC,AF.mod h.I9 hm (fun g y=>o g (.inl (h.fF g y).1)) fun _ _ _ h=>h,
  h.map.mod hm (o bm (.inl h.fm.1)),h.fb,h.fm,h.pF,h.fF,fun x i=>⟨(h.cf x i).1,Nat.lt_of_lt_of_le (h.cf x i).2 hm.size⟩,fun x i=>⟨(h.sf x i).1,Nat.lt_of_lt_of_le (h.sf x i).2 hm.size⟩⟩
theorem Dd.Tp{y:Value->Option Value}(h:Dd F C W b ks places free em f pl fr bm)(hm:Mod (fun x=>x=bm) W W')(B:HM .string W' bm y):Dd F C W' b ks places free em y pl fr bm:=by
 have hC:∀ x,x < W.heap.size->C x->¬ x=bm:=fun x _ i e=>h.fm.2.1 (e ▸ i);have hb:¬ b=bm:=fun e=>h.fm.2.2 e.symm;exact ⟨fun j v E=>hm.cell (h.cells j v E) hb,fun j I=>(h.live j I).mod hm hb,h.IP.mod hm fun x _ i e=>(h.sf x i).1 (e ▸ h.fm.1),AF.mod h.FL hm (fun g o=>(h.pF g o).2.2.2) fun r x _ i=>i.mod hm hC,AF.mod h.I9 hm (fun g o=>(h.fF g o).2.2.2.1) fun _ _ _ h=>h,
  B,h.fb,h.fm,h.pF,h.fF,fun x i=>⟨(h.cf x i).1,Nat.lt_of_lt_of_le (h.cf x i).2 hm.size⟩,fun x i=>⟨(h.sf x i).1,Nat.lt_of_lt_of_le (h.sf x i).2 hm.size⟩⟩
theorem Dd.Hz{i:List (Ent (List Attr))}{g:Nat}(h:Dd F C W b ks places free em f pl fr bm)(B:pl.ownBlock=some g)(hm:Mod (fun x=>x=g) W W')(hp:AF 0 Px 2 (Fm C) W' pl i):Dd F C W' b ks i free em f pl fr bm:=by
 obtain ⟨I,J,E,O⟩:=h.pF g B;have hC:∀ x,x < W.heap.size->C x->¬ x=g:=fun x _ o e=>J (e ▸ o);exact ⟨fun j v Q=>hm.cell (h.cells j v Q) (fun e=>E e.symm),fun j S=>(h.live j S).mod hm (fun e=>E e.symm),h.IP.mod hm (fun x _ o e=>(h.sf x o).1 (e ▸ I)),hp,AF.mod h.I9 hm (fun g' y e=>(h.fF g' y).2.2.2.2 (by rw [B,e])) fun _ _ _ h=>h,
  h.map.mod hm (fun e=>O e.symm),h.fb,h.fm,h.pF,h.fF,fun x o=>⟨(h.cf x o).1,Nat.lt_of_lt_of_le (h.cf x o).2 hm.size⟩,fun x o=>⟨(h.sf x o).1,Nat.lt_of_lt_of_le (h.sf x o).2 hm.size⟩⟩
theorem Dd.YV{F':Nat->Prop}{B:Value}{free':List Nat}{K:World->Prop}{Mf:Nat->Prop}(h:Dd F C W b ks places free em f pl fr bm)(hm:Mod Mf W W')(S:∀x,Mf x->fr.ownBlock=some x)(J:∀x,F x->F' x)(T:∀x,F' x->F x\/W.heap.size<=x)
 (ho:AF 0 3 1 Kx W' B (free'.map fun i:Nat=>(i:Int)))(hn:∀g,B.ownBlock=some g->fr.ownBlock=some g\/W.heap.size<=g/\F' g)(O:B.oneCell'=true)(U:B.cells=#[B])
 (hK:∀E,Dd F' C E b ks places free' em f pl B bm->Mod (fun x=>x=b) W' E->K E):BC (.pointer (some ⟨b,2,none⟩)) B K W':=by
 have hb:∀ x,Mf x->F x/\¬ C x/\x≠b/\x≠bm/\pl.ownBlock≠some x:=fun x o=>h.fF x (S x o);have hC:∀ x,x < W.heap.size->C x->¬ Mf x:=fun x _ o e=>(hb x e).2.1 o;refine Ex (vs:=SH ks.sv pl fr bm em) (fun j v hv=>hm.cell (h.cells j v hv) fun e=>(hb b e).2.2.1 rfl) (fun j V=>(h.live j V).mod hm fun e=>(hb b e).2.2.1 rfl) (q:=2) (show 2 < 5 by decide) O U fun E y hc hl=>?_;have Q:=World.block_lt_of_cell? W _ (h.cells 4 _ rfl);have X:∀ x,x < W'.heap.size->C x->¬ x=b:=fun x _ o e=>h.fb.2 (e ▸ o);have Y:=AF.BL h.FL;have a1:=h.map.lt;refine hK E ⟨hc,fun j V=>hl j V,(h.IP.mod hm fun x _ o e=>(h.sf x o).1 (hb x e).1).mod y (fun x _ o e=>(h.sf x o).1 (e ▸ h.fb.1)),AF.mod (AF.mod (R':=Fm C) h.FL hm (fun g I e=>(hb g e).2.2.2.2 I) fun r x _ o=>o.mod hm hC) y (fun g I=>(h.pF g I).2.2.1) fun r x _ o=>o.mod y X,AF.mod ho y (fun g I e=>?_) fun _ _ _ h=>h,
  (h.map.mod hm fun e=>(hb bm e).2.2.2.1 rfl).mod y h.fm.2.2,⟨J _ h.fb.1,h.fb.2⟩,⟨J _ h.fm.1,h.fm.2⟩,fun g I=>⟨J _ (h.pF g I).1,(h.pF g I).2⟩,fun g I=>?_,fun x o=>⟨J _ (h.cf x o).1,Nat.lt_of_lt_of_le (h.cf x o).2 (Nat.le_trans hm.size y.size)⟩,fun x o=>⟨fun e=>(T x e).elim (h.sf x o).1 fun e=>by have:=(h.sf x o).2;omega,Nat.lt_of_lt_of_le (h.sf x o).2 (Nat.le_trans hm.size y.size)⟩⟩ y
 .subst e;rcases hn g I with e|⟨e,_⟩
  .exact(h.fF g e).2.2.1 rfl
  .have:g<W.heap.size:=Q;omega
 .rcases hn g I with e|⟨e,e'⟩
  .have:=h.fF g e;exact⟨J _ this.1,this.2⟩
  .refine⟨e',fun hc=>by have:=(h.cf g hc).2;omega,fun Z=>?_,fun Z=>by omega,fun Z=>by have:=(Y g Z).2;omega⟩;have:b<W.heap.size:=Q;omega
end
end Go.Proofs.YtmdhibffnkhcnaaGreatDoor
