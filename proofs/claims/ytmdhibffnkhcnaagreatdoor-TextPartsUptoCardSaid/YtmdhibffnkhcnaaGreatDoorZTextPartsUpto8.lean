/- parts of the proof, written short by a program of ours -/
import Derived.Test.YtmdhibffnkhcnaaGreatDoorZTextPartsUpto7
import Derived.Lib.Zigzag
import Derived.Laws.Cover3
set_option linter.unusedSimpArgs false
set_option linter.unusedVariables false
namespace Go.Proofs.YtmdhibffnkhcnaaGreatDoor
open Go Go.K Proofs.Tryz
variable {v0 v1 v2 v3 v4 v5 v6 v7 v8 v9:Value}{K:Cont}{w:World}
theorem cZ(h: Ar (fun _vs S=>∀_:Env,
 Ak v2 fun o=>
 Ay [(.int .i64 0)] (fun i j w2=>∀_:Env,
 Be .i64 (nth i 0) o fun x=>
 AD x
 (Bf 3 v2 (nth i 0) fun t22=>
 AM 0 t22 fun y=>
 AK y (fun B T=>
 AB prog 34 [B] (fun t25 w4=>
 EZ .i64 t25 (.int .i64 100) fun E=>
 AD E
 (K (.bool false) w4)
 (AX .i64 (nth i 0) (.int .i64 1) fun I=>
 j [I] w4)) T) w2)
 (K (.bool true) w2)) S) (fun J=>
 Ak v2 fun t9=>
 EZ .i64 t9 (.int .i64 30) fun O=>
 AD O
 (K (.bool false) w)
 (EZ .i64 v1 (.int .i64 2000) fun Q=>
 AD Q
 (K (.bool false) w)
 (J [] w)))):AB prog 9 [v0,v1,v2] K w:=cO (aN (.cut [] [(6,6),(8,14)] (aN (aO aE .nil)) (aO (aN (.node [17] [(6,7),(17,27)] (aN (aO aE (aO (aN (aN (aO aE .nil))) .nil))) .nil)) aE))) func9 h (by kernel_rfl)
theorem aT(h: Ae [(0,1),(1,1),(2,1),(3,1),(4,1),(5,1)] [(.int .i64 0),(.bool false),(.int .u8 0),(.bool false),(.bool false),(.int .i64 0)] [(0,(.int .i64 1)),(2,(.int .u8 1))] fun t9=>
 Bc 65 6 1 [(.int .i64 0),(.bool false),(.int .u8 0),(.bool false),(.bool false),(.int .i64 0)] [(0,t9)] (fun T w1=>
 AB prog 8 [T] (fun j w2=>
 AO 0 j fun U=>
 AO 1 j fun V=>
 AB prog 11 [U,(.int .i64 100)] (fun o S=>
 AO 0 o fun i=>
 AO 1 o fun X=>
 Ar (fun _vs w4=>∀_:Env,
 Ae [(0,1),(1,1),(2,1),(3,1)] [(.int .u8 0),(.int .i64 0),(.int .u64 0),(.string (ByteArray.mk #[]))] [(0,(.int .u8 1)),(1,(.int .i64 1))] fun Y=>
 Ae [(0,1),(1,4)] [(.int .i64 0),(.int .u8 0),(.int .i64 0),(.int .u64 0),(.string (ByteArray.mk #[]))] [(0,(.int .i64 1)),(1,Y)] fun Z=>
 Bc 79 5 1 [(.int .i64 0),(.int .u8 0),(.int .i64 0),(.int .u64 0),(.string (ByteArray.mk #[]))] [(0,Z)] (fun x w5=>
 Ar (fun _vs_1 w6=>∀_:Env,
 Ar (fun _vs_2 w7=>∀_:Env,
 AB prog 14 [i,(.int .i64 1)] (fun y w8=>
 AO 0 y fun a1=>
 AO 1 y fun t70=>
 DT .i64 a1 (.int .i64 2) fun a6=>
 AD a6
 (DT .i64 t70 (.int .i64 0) fun a7=>
 AD a7
 (Ae [(0,1),(1,1),(2,1),(3,1),(4,1)] [(.int .u8 0),(.int .i64 0),(.slice none 0 0),(.slice none 0 0),(.slice none 0 0)] [(0,(.int .u8 3)),(1,(.int .i64 4))] fun a8=>
 Bc 83 5 1 [(.int .u8 0),(.int .i64 0),(.slice none 0 0),(.slice none 0 0),(.slice none 0 0)] [(0,a8)] (fun ak w9=>
 AB prog 12 [i,ak] (fun al an=>
 DT .i64 al (.int .i64 6) fun av=>
 K av an) w9) w8)
 (K (.bool false) w8))
 (K (.bool false) w8)) w7) (fun ax=>
 Ae [(0,1),(1,1),(2,1),(3,1),(4,1)] [(.int .u8 0),(.int .i64 0),(.slice none 0 0),(.slice none 0 0),(.slice none 0 0)] [(0,(.int .u8 1)),(1,(.int .i64 1))] fun t55=>
 Bc 21 1 1 [(.int .i32 0)] [(0,(.int .i32 10))] (fun ay b0=>
 Ae [(0,1),(1,1),(2,1),(3,1),(4,1)] [(.int .u8 0),(.int .i64 0),(.slice none 0 0),(.slice none 0 0),(.slice none 0 0)] [(0,(.int .u8 2)),(2,ay)] fun b1=>
 Bc 83 5 2 [(.int .u8 0),(.int .i64 0),(.slice none 0 0),(.slice none 0 0),(.slice none 0 0)] [(0,t55),(1,b1)] (fun b2 b3=>
 AB prog 12 [i,b2] (fun b4 B=>
 Dm .i64 b4 (.int .i64 0) fun b5=>
 AD b5
 (K (.bool false) B)
 (AB prog 13 [i] (fun b6 E=>
 Dm .i64 b6 (.int .i64 2) fun b7=>
 AD b7
 (K (.bool false) E)
 (ax [] E)) B)) b3) b0) w6)) (fun b8=>
 Bc 21 1 2 [(.int .i32 0)] [(0,(.int .i32 97)),(1,(.int .i32 98))] (fun b9 ba=>
 Ae [(0,1),(1,1),(2,1),(3,1),(4,1)] [(.int .u8 0),(.int .i64 0),(.slice none 0 0),(.slice none 0 0),(.slice none 0 0)] [(0,(.int .u8 2)),(2,b9),(3,x)] fun bc=>
 Bc 83 5 1 [(.int .u8 0),(.int .i64 0),(.slice none 0 0),(.slice none 0 0),(.slice none 0 0)] [(0,bc)] (fun bd bk=>
 AB prog 12 [i,bd] (fun bl I=>
 Dm .i64 bl (.int .i64 0) fun bp=>
 AD bp
 (K (.bool false) I)
 (AB prog 18 [i] (fun bs bx=>
 Ae [(0,1),(1,1)] [(.int .i64 0),(.slice none 0 0)] [(0,(.int .i64 2)),(1,x)] fun c4=>
 Ae [(0,1),(1,1)] [(.int .i64 0),(.slice none 0 0)] [(0,(.int .i64 1))] fun c6=>
 Bc 53 2 2 [(.int .i64 0),(.slice none 0 0)] [(0,c4),(1,c6)] (fun t45 c7=>
 AB prog 35 [bs,t45] (fun t46 O=>
 Br t46 fun c8=>
 AD c8
 (K (.bool false) O)
 (AB prog 27 [i] (fun c9 Q=>
 Dm .i64 c9 (.int .i64 2) fun ca=>
 AD ca
 (K (.bool false) Q)
 (b8 [] Q)) O)) c7) bx) I)) bk) ba) w5)) w4) (fun J=>
 Dm .i64 V (.int .i64 0) fun cc=>
 AD cc
 (K (.bool false) S)
 (Dm .i64 X (.int .i64 0) fun cd=>
 AD cd
 (K (.bool false) S)
 (CX i fun ch=>
 AD (.bool ch)
 (K (.bool false) S)
 (J [] S))))) w2) w1) w):AB prog 10 [] K w:=cO (aN (aN (aN (.cut [] [(0,0),(19,28)] (aN (aO aE .nil)) (aN (.cut [] [(0,0),(32,53)] (aN (aO aE .nil)) (.cut [] [(0,0),(54,65)] (aN (aO aE .nil)) (aN aE)))))))) func10 h (by kernel_rfl)
theorem Y0(h: Ar (fun _vs O=>∀_:Env,
 AB prog 36 [] (fun j w2=>
 AB prog 37 [] (fun o Q=>
 AB prog 38 [] (fun x w4=>
 AB prog 39 [v0] (fun y S=>
 Ae [(0,1),(1,1),(2,1),(3,1),(4,1),(5,1)] [(.pointer none),(.int .i64 0),(.pointer none),(.pointer none),(.pointer none),(.pointer none)] [(0,v0),(1,v1),(2,j),(3,o),(4,x),(5,y)] fun B=>
 BZ 94 B (fun i T=>
 Bc 21 1 1 [(.int .i32 0)] [(0,(.int .i32 10))] (fun E U=>
 AB prog 40 [i,(.int .i64 0),E,(.slice none 0 0)] (fun _t24 V=>
 K (.tuple #[i,(.int .i64 0)]) V) U) T) S) w4) Q) w2) O) (fun J=>
 Be .i64 v1 (.int .i64 1) fun X=>
 AD X
 (K (.tuple #[(.pointer none),(.int .i64 2)]) w)
 (KA .i64 v1 (.int .i64 536870912) fun I=>
 AD I
 (K (.tuple #[(.pointer none),(.int .i64 2)]) w)
 (J [] w)))):AB prog 11 [v0,v1] K w:=cO (aN (.cut [] [(4,5),(7,12)] (aN (aO aE .nil)) (aN (aN aE)))) func11 h (by kernel_rfl)
def S12(v0 v1:Value)(K:Cont)(w:World):Prop:=
 AB prog 41 [v0] (fun X V=>
 Br X fun Y=>
 AD Y
 (K (.int .i64 1) V)
 (Aw [6,11] [[],[0],[0,1],[0,1,2],[],[],[5],[],[7],[7,8],[7,8,9],[0,1,2,3,4,5,6,7,8,9,10],[0,1,2,3,4,5,6,7,8,9,10,11]] V.drew (fun M St=>
 AJ v0 fun Z=>
 AM 0 Z fun a1=>
 BC (St 3) a1 fun a6=>
 AB prog 17 [v0] (fun a7 w2=>
 Mod (M 6) V.drew w2/\
 AJ v0 fun t22=>
 AM 1 t22 fun a8=>
 BC (St 10) a8 fun ak=>
 AB prog 42 [a6,v1,a7,ak] (fun t25 w3=>
 Mod (M 11) w2 w3/\
 Dm .i64 t25 (.int .i64 0) fun al=>
 AD al
 (K t25 w3)
 (Ak v1 fun an=>
 Ay [(.int .i64 0),(.int .i64 0)] (fun vs o w4=>∀_:Env,
 Be .i64 (nth vs 1) an fun av=>
 AD av
 (Bf 5 v1 (nth vs 1) fun ax=>
 Ac 5 ax (fun ay w5=>
 Al 83 [(.int .u8 0),(.int .i64 0),(.slice none 0 0),(.slice none 0 0),(.slice none 0 0)] (fun O w6=>
 AZ 5 O ay (fun w7=>
 AM 0 O fun b0=>
 AK b0 (fun Q w8=>
 DT .u8 Q (.int .u8 1) fun b1=>
 AD b1
 (AM 1 O fun b2=>
 AK b2 (fun b3 w9=>
 AX .i64 (nth vs 0) b3 fun b4=>
 AM 4 O fun t45=>
 AK t45 (fun t46 b5=>
 AB prog 43 [v0,(nth vs 0),b4,t46] (fun _t47 b6=>
 AM 1 O fun b7=>
 AK b7 (fun t50 b8=>
 AX .i64 (nth vs 0) t50 fun b9=>
 AX .i64 (nth vs 1) (.int .i64 1) fun ba=>
 o [b9,ba] b8) b6) b5) w9) w8)
 (DT .u8 Q (.int .u8 3) fun t53=>
 AD t53
 (AM 1 O fun bc=>
 AK bc (fun bd bk=>
 AX .i64 (nth vs 0) bd fun bl=>
 AB prog 44 [v0,(nth vs 0),bl] (fun _t60 bp=>
 AX .i64 (nth vs 1) (.int .i64 1) fun B=>
 o [(nth vs 0),B] bp) bk) w8)
 (AX .i64 (nth vs 1) (.int .i64 1) fun E=>
 o [(nth vs 0),E] w8))) w7) w6) w5) w4)
 (Ak v1 fun bs=>
 Ay [(.int .i64 0),(.int .i64 0)] (fun i j S=>∀_:Env,
 Be .i64 (nth i 1) bs fun bx=>
 AD bx
 (Bf 5 v1 (nth i 1) fun t66=>
 Ac 5 t66 (fun c4 c6=>
 Al 83 [(.int .u8 0),(.int .i64 0),(.slice none 0 0),(.slice none 0 0),(.slice none 0 0)] (fun x c7=>
 AZ 5 x c4 (fun c8=>
 Ar (fun y c9=>∀_:Env,
 AM 0 x fun ca=>
 AK ca (fun t76 T=>
 DT .u8 t76 (.int .u8 2) fun t77=>
 AD t77
 (AM 2 x fun cc=>
 AK cc (fun cd ch=>
 AM 3 x fun cn=>
 AK cn (fun cv cx=>
 AB prog 40 [v0,(nth y 0),cd,cv] (fun _t84 dk=>
 AM 2 x fun dT=>
 AK dT (fun e1 e2=>
 Ak e1 fun e3=>
 AX .i64 (nth y 0) e3 fun e4=>
 AX .i64 (nth i 1) (.int .i64 1) fun e5=>
 j [e4,e5] e2) dk) cx) ch) T)
 (AX .i64 (nth i 1) (.int .i64 1) fun I=>
 j [(nth y 0),I] T)) c9) (fun J=>
 AM 0 x fun e6=>
 AK e6 (fun e7 U=>
 DT .u8 e7 (.int .u8 1) fun t70=>
 AD t70
 (AM 1 x fun e8=>
 AK e8 (fun e9 ea=>
 AX .i64 (nth i 0) e9 fun ec=>
 J [ec] ea) U)
 (J [(nth i 0)] U)) c8)) c7) c6) S)
 (K (.int .i64 0) S)) w4)) w3)) w2) V.drew))) w
theorem af(h:S12 v0 v1 K w):AB prog 12 [v0,v1] K w:=cO (aN (aO (aN (aO aE .nil)) (aO (aO (.dc [6,11] [[],[0],[0,1],[0,1,2],[],[],[5],[],[7],[7,8],[7,8,9],(aR 11),(aR 12)] []) (aN (aO aE .nil))) (aN (aO (aN (.node [6,31] [(6,6),(8,8),(31,61)] (aN (aO aE (aO (aN (aN (aN (aO aE (aN aE))))) .nil))) .nil)) (aN (aO (aN (.node [6,64] [(6,6),(10,10),(64,90)] (aN (aO aE (aO (aN (.cut [6] [(6,6),(68,74)] (aN aE) (aN (aO aE .nil)))) .nil))) .nil)) aE))))))) func12 h (by kernel_rfl)
theorem Z5(h: AB prog 41 [v0] (fun t4 j=>
 Br t4 fun t5=>
 AD t5
 (K (.int .i64 0) j)
 (AJ v0 fun o=>
 AM 2 o fun x=>
 AK x (fun t9 w2=>
 AB prog 45 [t9] (fun i y=>
 K i y) w2) j)) w):AB prog 13 [v0] K w:=cO (aN (aO (aN (aO aE .nil)) aE)) func13 h (by kernel_rfl)
theorem Z1(h: AB prog 41 [v0] (fun I E=>
 Br I fun J=>
 AD J
 (K (.tuple #[(.int .i64 0),(.int .i64 1)]) E)
 (AJ v0 fun j=>
 AM 2 j fun o=>
 AK o (fun x w2=>
 AB prog 46 [x,v1] (fun i O=>
 AO 0 i fun y=>
 AO 1 i fun B=>
 K (.tuple #[y,B]) O) w2) E)) w):AB prog 14 [v0,v1] K w:=cO (aN (aO (aN (aO aE .nil)) aE)) func14 h (by kernel_rfl)
theorem ZL(h: AB prog 41 [v0] (fun t4 j=>
 Br t4 fun t5=>
 AD t5
 (K (.int .i64 0) j)
 (AJ v0 fun o=>
 AM 2 o fun x=>
 AK x (fun t9 w2=>
 AB prog 54 [t9] (fun i y=>
 K i y) w2) j)) w):AB prog 17 [v0] K w:=cO (aN (aO (aN (aO aE .nil)) aE)) func17 h (by kernel_rfl)
theorem ZG(h: FJ 30 v0 (fun B w1=>
 Al 46 [(.slice none 0 0)] (fun i w2=>
 AK B (fun t6 w3=>
 AB prog 41 [t6] (fun t7 w4=>
 Br t7 fun t8=>
 AD t8
 (BD i (.slice none 0 0) (fun w5=>
 AK i (fun r0 w6=>
 K r0 w6) w5) w4)
 (AK B (fun t9 w7=>
 AJ t9 fun E=>
 AM 3 E fun I=>
 AK I (fun J w8=>
 AB prog 55 [J] (fun O Q=>
 Hy prog DF O 1 (fun args S T=>
 Al 108 [(.int .i64 0),(.int .i64 0)] (fun t3 U=>
 AZ 2 t3 (nth args 0) (fun V=>
 S (fun post j=>
 Aw [6] [[],[0],[0,1],[0,1,2],[],[4],[0,1,2,3,4,5],[0,1,2,3,4,5,6],[0,1,2,3,4,5,6,7],[0,1,2,3,4,5,6,7],[0,1,2,3,4,5,6,7,8],[0,1,2,3,4,5,6,7,8,9,10]] j.drew (fun M X=>
 BC (X 0) B fun Y=>
 AJ Y fun Z=>
 AM 5 Z fun a1=>
 BC (X 3) a1 fun a6=>
 AM 1 t3 fun a7=>
 BC (X 5) a7 fun a8=>
 AB prog 51 [a6,a8] (fun t22 o=>
 Mod (M 6) j.drew o/\
 AO 0 t22 fun ak=>
 AO 1 t22 fun _t24=>
 AK i (fun t25 al=>
 AM 0 t3 fun av=>
 AK av (fun ax ay=>
 Ae [(0,1),(1,1)] [(.int .i64 0),(.slice none 0 0)] [(0,ax),(1,ak)] fun b0=>
 Bc 53 2 1 [(.int .i64 0),(.slice none 0 0)] [(0,b0)] (fun b1 b2=>
 runK prog (Builtin.append_ #[46,46] 46 [t25,b1].toArray) (fun b3 b4=>
 BD i b3 (fun b5=>
 post .normal b5) b4) b2) ay) al) o) j.drew)) V) U) T) (bM (fun b6=>
 AK i (fun b7 b8=>
 BD i b7 (fun b9=>
 E2 Q.heap.size (fun ba=>
 AK i (fun x bc=>
 K x bc) ba) b9) b8) b6) (fun bd=>
 E2 Q.heap.size (fun bk=>
 AK i (fun y bl=>
 K y bl) bk) bd) []) Q) w8) w7) w4)) w3) w2) w1) w):AB prog 18 [v0] K w:=
 GC (P:=prog) (ok:=DF) (n:=33) (fn:=Tryz.f18) (c:=IB Tryz.f18) (rs:=[.cell 2 46]) (an:=(aN (aO (aN (aO aE .nil)) (aO (aN (aN (aO (.dc [6] [[],[0],[0,1],[0,1,2],[],[4],(aR 6),(aR 7),(aR 8),(aR 8),(aR 9),(aR 11)] []) .nil))) aE)))) FM mixed func18 (by kernel_rfl) (by kernel_rfl) (by kernel_rfl) (by kernel_rfl) (Eq.mp (by kernel_rfl) h)
theorem Zc(h: Ak v0 fun t7=>
 Ak v1 fun t9=>
 Dm .i64 t7 t9 fun y=>
 AD y
 (K (.bool false) w)
 (Ay [(.int .i64 0)] (fun vs i o=>∀_:Env,
 Ak v0 fun B=>
 Be .i64 (nth vs 0) B fun E=>
 AD E
 (Aw [22] [[],[],[0,1],[0,1,2],[0,1,2,3],[],[],[5,6],[5,6,7],[5,6,7,8],[0,1,2,3,4,5,6,7,8,9],[0,1,2,3,4,5,6,7,8,9,10],[0,1,2,3,4,5,6,7,8,9,10,11],[0,1,2,3,4,5,6,7,8,9,10,11],[0,1,2,3,4,5,6,7,8,9,10,11,12,13],[0,1,2,3,4,5,6,7,8,9,10,11,12,13,14],[0,1,2,3,4,5,6,7,8,9,10,11,12,13,14,15],[0,1,2,3,4,5,6,7,8,9,10,11],[0,1,2,3,4,5,6,7,8,9,10,11],[0,1,2,3,4,5,6,7,8,9,10,11,17,18],[0,1,2,3,4,5,6,7,8,9,10,11,17,18,19],[0,1,2,3,4,5,6,7,8,9,10,11,17,18,19,20],[0,1,2,3,4,5,6,7,8,9,10,11,12,13,14,15,16,17,18,19,20,21],[0,1,2,3,4,5,6,7,8,9,10,11,12,13,14,15,16,17,18,19,20,21,22],[0,1,2,3,4,5,6,7,8,9,10,11,12,13,14,15,16,17,18,19,20,21,22,23]] o.drew (fun M x=>
 Bf 2 v0 (nth vs 0) fun I=>
 AM 0 I fun J=>
 BC (x 4) J fun O=>
 Bf 2 v1 (nth vs 0) fun Q=>
 AM 0 Q fun t25=>
 BC (x 9) t25 fun S=>
 Dm .i32 O S fun T=>
 AD T
 (K (.bool false) o.drew)
 (Bf 2 v0 (nth vs 0) fun U=>
 AM 1 U fun V=>
 BC (x 16) V fun X=>
 Bf 2 v1 (nth vs 0) fun Y=>
 AM 1 Y fun Z=>
 BC (x 21) Z fun a1=>
 AB prog 58 [X,a1] (fun t39 w2=>
 Mod (M 22) o.drew w2/\
 Br t39 fun a6=>
 AD a6
 (K (.bool false) w2)
 (AX .i64 (nth vs 0) (.int .i64 1) fun j=>
 i [j] w2)) o.drew)))
 (K (.bool true) o)) w)):AB prog 22 [v0,v1] K w:=cO (aN (aO (aN (aO aE .nil)) (aO (aN (.node [5] [(4,5),(11,41)] (aO (aN aE) (aO (aO (.dc [22] [[],[],[0,1],[0,1,2],(aR 4),[],[],[5,6],[5,6,7],[5,6,7,8],(aR 10),(aR 11),(aR 12),(aR 12),(aR 14),(aR 15),(aR 16),(aR 12),(aR 12),[0,1,2,3,4,5,6,7,8,9,10,11,17,18],[0,1,2,3,4,5,6,7,8,9,10,11,17,18,19],[0,1,2,3,4,5,6,7,8,9,10,11,17,18,19,20],(aR 22),(aR 23),(aR 24)] []) (aO aE .nil)) .nil)) .nil)) aE))) func22 h (by kernel_rfl)
theorem Zg(h: Al 45 [(.int .i32 0),(.slice none 0 0)] (fun t4 w1=>
 AB prog 41 [v0] (fun t9 w2=>
 Br t9 fun O=>
 AD O
 (Ae [(0,1),(1,1)] [(.int .i32 0),(.slice none 0 0)] [] fun Q=>
 AZ 2 t4 Q (fun w3=>
 Ac 2 t4 (fun r0 w4=>
 K (.tuple #[r0,(.int .i64 1)]) w4) w3) w2)
 (Ar (fun _vs w5=>∀_:Env,
 AX .i64 v1 (.int .i64 1) fun t25=>
 AB prog 15 [v0,v1,t25] (fun j w6=>
 AO 0 j fun S=>
 AO 1 j fun o=>
 Dm .i64 o (.int .i64 0) fun T=>
 AD T
 (Ae [(0,1),(1,1)] [(.int .i32 0),(.slice none 0 0)] [] fun U=>
 AZ 2 t4 U (fun w7=>
 Ac 2 t4 (fun x w8=>
 K (.tuple #[x,o]) w8) w7) w6)
 (Bf 2 S (.int .i64 0) fun V=>
 Ac 2 V (fun X w9=>
 AZ 2 t4 X (fun Y=>
 Ac 2 t4 (fun y Z=>
 K (.tuple #[y,(.int .i64 0)]) Z) Y) w9) w6)) w5) (fun J=>
 Be .i64 v1 (.int .i64 0) fun a1=>
 AD a1
 (Ae [(0,1),(1,1)] [(.int .i32 0),(.slice none 0 0)] [] fun a6=>
 AZ 2 t4 a6 (fun a7=>
 Ac 2 t4 (fun B a8=>
 K (.tuple #[B,(.int .i64 5)]) a8) a7) w2)
 (AB prog 17 [v0] (fun ak E=>
 KA .i64 v1 ak fun al=>
 AD al
 (Ae [(0,1),(1,1)] [(.int .i32 0),(.slice none 0 0)] [] fun i=>
 AZ 2 t4 i (fun an=>
 Ac 2 t4 (fun I av=>
 K (.tuple #[I,(.int .i64 5)]) av) an) E)
 (J [] E)) w2)))) w1) w):AB prog 23 [v0,v1] K w:=cO (aN (aO (aN (aO aE .nil)) (.cut [] [(5,5),(12,20)] (aN (aO aE .nil)) (aN (aO (aN (aO aE .nil)) aE))))) func23 h (by kernel_rfl)
theorem aS(h: AB prog 41 [v0] (fun t4 j=>
 Br t4 fun t5=>
 AD t5
 (K (.int .i64 0) j)
 (AJ v0 fun o=>
 AM 5 o fun x=>
 AK x (fun t9 w2=>
 AB prog 67 [t9] (fun i y=>
 K i y) w2) j)) w):AB prog 27 [v0] K w:=cO (aN (aO (aN (aO aE .nil)) aE)) func27 h (by kernel_rfl)
theorem Zy(h: Aw [9,10] [[],[0],[0,1],[0,1,2],[],[4],[4,5],[4,5,6],[],[4,5,6,7,8],[0,1,2,3,4,5,6,7,8,9],[0,1,2,3,4,5,6,7,8,9,10],[0,1,2,3,4,5,6,7,8,9,10,11],[0,1,2,3,4,5,6,7,8,9,10,11],[0,1,2,3,4,5,6,7,8,9,10,11,12],[0,1,2,3,4,5,6,7,8,9,10,11,12,13,14]] w.drew (fun M St=>
 AJ v0 fun Z=>
 AM 5 Z fun a1=>
 BC (St 3) a1 fun a6=>
 AJ v0 fun a7=>
 AM 0 a7 fun t22=>
 BC (St 7) t22 fun a8=>
 AB prog 75 [a8,v3,(.bool false)] (fun t25 w1=>
 Mod (M 9) w.drew w1/\
 AB prog 74 [a6,t25] (fun I w2=>
 Mod (M 10) w1 w2/\
 AO 0 I fun j=>
 AO 1 I fun _t28=>
 AJ v0 fun ak=>
 AM 0 ak fun al=>
 AK al (fun an w3=>
 AB prog 75 [an,v3,(.bool true)] (fun av w4=>
 Ak v2 fun ax=>
 Ay [(.slice none 0 0),(.slice none 0 0),(.int .i64 0)] (fun vs o Y=>∀_:Env,
 Be .i64 (nth vs 2) ax fun ay=>
 AD ay
 (Ar (fun i w6=>∀_:Env,
 AX .i64 (nth vs 2) (.int .i64 1) fun b0=>
 o [(nth i 0),(nth i 1),b0] w6) (fun J=>
 Bf 1 v2 (nth vs 2) fun b1=>
 AK b1 (fun b2 w7=>
 DT .i32 b2 (.int .i32 10) fun b3=>
 AD b3
 (Ae [(0,1),(1,1)] [(.int .i64 0),(.int .i64 0)] [(0,(.int .i64 1))] fun t46=>
 Bc 108 2 1 [(.int .i64 0),(.int .i64 0)] [(0,t46)] (fun b4 w8=>
 runK prog (Builtin.append_ #[101,101] 101 [(nth vs 0),b4].toArray) (fun b5 w9=>
 Bc 43 1 1 [(.slice none 0 0)] [(0,av)] (fun b6 b7=>
 runK prog (Builtin.append_ #[50,50] 50 [(nth vs 1),b6].toArray) (fun b8 b9=>
 J [b5,b8] b9) b7) w9) w8) w7)
 (Ak (nth vs 0) fun ba=>
 Ba .i64 ba (.int .i64 1) fun t55=>
 KA .i64 t55 (.int .i64 0) fun bc=>
 AD bc
 (Ba .i64 (nth vs 2) (.int .i64 1) fun bd=>
 Bf 1 v2 bd fun bk=>
 AK bk (fun bl O=>
 Dm .i32 bl (.int .i32 10) fun bp=>
 AD bp
 (Bf 2 (nth vs 0) t55 fun bs=>
 AM 0 bs fun bx=>
 AK bx (fun t70 c4=>
 AX .i64 t70 (.int .i64 1) fun c6=>
 Bf 2 (nth vs 0) t55 fun c7=>
 AM 0 c7 fun c8=>
 BD c8 c6 (fun c9=>
 J [(nth vs 0),(nth vs 1)] c9) c4) O)
 (Ae [(0,1),(1,1)] [(.int .i64 0),(.int .i64 0)] [(0,(.int .i64 1)),(1,j)] fun t76=>
 Bc 108 2 1 [(.int .i64 0),(.int .i64 0)] [(0,t76)] (fun t77 ca=>
 runK prog (Builtin.append_ #[101,101] 101 [(nth vs 0),t77].toArray) (fun cc cd=>
 J [cc,(nth vs 1)] cd) ca) O)) w7)
 (Ae [(0,1),(1,1)] [(.int .i64 0),(.int .i64 0)] [(0,(.int .i64 1)),(1,j)] fun x=>
 Bc 108 2 1 [(.int .i64 0),(.int .i64 0)] [(0,x)] (fun y ch=>
 runK prog (Builtin.append_ #[101,101] 101 [(nth vs 0),y].toArray) (fun B cn=>
 J [B,(nth vs 1)] cn) ch) w7))) Y))
 (Aw [6,8] [[],[0],[0,1],[0,1,2],[],[],[4,5],[],[0,1,2,3,4,5,6,7]] Y.drew (fun Q S=>
 AJ v0 fun cv=>
 AM 4 cv fun cx=>
 BC (S 3) cx fun dk=>
 AB prog 50 [v0,v1] (fun dT E=>
 Mod (Q 6) Y.drew E/\
 AB prog 76 [dk,dT,(nth vs 1)] (fun _t88 T=>
 Mod (Q 8) E T/\
 AJ v0 fun e1=>
 AM 2 e1 fun e2=>
 AK e2 (fun e3 e4=>
 AB prog 77 [e3,v1,v2] (fun _t95 e5=>
 AB prog 78 [v0,v1,v1,(nth vs 0)] (fun _t100 e6=>
 AJ v0 fun U=>
 AM 5 U fun V=>
 AK V (fun X e7=>
 AB prog 79 [X,j] (fun _t106 e8=>
 K (.tuple #[]) e8) e7) e6) e5) e4) T) E) Y.drew))) w4) w3) w2) w1) w.drew)):AB prog 40 [v0,v1,v2,v3] K w:=cO (aO (.dc [9,10] [[],[0],[0,1],[0,1,2],[],[4],[4,5],[4,5,6],[],[4,5,6,7,8],(aR 10),(aR 11),(aR 12),(aR 12),(aR 13),(aR 15)] []) (aN (aN (aN (aO (aN (.node [11,12,37] [(11,14),(37,79)] (aN (aO aE (.cut [11,12] [(11,14),(39,78)] (aN (aN (aO aE (aN (aN aE))))) .nil))) .nil)) (aO (.dc [6,8] [[],[0],[0,1],[0,1,2],[],[],[4,5],[],(aR 8)] []) (aN aE))))))) func40 h (by kernel_rfl)
theorem ZR(h: CX v0 fun j=>
 AD (.bool (!j))
 (AJ v0 fun o=>
 AM 2 o fun x=>
 AK x (fun t9 y=>
 CX t9 fun i=>
 K (.bool (!i)) y) w)
 (K (.bool false) w)):AB prog 41 [v0] K w:=cO (aN aE) func41 h (by kernel_rfl)
theorem ZJ(h: AB prog 80 [v0,v1] (fun i j=>
 Dm .i64 i (.int .i64 0) fun o=>
 AD o
 (K i j)
 (Ar (fun vs w2=>∀_:Env,
 AD (nth vs 0)
 (K (.int .i64 5) w2)
 (AB prog 82 [v1,v2] (fun x V=>
 Br x fun y=>
 AD y
 (K (.int .i64 6) V)
 (AB prog 83 [v0,v1] (fun B w4=>
 Br B fun t39=>
 AD t39
 (K (.int .i64 7) w4)
 (AB prog 81 [v1] (fun E Y=>
 Ba .i64 v2 E fun I=>
 AB prog 84 [v1] (fun t46 X=>
 AX .i64 I t46 fun O=>
 EZ .i64 O v3 fun Q=>
 AD Q
 (K (.int .i64 8) X)
 (K (.int .i64 0) X)) Y) w4)) V)) w2)) (fun J=>
 Be .i64 v2 (.int .i64 1) fun S=>
 AD S
 (J [(.bool true)] j)
 (EZ .i64 v2 v3 fun t22=>
 AD t22
 (J [(.bool true)] j)
 (AB prog 81 [v1] (fun T Z=>
 EZ .i64 T v2 fun U=>
 J [U] Z) j))))) w):AB prog 42 [v0,v1,v2,v3] K w:=cO (aN (aO (aN (aN (aO aE .nil))) (aO (.cut [16] [(16,29)] .nil (aO aE (aN (aO aE (aN (aO aE (aN (aO aE .nil)))))))) aE))) func42 h (by kernel_rfl)
theorem Z9(h: Ar (fun _vs w1=>∀_:Env,
 AJ v0 fun V=>
 AM 0 V fun X=>
 AK X (fun Y w2=>
 AB prog 70 [Y,v3,(.bool false)] (fun I w3=>
 Ay [v1] (fun i j w4=>∀_:Env,
 Ar (fun _vs_2 Z=>∀_:Env,
 Aw [6,8] [[],[0],[0,1],[0,1,2],[],[],[4,5],[4,5,6],[0,1,2,3,4,5,6,7],[0,1,2,3,4,5,6,7,8],[0,1,2,3,4,5,6,7,8,9],[0,1,2,3,4,5,6,7,8,9],[0,1,2,3,4,5,6,7,8,9,10],[0,1,2,3,4,5,6,7,8,9,10,11,12]] Z.drew (fun M St=>
 AJ v0 fun a1=>
 AM 2 a1 fun t53=>
 BC (St 3) t53 fun a6=>
 AB prog 50 [v0,(nth i 0)] (fun a7 w6=>
 Mod (M 6) Z.drew w6/\
 AX .i64 a7 (.int .i64 1) fun a8=>
 AB prog 46 [a6,a8] (fun O w7=>
 Mod (M 8) w6 w7/\
 AO 0 O fun x=>
 AO 1 O fun _t61=>
 Ba .i64 x (.int .i64 1) fun ak=>
 Jw .i64 ak v2 fun Q=>
 Be .i64 (nth i 0) Q fun al=>
 AD al
 (AB prog 86 [v0,(nth i 0),Q,I] (fun _t73 w8=>
 j [x] w8) w7)
 (j [x] w7)) w6) Z.drew)) (fun an=>
 Ak I fun av=>
 EZ .i64 av (.int .i64 0) fun ax=>
 AD ax
 (Be .i64 (nth i 0) v2 fun ay=>
 AD ay
 (an [] w4)
 (K (.tuple #[]) w4))
 (K (.tuple #[]) w4))) w3) w2) w1) (fun J=>
 AJ v0 fun b0=>
 AM 0 b0 fun b1=>
 AK b1 (fun b2 w9=>
 AB prog 70 [b2,v3,(.bool true)] (fun S o=>
 Ak S fun b3=>
 EZ .i64 b3 (.int .i64 0) fun t22=>
 AD t22
 (Aw [6,9,11] [[],[0],[0,1],[0,1,2],[],[],[4,5],[],[],[4,5,6,7,8],[],[0,1,2,3,4,5,6,7,8,9,10]] o.drew (fun y T=>
 AJ v0 fun b4=>
 AM 4 b4 fun t25=>
 BC (T 3) t25 fun b5=>
 AB prog 50 [v0,v1] (fun b6 B=>
 Mod (y 6) o.drew B/\
 AB prog 50 [v0,v2] (fun b7 E=>
 Mod (y 9) B E/\
 AB prog 85 [b5,b6,b7,S] (fun _t34 U=>
 Mod (y 11) E U/\
 J [] U) E) B) o.drew))
 (J [] o)) w9) w)):AB prog 43 [v0,v1,v2,v3] K w:=cO (.cut [] [(8,8),(14,34)] (aN (aN (aO (.dc [6,9,11] [[],[0],[0,1],[0,1,2],[],[],[4,5],[],[],[4,5,6,7,8],[],(aR 11)] []) .nil))) (aN (aN (.node [10] [(10,13),(42,74)] (.cut [] [(42,49)] (aN aE) (aO (.dc [6,8] [[],[0],[0,1],[0,1,2],[],[],[4,5],[4,5,6],(aR 8),(aR 9),(aR 10),(aR 10),(aR 11),(aR 13)] [[6]]) (aO (aN (aN aE)) .nil))) .nil)))) func43 h (by kernel_rfl)
theorem Y6(h: Aw [6,9,10] [[],[0],[0,1],[0,1,2],[],[],[4,5],[],[],[4,5,6,7,8],[0,1,2,3,4,5,6,7,8,9]] w.drew (fun M I=>
 AJ v0 fun J=>
 AM 4 J fun O=>
 BC (I 3) O fun t9=>
 AB prog 50 [v0,v1] (fun i j=>
 Mod (M 6) w.drew j/\
 AB prog 50 [v0,v2] (fun o w2=>
 Mod (M 9) j w2/\
 AB prog 87 [t9,i,o] (fun _t16 E=>
 Mod (M 10) w2 E/\
 AJ v0 fun x=>
 AM 2 x fun y=>
 AK y (fun B w4=>
 AB prog 88 [B,v1,v2] (fun _t23 Q=>
 AB prog 78 [v0,v1,v2,(.slice none 0 0)] (fun _t27 S=>
 K (.tuple #[]) S) Q) w4) E) w2) j) w.drew)):AB prog 44 [v0,v1,v2] K w:=cO (aO (.dc [6,9,10] [[],[0],[0,1],[0,1,2],[],[],[4,5],[],[],[4,5,6,7,8],(aR 10)] []) aE) func44 h (by kernel_rfl)
theorem Sw(h: AJ v0 fun t9=>
 AM 2 t9 fun j=>
 AK j (fun o y=>
 AB prog 53 [o,v1] (fun i w2=>
 AO 0 i fun x=>
 AO 1 i fun _t15=>
 K x w2) y) w):AB prog 50 [v0,v1] K w:=cO (aN (aN aE)) func50 h (by kernel_rfl)
theorem aV(h: FJ 24 v0 (fun t3 j=>
 FJ 4 v2 (fun t5 w2=>
 AB prog 107 [v1] (fun o x=>
 AB prog 145 [o,(.func (.func 146) #[] #[t3,t5])] (fun i w4=>
 K i w4) x) w2) j) w):AB prog 75 [v0,v1,v2] K w:=cO (aN aE) func75 h (by kernel_rfl)
theorem Zv(h: Ba .i64 v1 (.int .i64 1) fun a8=>
 Ju .i64 a8 (.int .i64 0) fun t22=>
 AX .i64 v2 (.int .i64 1) fun ak=>
 AJ v0 fun al=>
 AM 3 al fun an=>
 AK an (fun av w1=>
 AB prog 111 [av] (fun ax w2=>
 Jw .i64 ak ax fun J=>
 AJ v0 fun ay=>
 AM 3 ay fun b0=>
 AK b0 (fun b1 w3=>
 AB prog 48 [b1,t22,J] (fun O w4=>
 AO 0 O fun t39=>
 AO 1 O fun _t40=>
 AJ v0 fun b2=>
 AM 3 b2 fun b3=>
 AK b3 (fun b4 w5=>
 AB prog 151 [b4,v1,v2,v3] (fun _t48 w6=>
 Ba .i64 v1 v2 fun b5=>
 AX .i64 J b5 fun t53=>
 Ak v3 fun t55=>
 Ay [t53,(.int .i64 0)] (fun vs B w7=>∀_:Env,
 Be .i64 (nth vs 1) t55 fun b6=>
 AD b6
 (Bf 2 v3 (nth vs 1) fun b7=>
 Ac 2 b7 (fun b8 w8=>
 Al 108 [(.int .i64 0),(.int .i64 0)] (fun Q w9=>
 AZ 2 Q b8 (fun b9=>
 AM 0 Q fun ba=>
 AK ba (fun bc bd=>
 AX .i64 (nth vs 0) bc fun bk=>
 AX .i64 (nth vs 1) (.int .i64 1) fun bl=>
 B [bk,bl] bd) b9) w9) w8) w7)
 (AJ v0 fun bp=>
 AM 3 bp fun bs=>
 AK bs (fun bx c4=>
 AB prog 48 [bx,t22,(nth vs 0)] (fun S c6=>
 AO 0 S fun T=>
 AO 1 S fun _t74=>
 Ak T fun t76=>
 Ay [(.int .i64 0)] (fun i j U=>∀_:Env,
 Be .i64 (nth i 0) t76 fun c7=>
 AD c7
 (Bf 2 T (nth i 0) fun c8=>
 Ac 2 c8 (fun c9 ca=>
 Al 108 [(.int .i64 0),(.int .i64 0)] (fun V cc=>
 AZ 2 V c9 (fun E=>
 Aw [6] [[],[0],[0,1],[0,1,2],[],[4],[0,1,2,3,4,5]] E.drew (fun M St=>
 AJ v0 fun cd=>
 AM 5 cd fun ch=>
 BC (St 3) ch fun cn=>
 AM 1 V fun cv=>
 BC (St 5) cv fun cx=>
 AB prog 152 [cn,cx] (fun _t87 X=>
 Mod (M 6) E.drew X/\
 AX .i64 (nth i 0) (.int .i64 1) fun dk=>
 j [dk] X) E.drew)) cc) ca) U)
 (Ak t39 fun dT=>
 Ay [(.int .i64 0)] (fun o x Y=>∀_:Env,
 Be .i64 (nth o 0) dT fun e1=>
 AD e1
 (Bf 2 t39 (nth o 0) fun e2=>
 Ac 2 e2 (fun e3 e4=>
 Al 108 [(.int .i64 0),(.int .i64 0)] (fun Z e5=>
 AZ 2 Z e3 (fun I=>
 Aw [6] [[],[0],[0,1],[0,1,2],[],[4],[0,1,2,3,4,5]] I.drew (fun e6 y=>
 AJ v0 fun e7=>
 AM 5 e7 fun e8=>
 BC (y 3) e8 fun e9=>
 AM 1 Z fun ea=>
 BC (y 5) ea fun a1=>
 AB prog 79 [e9,a1] (fun _t101 a6=>
 Mod (e6 6) I.drew a6/\
 AX .i64 (nth o 0) (.int .i64 1) fun a7=>
 x [a7] a6) I.drew)) e5) e4) Y)
 (K (.tuple #[]) Y)) U)) c6) c4) w7)) w6) w5) w4) w3) w2) w1) w):AB prog 78 [v0,v1,v2,v3] K w:=cO (aN (aN (aN (aN (aO (aN (.node [9,56] [(9,9),(13,13),(56,64)] (aN (aO aE (aO aE .nil))) .nil)) (aN (aO (aN (.node [77] [(17,17),(77,88)] (aN (aO aE (aO (aN (.dc [6] [[],[0],[0,1],[0,1,2],[],[4],(aR 6)] [])) .nil))) .nil)) (aN (.node [91] [(19,19),(91,102)] (aN (aO aE (aO (aN (.dc [6] [[],[0],[0,1],[0,1,2],[],[4],(aR 6)] [])) .nil))) .nil))))))))) func78 h (by kernel_rfl)
theorem Zs(h: Ak v0 fun t9=>
 Ay [(.int .i64 0),(.int .i64 0)] (fun vs i w1=>∀_:Env,
 Be .i64 (nth vs 1) t9 fun B=>
 AD B
 (Bf 5 v0 (nth vs 1) fun E=>
 Ac 5 E (fun I w2=>
 Al 83 [(.int .u8 0),(.int .i64 0),(.slice none 0 0),(.slice none 0 0),(.slice none 0 0)] (fun x w3=>
 AZ 5 x I (fun w4=>
 Ar (fun _vs_1 w5=>∀_:Env,
 AM 1 x fun O=>
 AK O (fun Q w6=>
 AX .i64 (nth vs 0) Q fun S=>
 AX .i64 (nth vs 1) (.int .i64 1) fun T=>
 i [S,T] w6) w5) (fun J=>
 AM 0 x fun U=>
 AK U (fun o y=>
 DT .u8 o (.int .u8 2) fun V=>
 AD V
 (DT .i64 (nth vs 0) v1 fun X=>
 AD X
 (K (.bool false) y)
 (AX .i64 (nth vs 1) (.int .i64 1) fun j=>
 i [(nth vs 0),j] y))
 (DT .u8 o (.int .u8 3) fun t22=>
 AD t22
 (AM 1 x fun Y=>
 AK Y (fun t25 w8=>
 AX .i64 (nth vs 0) t25 fun Z=>
 DT .i64 Z v1 fun a1=>
 AD a1
 (K (.bool false) w8)
 (J [] w8)) y)
 (J [] y))) w4)) w3) w2) w1)
 (K (.bool true) w1)) w):AB prog 82 [v0,v1] K w:=cO (aN (aN (aN (aO (aN (.node [5,10] [(4,5),(7,7),(10,33)] (aN (aO aE (aO (aN (.cut [] [(4,4),(14,28)] (aN (aN (aO (aO (aN (aO aE .nil)) .nil) (aN (aO (aN (aO aE .nil)) .nil))))) .nil)) .nil))) .nil)) aE)))) func82 h (by kernel_rfl)
theorem ZZ(h: Ak v1 fun a1=>
 Ay [(.int .i64 0)] (fun vs j w1=>∀_:Env,
 Be .i64 (nth vs 0) a1 fun a6=>
 AD a6
 (Ar (fun _vs_1 w2=>∀_:Env,
 AX .i64 (nth vs 0) (.int .i64 1) fun a7=>
 j [a7] w2) (fun J=>
 Bf 5 v1 (nth vs 0) fun a8=>
 Ac 5 a8 (fun ak w3=>
 Al 83 [(.int .u8 0),(.int .i64 0),(.slice none 0 0),(.slice none 0 0),(.slice none 0 0)] (fun i w4=>
 AZ 5 i ak (fun w5=>
 Ar (fun _vs_2 w6=>∀_:Env,
 Aw [3,7] [[],[],[1],[0,1,2],[0,1,2,3],[],[5],[0,1,2,3,5,6],[0,1,2,3,4,5,6,7],[0,1,2,3,4,5,6,7,8]] w6.drew (fun M St=>
 AM 3 i fun t25=>
 BC (St 2) t25 fun al=>
 AB prog 75 [v0,al,(.bool true)] (fun an w7=>
 Mod (M 3) w6.drew w7/\
 Ak an fun o=>
 AM 2 i fun av=>
 BC (St 6) av fun ax=>
 AB prog 154 [ax] (fun x w8=>
 Mod (M 7) w7 w8/\
 EZ .i64 o (.int .i64 0) fun ay=>
 AD ay
 (AM 3 i fun b0=>
 AK b0 (fun b1 w9=>
 Ak b1 fun b2=>
 Be .i64 o b2 fun b3=>
 AD b3
 (K (.bool false) w9)
 (AM 2 i fun t46=>
 AK t46 (fun b4 U=>
 Ak b4 fun b5=>
 Be .i64 x b5 fun b6=>
 AD b6
 (K (.bool false) U)
 (J [] U)) w9)) w8)
 (EZ .i64 x (.int .i64 0) fun b7=>
 AD b7
 (AM 3 i fun y=>
 AK y (fun B V=>
 Ak B fun E=>
 Be .i64 o E fun I=>
 AD I
 (K (.bool false) V)
 (AM 2 i fun O=>
 AK O (fun Q X=>
 Ak Q fun S=>
 Be .i64 x S fun T=>
 AD T
 (K (.bool false) X)
 (J [] X)) V)) w8)
 (J [] w8))) w7) w6.drew)) (fun b8=>
 AM 0 i fun b9=>
 AK b9 (fun ba Y=>
 Dm .u8 ba (.int .u8 2) fun bc=>
 AD bc
 (J [] Y)
 (AM 3 i fun bd=>
 AK bd (fun bk Z=>
 Ak bk fun bl=>
 DT .i64 bl (.int .i64 0) fun t22=>
 AD t22
 (J [] Z)
 (b8 [] Z)) Y)) w5)) w4) w3) w1))
 (K (.bool true) w1)) w):AB prog 83 [v0,v1] K w:=cO (aN (aO (aN (.node [11] [(4,4),(6,8),(11,52)] (aN (aO aE (.cut [] [(4,4),(6,8),(13,51)] (aN (.cut [] [(15,23)] (aN aE) (aO (.dc [3,7] [[],[],[1],[0,1,2],(aR 4),[],[5],[0,1,2,3,5,6],(aR 8),(aR 9)] [[3]]) (aN (aO aE .nil))))) .nil))) .nil)) aE)) func83 h (by kernel_rfl)
theorem Zo(h: AJ v0 fun T=>
 AM 3 T fun U=>
 AK U (fun V w1=>
 AB prog 48 [V,v1,v2] (fun t22 w2=>
 AO 0 t22 fun i=>
 AO 1 t22 fun _t24=>
 Ak i fun X=>
 Ay [(.int .i64 0)] (fun vs y S=>∀_:Env,
 Be .i64 (nth vs 0) X fun Y=>
 AD Y
 (Aw [9] [[],[0],[0,1],[0,1,2],[],[],[4,5],[4,5,6],[4,5,6,7],[0,1,2,3,4,5,6,7,8],[0,1,2,3,4,5,6,7,8,9],[0,1,2,3,4,5,6,7,8,9,10],[0,1,2,3,4,5,6,7,8,9,10],[0,1,2,3,4,5,6,7,8,9,10,11],[0,1,2,3,4,5,6,7,8,9,10,11,12,13]] S.drew (fun M St=>
 AJ v0 fun Z=>
 AM 5 Z fun a1=>
 BC (St 3) a1 fun a6=>
 Bf 2 i (nth vs 0) fun a7=>
 AM 1 a7 fun a8=>
 BC (St 8) a8 fun t39=>
 AB prog 51 [a6,t39] (fun I w4=>
 Mod (M 9) S.drew w4/\
 AO 0 I fun ak=>
 AO 1 I fun _t42=>
 Aw [8,9,15] [[],[],[],[2],[2,3],[2,3,4],[],[],[6,7],[2,3,4,5,6,7,8],[2,3,4,5,6,7,8,9],[2,3,4,5,6,7,8,9,10],[2,3,4,5,6,7,8,9,10],[0,1,2,3,4,5,6,7,8,9,10,11],[0,1,2,3,4,5,6,7,8,9,10,11,13],[0,1,2,3,4,5,6,7,8,9,10,11,13,14]] w4.drew (fun B J=>
 AJ v0 fun al=>
 AM 5 al fun an=>
 BC (J 5) an fun av=>
 AB prog 156 [ak,v3] (fun ax w5=>
 Mod (B 8) w4.drew w5/\
 AB prog 74 [av,ax] (fun t53 w6=>
 Mod (B 9) w5 w6/\
 AO 0 t53 fun ay=>
 AO 1 t53 fun _t55=>
 Bf 2 i (nth vs 0) fun b0=>
 AM 1 b0 fun b1=>
 BD b1 ay (fun w7=>
 Mod (B 15) w6 w7/\
 AX .i64 (nth vs 0) (.int .i64 1) fun b2=>
 y [b2] w7) w6) w5) w4.drew)) S.drew))
 (AB prog 78 [v0,v1,v2,i] (fun _t63 w8=>
 Ak i fun b3=>
 Ay [(.int .i64 0)] (fun j o w9=>∀_:Env,
 Be .i64 (nth j 0) b3 fun b4=>
 AD b4
 (Bf 2 i (nth j 0) fun b5=>
 Ac 2 b5 (fun b6 b7=>
 Al 108 [(.int .i64 0),(.int .i64 0)] (fun O b8=>
 AZ 2 O b6 (fun E=>
 Aw [6] [[],[0],[0,1],[0,1,2],[],[4],[0,1,2,3,4,5]] E.drew (fun b9 x=>
 AJ v0 fun ba=>
 AM 5 ba fun bc=>
 BC (x 3) bc fun bd=>
 AM 1 O fun bk=>
 BC (x 5) bk fun bl=>
 AB prog 79 [bd,bl] (fun _t76 Q=>
 Mod (b9 6) E.drew Q/\
 AX .i64 (nth j 0) (.int .i64 1) fun t77=>
 o [t77] Q) E.drew)) b8) b7) w9)
 (K (.tuple #[]) w9)) w8) S)) w2) w1) w):AB prog 86 [v0,v1,v2,v3] K w:=cO (aN (aO (aN (.node [27] [(10,12),(27,58)] (aN (aO aE (aO (aN (aO (.dc [9] [[],[0],[0,1],[0,1,2],[],[],[4,5],[4,5,6],[4,5,6,7],(aR 9),(aR 10),(aR 11),(aR 11),(aR 12),(aR 14)] []) (.dc [8,9,15] [[],[],[],[2],[2,3],[2,3,4],[],[],[6,7],[2,3,4,5,6,7,8],[2,3,4,5,6,7,8,9],[2,3,4,5,6,7,8,9,10],[2,3,4,5,6,7,8,9,10],(aR 12),[0,1,2,3,4,5,6,7,8,9,10,11,13],[0,1,2,3,4,5,6,7,8,9,10,11,13,14]] [[8,9]]))) .nil))) .nil)) (aN (aN (.node [66] [(14,14),(66,77)] (aN (aO aE (aO (aN (.dc [6] [[],[0],[0,1],[0,1,2],[],[4],(aR 6)] [])) .nil))) .nil))))) func86 h (by kernel_rfl)
theorem Wo(h: AB prog 213 [v0,v1] (fun j w1=>
 DT .i64 j (.int .i64 (-1)) fun x=>
 AD x
 (K v0 w1)
 (AX .i64 j (.int .i64 1) fun y=>
 Ay [j,y] (fun vs i w2=>∀_:Env,
 Ak v0 fun B=>
 Be .i64 (nth vs 1) B fun E=>
 AD E
 (Bf 5 v0 (nth vs 1) fun I=>
 Ac 5 I (fun t25 w3=>
 Al 79 [(.int .i64 0),(.int .u8 0),(.int .i64 0),(.int .u64 0),(.string (ByteArray.mk #[]))] (fun J w4=>
 AZ 5 J t25 (fun w5=>
 Ac 5 J (fun O w6=>
 CP prog DF v1 [O] (fun Q w7=>
 Br Q fun S=>
 AD S
 (Ac 5 J (fun T w8=>
 Bf 5 v0 (nth vs 0) fun U=>
 AZ 5 U T (fun w9=>
 AX .i64 (nth vs 0) (.int .i64 1) fun V=>
 AX .i64 (nth vs 1) (.int .i64 1) fun X=>
 i [V,X] w9) w8) w7)
 (AX .i64 (nth vs 1) (.int .i64 1) fun o=>
 i [(nth vs 0),o] w7)) w6) w5) w4) w3) w2)
 (runK prog (Instr.sliceAt 43 v0 (some (nth vs 0)) none none) (fun Y Z=>
 runK prog (Builtin.clear_ #[43] 0 [Y].toArray) (fun _u a1=>
 runK prog (Instr.sliceAt 43 v0 none (some (nth vs 0)) none) (fun a6 a7=>
 K a6 a7) a1) Z) w2)) w1)) w):AB prog 145 [v0,v1] K w:=cO (aN (aN (aO (aN (aO aE .nil)) (aO (aN (.node [5,6] [(5,7),(16,35)] (aO (aN aE) (aO (aN (aN (aO aE .nil))) .nil)) .nil)) (aN aE))))) func145 h (by kernel_rfl)
theorem Xg(h: BZ 79 v0 (fun t3 Q=>
 AK v1 (fun S w2=>
 AM 0 t3 fun t9=>
 AK t9 (fun j T=>
 AB prog 131 [S,j] (fun i w4=>
 AO 0 i fun o=>
 AO 1 i fun x=>
 Al 65 [(.int .i64 0),(.bool false),(.int .u8 0),(.bool false),(.bool false),(.int .i64 0)] (fun t5 U=>
 AZ 6 t5 o (fun O=>
 Br x fun y=>
 AD y
 (K (.bool true) O)
 (AM 1 t5 fun B=>
 AK B (fun E V=>
 AK v2 (fun I X=>
 TO E I fun J=>
 K J X) V) O)) U) w4) T) w2) Q) w):AB prog 146 [v0,v1,v2] K w:=cO (aN (aN aE)) func146 h (by kernel_rfl)
theorem Vk(h: Ak v0 fun J=>
 Ay [(.int .i64 0),(.int .i64 0)] (fun vs i I=>∀_:Env,
 Be .i64 (nth vs 1) J fun t9=>
 AD t9
 (Bf 1 v0 (nth vs 1) fun o=>
 AK o (fun x w2=>
 DT .i32 x (.int .i32 10) fun y=>
 AD y
 (AX .i64 (nth vs 0) (.int .i64 1) fun B=>
 AX .i64 (nth vs 1) (.int .i64 1) fun E=>
 i [B,E] w2)
 (AX .i64 (nth vs 1) (.int .i64 1) fun j=>
 i [(nth vs 0),j] w2)) I)
 (K (nth vs 0) I)) w):AB prog 154 [v0] K w:=cO (aN (aN (aO (aN (.node [3,8] [(3,3),(5,5),(8,16)] (aN (aO aE (aO (aN (aN aE)) .nil))) .nil)) aE))) func154 h (by kernel_rfl)
theorem XU(h: Ak v0 fun I=>
 Ay [(.int .i64 0)] (fun vs i B=>∀_:Env,
 Be .i64 (nth vs 0) I fun t9=>
 AD t9
 (Bf 5 v0 (nth vs 0) fun j=>
 Ac 5 j (fun o w2=>
 CP prog DF v1 [o] (fun x E=>
 AD x
 (K (nth vs 0) E)
 (AX .i64 (nth vs 0) (.int .i64 1) fun y=>
 i [y] E)) w2) B)
 (K (.int .i64 (-1)) B)) w):AB prog 213 [v0,v1] K w:=cO (aN (aO (aN (.node [8] [(4,5),(8,18)] (aN (aO aE (aO (aN (aN (aO aE .nil))) .nil))) .nil)) aE)) func213 h (by kernel_rfl)
end Go.Proofs.YtmdhibffnkhcnaaGreatDoor
namespace Go.Proofs.YtmdhibffnkhcnaaGreatDoor
open Go Go.K Proofs.Tryz
def P6(G:World->Prop)(j:Value)(i:Attr->Bool):Prop:=∀W c (K:Cont),G W->(∀W',Grow W W'->K (.bool (i c)) W')->CP prog DF j [.agg c.cells.toArray] K W
theorem Xw{S:Nat->Prop}{v B:Value}{p:List Attr}{x:Attr->Bool}{w:World}(h:Cv S w v p)(E:P6 (Grow w) B x) :
  AB prog 213 [v,B] (fun v' w'=>Grow w w'/\((v'=.int .i64 (-1)/\∀c∈p,x c=false)\/∃i:Nat,∃I:i<p.length,v'=.int .i64 i/\x p[i]=true/\∀c∈p.take i,x c=false)) w:=by
 apply XU;obtain⟨a,c,rfl,hm⟩:=h.shape;simp only[maxLen] at hm;rw[AT];refine Af (fun vs W=>∃i:Nat,i<=p.length/\vs=[.int .i64 i]/\Grow w W/\∀c∈p.take i,x c=false) (fun vs _=>p.length-EF vs 0) ⟨0,Nat.zero_le _,rfl,Mod.refl _ _,by simp⟩ ?_;rintro vs W ⟨i,I,rfl,g,y⟩ _;rw[CM,List.headD_cons,Av];refine AE (fun J=>?_) fun O=>?_
 .have o:i<p.length:=by omega
  obtain⟨q,r,rfl,_,hr,hc,rfl⟩:=(h.grow g (by decide) fun _ _ h=>h).get o;refine Ab o (Ah hr (fun j u hu=>by rw[Addr.add_add];exact hc j u hu) ?_);refine E W p[i] _ g fun W' g'=>?_;cases e:x p[i] with
  |true=>exact Ao ⟨g.trans g',.inr ⟨i,o,rfl,e,y⟩⟩
  |false=>
   refine AS ?_;rw[AR,AQ (by omega)];refine⟨⟨i+1,o,rfl,g.trans g',fun c hc=>?_⟩,by rw[DI,DI];omega⟩;rw[List.take_add_one,List.getElem?_eq_getElem o] at hc;rcases List.mem_append.1 hc with hc|hc
   .exact y c hc
   .simp at hc;subst hc;exact e
 .have:i=p.length:=by omega
  subst this;exact⟨g,.inl ⟨rfl,fun c hc=>y c (by rw[List.take_length];exact hc)⟩⟩
theorem Attr.YF(c:Attr):c.cells.length=5:=rfl
set_option maxRecDepth 20000 in
theorem Vl{B:Nat}{v fv:Value}{p:List Attr}{o:Attr->Bool}{w:World}(U:AF B 79 5 Cx w v p)(ak:p.length<=1099511627776)(Y:P6 (Mod (fun b=>v.ownBlock=some b) w) fv o) :
  AB prog 145 [v,fv] (fun v' w'=>Cv (fun b=>v.ownBlock=some b) w' v' (p.filter fun c=>!o c)/\Mod (fun b=>v.ownBlock=some b) w w') w:=by
 apply Wo;refine AA (Xw (AF.sl U) fun W c K g hK=>Y W c K (g.mono fun _ _ e=>e.elim) hK) ?_;rintro _ w1 ⟨V,⟨rfl,E⟩|⟨i0,I,rfl,hd,E⟩⟩
 .rw[Am];refine AE (fun _=>?_) fun e=>(e rfl).elim;rw[List.filter_eq_self.2 fun c hc=>by rw[E c hc];rfl];exact⟨BH.sub (AF.sl (AF.mod U V (fun _ _ h=>h) fun _ _ _ h=>h)) (fun b _ h=>h.2) (by decide) fun _ _ h=>h,V.mono fun _ _ e=>e.elim⟩
 rw[Am];refine AE (fun e=>absurd e (by omega)) fun _=>?_;obtain⟨a,c,rfl,al,an,hp,hn⟩:=AF.shape U;cases a with
 |none=>rw[hn rfl] at I;simp at I
 |some q=>
 obtain⟨g,rfl,av,Z,a8⟩:=hp q rfl;have a1:∀b,(Value.slice (some ⟨g,0,none⟩) p.length c).ownBlock=some b↔b=g:=fun b=>⟨fun e=>by cases e;rfl,fun e=>by subst e;rfl⟩;simp only[a1] at Y ⊢;have R0:Il 5 Attr.cells w g p:=Il.of U (by decide) fun _ _ h=>h;have R1:=R0.mod V fun h=>h;rw[AR,AQ (by omega)];refine Af (fun vs W=>∃(i j:Nat) (L:List Attr),i<j/\j<=p.length/\vs=[.int .i64 i,.int .i64 j]/\L.length=p.length/\Il 5 Attr.cells W g L/\L.take i=(p.take j).filter (fun c=>!o c)/\L.drop j=p.drop j/\Mod (fun b=>b=g) w W) (fun vs _=>p.length-EF vs 1)
  ⟨i0,i0+1,p,by omega,I,rfl,rfl,R1,?_,rfl,V.mono fun _ _ e=>e.elim⟩ ?_
 .rw[List.take_add_one,List.getElem?_eq_getElem I,List.filter_append,List.filter_eq_self.2 fun c hc=>by rw[E c hc];rfl];simp[hd]
 rintro vs W ⟨i,j,L,ax,hj,rfl,hL,X,ht,O,hm⟩ _;simp only[GJ];rw[AT,Av];refine AE (fun Q=>?_) fun ay=>?_
 .have y:j<p.length:=by omega
  have a6:L[j]'(by omega)=p[j]:=by
   have e:=congrArg List.head? O;rw[List.head?_drop,List.head?_drop,List.getElem?_eq_getElem (by omega),List.getElem?_eq_getElem y] at e;exact Option.some.inj e
  refine Ab y ?_;rw[AI];refine Ah (vs:=p[j].cells) rfl (fun q u hu=>by rw[Gg];exact X.cells j (by omega) q u (by rw[a6];exact hu)) ?_;refine BO (vs:=p[j].cells) rfl rfl (Cx.one (w:=W) (x:=p[j]) rfl) fun b7 w4 b0 b1 g4 S _=>?_;have b2:g<W.heap.size:=Nat.lt_of_lt_of_le Z hm.size;refine Ah (vs:=p[j].cells) rfl S ?_;refine Y w4 p[j] _ (hm.next g4 fun _ _ e=>e.elim) fun W5 g5=>?_;have R5:=(X.mod g4 fun h=>h).mod g5 fun h=>h;have m5:=(hm.next g4 fun _ _ e=>e.elim).next g5 fun _ _ e=>e.elim;have et:(p.take (j+1)).filter (fun c=>!o c)=(p.take j).filter (fun c=>!o c)++if o p[j] then[] else[p[j]]:=by
   rw[List.take_add_one,List.getElem?_eq_getElem y,List.filter_append];cases e:o p[j]<;>simp[e]
  have J:L.drop (j+1)=p.drop (j+1):=by have:=congrArg (List.drop 1) O;simpa[List.drop_drop] using this
  cases e:o p[j] with
  |true=>
   rw[An];refine AS ?_;rw[AR,AQ (by omega)];rw[e,if_pos rfl,List.append_nil] at et;refine⟨⟨i,j+1,L,by omega,y,rfl,hL,R5,by rw[et];exact ht,?_,m5⟩,by rw[BJ,BJ];omega⟩;exact J
  |false=>
   rw[An];refine Ao ?_;refine Ah (vs:=p[j].cells) rfl (fun q u hu=>g5.cell (S q u hu) fun h=>h) ?_;refine Ab (by omega) ?_;rw[AI];refine R5.store (i:=i) (x:=p[j]) (by omega) Attr.YF (Cx.one (w:=W) (x:=p[j]) rfl) fun W6 R6 m6=>?_;rw[AR,AR,AQ (by omega),AQ (by omega)];rw[e,if_neg (by decide)] at et;refine⟨⟨i+1,j+1,L.set i p[j],by omega,y,rfl,by simp[hL],R6,?_,?_,m5.trans m6⟩,by rw[BJ,BJ];omega⟩
   .rw[et,<-ht,List.take_set,List.take_add_one,List.getElem?_eq_getElem (by omega),List.set_append_right _ _ (by simp;omega)];simp[Nat.min_eq_left (show i<=L.length by omega)]
   .rw[List.drop_set_of_lt (by omega)];exact J
 .obtain rfl:j=p.length:=by omega
  rw[List.take_length] at ht;refine Ai (EP (e:=79) (k:=5) (i:=Tryz.t79) (by kernel_rfl) (by kernel_rfl) (by kernel_rfl) (by omega) W) ?_;have a7:sliced (some (⟨g,0,none⟩:Addr)) i p.length c 5=.slice (some ⟨g,i*5,none⟩) (p.length-i) (c-i):=by
   unfold sliced;rw[if_neg (by omega)];simp only[Option.map_some,AI]
  rw[a7];obtain⟨W2,hr,m2,h2⟩:=Lw (P:=prog) (t:=43) (e:=79) (k:=5) (i:=Tryz.t79) (zv:=.agg (⟨0,BE.zero⟩:Attr).cells.toArray) (W:=W) (g:=g) (off:=i*5) (m:=p.length-i) (c:=c-i) (by kernel_rfl) (by kernel_rfl) (by kernel_rfl) (by kernel_rfl) (by decide)
   (fun u hu=>Cx.one (w:=W) (x:=⟨0,BE.zero⟩) rfl u (by simpa[Value.cells] using hu)) (by omega) fun q hq=>by
    have:=X.live (i+q/5) (q%5) (by omega) (Nat.mod_lt _ (by decide));rwa [show(i+q/5)*5+q%5=i*5+q by omega] at this
  refine Ai hr ?_;refine Ai (Ev (e:=79) (k:=5) (i:=Tryz.t79) (by kernel_rfl) (by kernel_rfl) (by kernel_rfl) (by omega) W2) ?_;refine⟨?_,hm.trans m2⟩;rw[<-ht];have Q:(L.take i).length=i:=by simp;omega
  refine⟨_,_,by rw[Q],by omega,by omega,fun m x hx=>?_⟩;obtain⟨b3,T⟩:=List.getElem?_eq_some_iff.1 hx;rw[List.getElem_take] at T;subst T;refine⟨⟨g,0,none⟩,_,rfl,rfl,rfl,fun q u hu=>?_,rfl⟩;have hq:q<5:=(List.getElem?_eq_some_iff.1 hu).1;rw[AI,h2 _ (by omega)];exact X.cells m (by omega) q u hu
def Ly(ks:List DKey)(b:Bool)(c:Attr):Bool:=match BX ks c.key with|some k=>decide (k.block=b)|none=>false
theorem RZ{D:Nat->Prop}{sv:Value}{ks:List DKey}{b:Bool}{c:Attr}{B E:Nat}{w:World}(I:DG D w sv ks)(J:w.cell? ⟨B,0,none⟩=some sv)(O:w.cell? ⟨E,0,none⟩=some (.bool b)) :
  AB prog 146 [.agg c.cells.toArray,.pointer (some ⟨B,0,none⟩),.pointer (some ⟨E,0,none⟩)] (fun v' w'=>v'=.bool (!Ly ks b c)/\Grow w w') w:=by
 apply Xg;refine Db fun Y Z Q S o y _=>?_;refine AL (o.cell J fun h=>h) ?_;rw[AG];refine AL (y 0 _ rfl) ?_;refine AA (Iu (I.grow o) c.key) ?_;rintro _ w2 ⟨rfl,T⟩;refine BK ?_;refine BO (vs:=((BX ks c.key).getD DKey.zero).cells) rfl rfl (Fy.one (w:=w2) (x:=(BX ks c.key).getD DKey.zero) rfl) fun b4 w3 U V X j _=>?_;have i:=(o.trans T).trans X;rw[An];unfold Ly;cases e:BX ks c.key with
 |none=>exact Ao ⟨rfl,i⟩
 |some k=>
  rw[e] at j;refine AS ?_;rw[AG];refine AL (j 1 _ rfl) ?_;refine AL (i.cell O fun h=>h) ?_;rw[PO];refine⟨?_,i⟩;show Value.bool (k.block != b)=.bool (!decide (k.block=b));cases k.block<;>cases b<;>rfl
def Dk(ks:List DKey)(b:Bool)(l:List Attr):List Attr:=l.filter (Ly ks b)
theorem Kb{D S:Nat->Prop}{sv V:Value}{ks:List DKey}{b:Bool}{p:List Attr}{w:World}(X:DG D w sv ks)(hp:Cv S w V p)(hl:p.length<=1099511627776) :
  AB prog 75 [sv,V,.bool b] (fun v' w'=>Cv (fun x=>w.heap.size<=x) w' v' (Dk ks b p)/\Grow w w') w:=by
 apply aV;have J:sv.cells=#[sv]:=by
  obtain⟨b,m,kv,l,rfl,_⟩:=X;rfl
 have O:DG (fun x=>D x/\x<w.heap.size) w sv ks:=X.sub fun x B h=>⟨h,B⟩;refine⟨J,EI fun E w1 a1 a6 o Q _=>?_⟩;refine⟨rfl,EI fun I w2 a7 a8 j T _=>?_⟩;refine AA (MA (hp.grow (o.trans j) (by decide) fun _ _ h=>h) (by omega)) ?_;rintro v3 w3 ⟨Y,U⟩;have c3:w2.cell? ⟨E,0,none⟩=some sv:=by have:=j.cell (Q 0 _ rfl) fun h=>h;rwa [AI] at this
 have c5:w2.cell? ⟨I,0,none⟩=some (.bool b):=by have:=T 0 _ rfl;rwa [AI] at this
 have i:∀x,v3.ownBlock=some x->w2.heap.size<=x:=fun x e=>(AF.BM Y x e).1;have y:=(o.trans j).trans U;have tl:P6 (Mod (fun x=>v3.ownBlock=some x) w3) (.func (.func 146) #[] #[.pointer (some ⟨E,0,none⟩),.pointer (some ⟨I,0,none⟩)]) fun c=>!Ly ks b c:=by
  intro W c K m hK;refine .inl ⟨_,[],[.pointer (some ⟨E,0,none⟩),.pointer (some ⟨I,0,none⟩)],rfl,by kernel_rfl,?_⟩;refine AA (RZ ((O.grow y).mod m fun x _ B e=>?_) (m.cell (U.cell c3 fun h=>h) fun e=>?_) (m.cell (U.cell c5 fun h=>h) fun e=>?_)) ?_
  .have:=i _ e;have:=B.2;have:=(o.trans j).size;omega
  .have h:w2.heap.size<=E:=i _ e;omega
  .have h:w2.heap.size<=I:=i _ e;omega
  .rintro _ W' ⟨rfl,g⟩;exact hK W' g
 refine AA (Vl Y hl tl) ?_;rintro v4 w4 ⟨Z,m4⟩;have e:(p.filter fun c=>!(!Ly ks b c))=Dk ks b p:=by simp only[Bool.not_not];rfl
 rw[e] at Z;refine⟨BH.sub Z (fun x _ e=>by have:=i x e;have:=(o.trans j).size;omega) (by decide) fun _ _ h=>h,?_⟩;exact y.next m4 fun x B e=>by have:=i x e;have:=(o.trans j).size;omega
end Go.Proofs.YtmdhibffnkhcnaaGreatDoor
namespace Go.Proofs.YtmdhibffnkhcnaaGreatDoor
open Go
def bump:List Spn->List Spn
 |[]=>[]
 |[s]=>[⟨s.n+1,s.id⟩]
 |s::t=>s::bump t
def Et(id:Int)(s:List Spn×Option Int)(r:Int):List Spn×Option Int:=
 (if r=10 then s.1++[⟨1,0⟩] else match s.2 with
  |some q=>if q=10 then s.1++[⟨1,id⟩] else bump s.1
  | none=>s.1++[⟨1,id⟩],some r)
def rowOf(id:Int)(rs:List Int):List Spn×Option Int:=rs.foldl (Et id) ([],none)
def FP(id:Int)(r:Int):Int:=if r=10 then 0 else id
theorem Og(l:List Spn)(s:Spn):bump (l++[s])=l++[⟨s.n+1,s.id⟩]:=by
 induction l with
 |nil=>rfl
 |cons x l i=>
  cases l with
  |nil=>rfl
  |cons y l=>rw[List.cons_append,List.cons_append,bump,<-List.cons_append,i];rfl;simp
theorem IG(id:Int)(rs:List Int)(r:Int):rowOf id (rs++[r])=Et id (rowOf id rs) r:=by simp[rowOf]
theorem K2(id:Int)(rs:List Int):(rowOf id rs).2=rs.getLast?:=by
 rcases List.eq_nil_or_concat rs with rfl|⟨o,y,rfl⟩
 .rfl
 .rw[List.concat_eq_append,IG];simp[Et]
theorem K7(id:Int)(rs:List Int):(rowOf id rs).1.flatMap Spn.u=rs.map (FP id)/\(∀s∈(rowOf id rs).1,0<s.n)/\(∀q,rs.getLast?=some q->∃l n,(rowOf id rs).1=l++[⟨n,FP id q⟩]/\0<n)/\(rs=[]->(rowOf id rs).1=[])/\(rowOf id rs).1.length<=rs.length:=by
 have key:∀(n:Nat) (rs:List Int),rs.length=n->(rowOf id rs).1.flatMap Spn.u=rs.map (FP id)/\(∀s∈(rowOf id rs).1,0<s.n)/\(∀q,rs.getLast?=some q->∃l n,(rowOf id rs).1=l++[⟨n,FP id q⟩]/\0<n)/\(rs=[]->(rowOf id rs).1=[])/\(rowOf id rs).1.length<=rs.length:=by
  intro n;induction n with
  |zero=>
   intro rs h;obtain rfl:=List.length_eq_zero_iff.1 h;exact⟨rfl,fun s i=>(nomatch i),fun q y=>(nomatch y),fun _=>rfl,Nat.le_refl _⟩
  |succ n S=>
   intro rs h;rcases List.eq_nil_or_concat rs with rfl|⟨o,r,rfl⟩
   .simp at h
   .rw[List.concat_eq_append] at h ⊢;obtain⟨h1,E,T,V,J⟩:=S o (by simpa using h);have hp:=K2 id o;have x:∀j:Int,FP id r=j->((rowOf id o).1++[(⟨1,j⟩:Spn)]).flatMap Spn.u=(o++[r]).map (FP id)/\(∀s∈(rowOf id o).1++[(⟨1,j⟩:Spn)],0<s.n)/\(∀q,(o++[r]).getLast?=some q->∃l n,(rowOf id o).1++[(⟨1,j⟩:Spn)]=l++[⟨n,FP id q⟩]/\0<n)/\(o++[r]=[]->(rowOf id o).1++[(⟨1,j⟩:Spn)]=[])/\((rowOf id o).1++[(⟨1,j⟩:Spn)]).length<=(o++[r]).length:=fun j O=>by
     refine⟨by rw[List.flatMap_append,h1];simp[Spn.u,O],fun s i=>?_,fun q y=>?_,fun e=>by simp at e,by simp;omega⟩
     .rcases List.mem_append.1 i with i|i
      .exact E s i
      .simp at i;subst i;exact Nat.one_pos
     .simp at y;subst y;exact⟨_,1,by rw[O],Nat.one_pos⟩
    rw[IG,Et];by_cases hr:r=10
    .simp only[if_pos hr];exact x 0 (by simp[FP,hr])
    .simp only[if_neg hr];rw[hp];cases U:o.getLast? with
     |none=>exact x id (by simp[FP,hr])
     |some q=>
      by_cases y:q=10
      .simp only[if_pos y];exact x id (by simp[FP,hr])
      .simp only[if_neg y];obtain⟨l,m,e,hm⟩:=T q U;have I:FP id q=id:=by simp[FP,y]
       have Q:FP id r=id:=by simp[FP,hr]
       rw[I] at e;rw[e] at h1 E J ⊢;rw[Og];refine⟨?_,fun s i=>?_,fun X B=>?_,fun e=>by simp at e,by simp at J ⊢;omega⟩
       .rw[List.flatMap_append] at h1 ⊢;rw[List.map_append,<-h1];simp[Spn.u,Q,List.replicate_succ']
       .rcases List.mem_append.1 i with i|i
        .exact E s (by simp[i])
        .simp at i;subst i;exact Nat.succ_pos _
       .simp at B;subst B;exact⟨l,m+1,by rw[Q],Nat.succ_pos _⟩
 exact key _ rs rfl
end Go.Proofs.YtmdhibffnkhcnaaGreatDoor
namespace Go.Proofs.YtmdhibffnkhcnaaGreatDoor
open Go Go.K Proofs.Tryz
abbrev Su(sv:Value)(most:Int)(r s p t:Nat):List Value:=[sv,.int .i64 most,.pointer (some ⟨r,0,none⟩),.pointer (some ⟨s,0,none⟩),.pointer (some ⟨p,0,none⟩),.pointer (some ⟨t,0,none⟩)]
section
variable {W:World}{b r s p t bt N:Nat}{sv:Value}{most:Int}{F:Nat->Prop}{l:List Ck}
theorem GV{i:Nat}(j:Bx W b (Su sv most r s p t))(h:DD Aq.toAvT F FN W r bt l N)(o:i<=(BS l).length)(x:(BS l).length<=1099511627776) :
  AB prog 50 [.pointer (some ⟨b,0,none⟩),.int .i64 (i:Int)] (fun v' w'=>v'=.int .i64 (BW ((BS l).take i):Int)/\Grow W w') W:=by
 apply Sw;refine AH ?_;refine Bm (j.cells 2 _ rfl) ?_;refine AA (L1 h o x) ?_;rintro _ B ⟨rfl,y⟩;exact CJ (vs:=[_,_]) (by rfl) (CJ (vs:=[_,_]) (by rfl) ⟨rfl,y⟩)
theorem EH(i:Bx W b (Su sv most r s p t)):AB prog 41 [.pointer (some ⟨b,0,none⟩)] (fun v' w'=>v'=.bool true/\w'=W) W:=by
 apply ZR;refine⟨_,rfl,?_⟩;refine Ao ?_;refine AH ?_;refine Bm (i.cells 2 _ rfl) ?_;exact⟨_,rfl,rfl,rfl⟩
theorem TX(i:Bx W b (Su sv most r s p t))(h:DD Aq.toAvT F FN W r bt l N) :
  AB prog 17 [.pointer (some ⟨b,0,none⟩)] (fun v' w'=>v'=.int .i64 ((BS l).length:Int)/\Grow W w') W:=by
 apply ZL;refine AA (EH i) ?_;rintro _ _ ⟨rfl,rfl⟩;rename World=>W
 rw[An];refine AS ?_;refine AH ?_;refine Bm (i.cells 2 _ rfl) ?_;exact U6 h
theorem UD(i:Bx W b (Su sv most r s p t))(h:DD Aq.toAvT F FN W r bt l N) :
  AB prog 13 [.pointer (some ⟨b,0,none⟩)] (fun v' w'=>v'=.int .i64 (BW (BS l):Int)/\Grow W w') W:=by
 apply Z5;refine AA (EH i) ?_;rintro _ _ ⟨rfl,rfl⟩;rename World=>W
 rw[An];refine AS ?_;refine AH ?_;refine Bm (i.cells 2 _ rfl) ?_;exact Jo h
theorem OW{k:Nat}(i:Bx W b (Su sv most r s p t))(h:DD Aq.toAvT F FN W r bt l N)(j:(BS l).length<=1099511627776) :
  AB prog 14 [.pointer (some ⟨b,0,none⟩),.int .i64 (k:Int)] (fun v' w'=>v'=K5 (BS l) k/\Grow W w') W:=by
 apply Z1;refine AA (EH i) ?_;rintro _ _ ⟨rfl,rfl⟩;rename World=>W
 rw[An];refine AS ?_;refine AH ?_;refine Bm (i.cells 2 _ rfl) ?_;have e:∃x y,K5 (BS l) k=.tuple #[x,y]:=by
  unfold K5;split
  .exact⟨_,_,rfl⟩
  .split
   .exact⟨_,_,rfl⟩
   .rename_i h1 E;obtain⟨q,o,_⟩:=Mm (l:=BS l) (k:=k-1) (by omega);rw[o];exact⟨_,_,rfl⟩
 obtain⟨x,y,e⟩:=e;refine AA (Jr h j) ?_;rintro v I ⟨rfl,B⟩;rw[e];exact CJ (vs:=[_,_]) (by rfl) (CJ (vs:=[_,_]) (by rfl) ⟨rfl,B⟩)
end
theorem UO{S D:Nat->Prop}{W:World}{v T:Value}{rs:List Int}{bl:List Attr}{id:Int}{Kend:List Value->World->Prop}(hv:BH S 1 CH W v rs)(hb:Cv D W T bl)(hl:rs.length<=1099511627)
 (hK:∀U O w',AF W.heap.size 108 2 DU w' U (rowOf id rs).1->AF W.heap.size 43 1 (CY fun x=>D x/\x<W.heap.size) w' O (List.replicate (BW rs) bl)->(∀g,U.ownBlock=some g->O.ownBlock≠some g)->Grow W w'->Kend [U,O,.int .i64 (rs.length:Int)] w') :
  Ay [(.slice none 0 0),(.slice none 0 0),(.int .i64 0)] (fun vs al w5=>∀_:Env,
   Be .i64 (nth vs 2) (.int .i64 (rs.length:Int)) fun c6=>
   AD c6
   (Ar (fun a7 w6=>∀_:Env,
   AX .i64 (nth vs 2) (.int .i64 1) fun c7=>
   al [(nth a7 0),(nth a7 1),c7] w6) (fun J=>
   Bf 1 v (nth vs 2) fun c8=>
   AK c8 (fun c9 w7=>
   DT .i32 c9 (.int .i32 10) fun ca=>
   AD ca
   (Ae [(0,1),(1,1)] [(.int .i64 0),(.int .i64 0)] [(0,(.int .i64 1))] fun t46=>
   Bc 108 2 1 [(.int .i64 0),(.int .i64 0)] [(0,t46)] (fun an w8=>
   runK prog (Builtin.append_ #[101,101] 101 [(nth vs 0),an].toArray) (fun cc w9=>
   Bc 43 1 1 [(.slice none 0 0)] [(0,T)] (fun cd ch=>
   runK prog (Builtin.append_ #[50,50] 50 [(nth vs 1),cd].toArray) (fun cn cx=>
   J [cc,cn] cx) ch) w9) w8) w7)
   (Ak (nth vs 0) fun dk=>
   Ba .i64 dk (.int .i64 1) fun t55=>
   KA .i64 t55 (.int .i64 0) fun dT=>
   AD dT
   (Ba .i64 (nth vs 2) (.int .i64 1) fun e1=>
   Bf 1 v e1 fun e2=>
   AK e2 (fun e3 b9=>
   Dm .i32 e3 (.int .i32 10) fun e4=>
   AD e4
   (Bf 2 (nth vs 0) t55 fun e5=>
   AM 0 e5 fun e6=>
   AK e6 (fun t70 e7=>
   AX .i64 t70 (.int .i64 1) fun e8=>
   Bf 2 (nth vs 0) t55 fun e9=>
   AM 0 e9 fun ea=>
   BD ea e8 (fun ec=>
   J [(nth vs 0),(nth vs 1)] ec) e7) b9)
   (Ae [(0,1),(1,1)] [(.int .i64 0),(.int .i64 0)] [(0,(.int .i64 1)),(1,.int .i64 id)] fun t76=>
   Bc 108 2 1 [(.int .i64 0),(.int .i64 0)] [(0,t76)] (fun t77 av=>
   runK prog (Builtin.append_ #[101,101] 101 [(nth vs 0),t77].toArray) (fun ax ay=>
   J [ax,(nth vs 1)] ay) av) b9)) w7)
   (Ae [(0,1),(1,1)] [(.int .i64 0),(.int .i64 0)] [(0,(.int .i64 1)),(1,.int .i64 id)] fun b0=>
   Bc 108 2 1 [(.int .i64 0),(.int .i64 0)] [(0,b0)] (fun b1 ed=>
   runK prog (Builtin.append_ #[101,101] 101 [(nth vs 0),b1].toArray) (fun b2 ee=>
   J [b2,(nth vs 1)] ee) ed) w7))) w5))
   (Kend vs w5)) W:=by
 obtain⟨a,c,rfl,_⟩:=hv.shape;have ef:=hv.HL (by decide);have eg:CY (fun x=>D x/\x<W.heap.size) W [T] bl:=⟨_,rfl,hb.mono (fun x hx h=>⟨h,hx⟩) (fun _ _ _=>rfl) (by decide) fun _ _ h=>h⟩;have Fz:∀{M:Nat->Prop} {w2 w3:World} {r:List Value} {x:List Attr},Mod M w2 w3->(∀b,b<W.heap.size->¬M b)->CY (fun b=>D b/\b<W.heap.size) w2 r x->CY (fun b=>D b/\b<W.heap.size) w3 r x:=fun hm hn hy=>Az.BR hy hm fun b _ hd=>hn b hd.2
 let St:List Int->Value->Value->World->Prop:=fun q U O W'=>AF W.heap.size 108 2 DU W' U (rowOf id q).1/\AF W.heap.size 43 1 (CY fun x=>D x/\x<W.heap.size) W' O (List.replicate (BW q) bl)/\(∀g,U.ownBlock=some g->O.ownBlock≠some g)/\Grow W W'
 have eh:St (rs.take 0) (.slice none 0 0) (.slice none 0 0) W:=And.intro AF.nil (And.intro AF.nil (And.intro (fun g Q=>by simp[Value.ownBlock] at Q) (Mod.refl _ _)));refine Af (fun vs W'=>∃(i:Nat) (U O:Value),i<=rs.length/\vs=[U,O,.int .i64 i]/\St (rs.take i) U O W') (fun vs _=>rs.length-EF vs 2) ⟨0,_,_,Nat.zero_le _,rfl,eh⟩ ?_;rintro vs W1 ⟨i,U,O,hi,rfl,o1,o2,V,g1⟩ _;simp only[GJ];have z1:=g1.size;refine Hq (fun er=>?_) fun et=>?_
 .have X:i<rs.length:=by omega
  have ba:rs.take (i+1)=rs.take i++[rs[i]]:=by rw[List.take_add_one];simp[X]
  have bc:=(K7 id (rs.take i)).2.2.2.2;rw[List.length_take] at bc;have ei:=DO (rs.take i);rw[List.length_take] at ei;have push:∀{Y:World} {j:Int} {K:Value->World->Prop},Grow W1 Y->(∀o W3,AF W.heap.size 108 2 DU W3 o ((rowOf id (rs.take i)).1++[⟨1,j⟩])->AF W.heap.size 43 1 (CY fun x=>D x/\x<W.heap.size) W3 O (List.replicate (BW (rs.take i)) bl)->(∀g,o.ownBlock=some g->O.ownBlock≠some g)->Grow W W3->K o W3)->
    Bc 108 2 1 [(.int .i64 0),(.int .i64 0)] [(0,.agg (Spn.cells ⟨1,j⟩).toArray)] (fun an w8=>runK prog (Builtin.append_ #[101,101] 101 [U,an].toArray) K w8) Y:=fun{Y j K} g2 hk=>by
   have z2:=g2.size;have q1:AF W.heap.size 108 2 DU Y U (rowOf id (rs.take i)).1:=AF.mod o1 g2 (fun _ _ h=>h) fun _ _ _ h=>h;have q2:AF W.heap.size 43 1 (CY fun x=>D x/\x<W.heap.size) Y O (List.replicate (BW (rs.take i)) bl):=AF.mod o2 g2 (fun _ _ h=>h) fun _ _ _ h=>Fz g2 (fun _ _ h=>h) h;have bd:=AF.BM q1;have bk:=AF.BM q2;refine DP Cl.elE q1 (by omega) (cs:=Spn.cells ⟨1,j⟩) (x:=(⟨1,j⟩:Spn)) (Cw (v:=.agg (Spn.cells ⟨1,j⟩).toArray) rfl (by decide) rfl rfl) rfl rfl (fun _ _ _ h=>by have h':=h;subst h';exact Spn.one _) (fun _ _ _ _ _ _ h=>h) (by show _*16<=_;omega) (by simp only[maxLen];omega) fun o W3 o3 m3 n3=>?_;refine hk o W3 o3 (AF.mod q2 m3 (fun g Q e=>V g e Q) fun _ _ _ h=>Fz m3 (fun b hb e=>by have:=(bd b e).1;omega) h) (fun g Q e=>?_) ((g1.trans g2).next m3 fun b hb e=>by have:=(bd b e).1;omega);rcases n3 g Q with h|h
   .exact V g h e
   .have:=(bk g e).2;omega
  refine AU (fun vs W'=>∃o I,vs=[o,I]/\St (rs.take (i+1)) o I W') ?_ ?_
  .rintro _ Y ⟨o,I,rfl,s1,s2,s3,s4⟩ _;simp only[GJ];rw[AR,AQ (by omega)];exact⟨⟨i+1,o,I,X,rfl,s1,s2,s3,s4⟩,by show rs.length-EF [o,I,_] 2<rs.length-EF [U,O,_] 2;simp only[EF,Un,CM,List.headD_cons,List.tail_cons];omega⟩
  have rd:∀{Y:World} {q:Nat} {K:Value->World->Prop} (hq:q<rs.length),Grow W Y->K (.int .i32 rs[q]) Y->Bf 1 (.slice a rs.length c) (.int .i64 (q:Int)) (fun t=>AK t K Y):=fun{Y q K} hq g hk=>by
   obtain⟨p,r,rfl,_,hr,hc,rfl⟩:=ef.get hq;exact Ab hq (AL (by have:=hc 0 _ rfl;exact g.cell this fun h=>h) hk)
  refine rd X g1 ?_;rw[Am];have b3:BW (rs.take (i+1))=BW (rs.take i)+(if rs[i]=10 then 1 else 0):=by
   rw[ba,Ex];by_cases e:rs[i]=(10:Int)<;>simp[BW,e]
  have b4:(rowOf id (rs.take (i+1))).1=(Et id (rowOf id (rs.take i)) rs[i]).1:=by rw[ba,IG]
  have b5:=K2 id (rs.take i);have inl:(Et id (rowOf id (rs.take i)) rs[i]).1=(rowOf id (rs.take i)).1++[⟨1,id⟩]->¬rs[i]=10->
    Ae [(0,1),(1,1)] [(.int .i64 0),(.int .i64 0)] [(0,(.int .i64 1)),(1,.int .i64 id)] (fun t76=>
     Bc 108 2 1 [(.int .i64 0),(.int .i64 0)] [(0,t76)] (fun t77 av=>
     runK prog (Builtin.append_ #[101,101] 101 [U,t77].toArray) (fun ax ay=>
     (fun vs W'=>∃ o I,vs=[o,I]/\St (rs.take (i+1)) o I W') [ax,O] ay) av) W1):=fun e Z=>by
   refine⟨(Spn.cells ⟨1,id⟩).toArray,by kernel_rfl,?_⟩;refine push (j:=id) (Mod.refl _ _) fun o W3 s1 s2 s3 s4=>⟨o,O,rfl,by rw[b4,e];exact s1,by rw[b3,if_neg Z,Nat.add_zero];exact s2,s3,s4⟩
  refine AE (fun Z=>?_) fun Z=>?_
  .have B:rs[i]=(10:Int):=Z;refine⟨(Spn.cells ⟨1,0⟩).toArray,by kernel_rfl,?_⟩;refine push (j:=0) (Mod.refl _ _) fun o W3 s1 s2 s3 s4=>?_;have zs:=s4.size;have a8:=AF.BM s2;have bp:=AF.BM s1;have bs:T.cells=[T].toArray:=by
    obtain⟨a,c,e,_⟩:=hb.shape;rw[e];rfl
   refine DP Az.elE s2 (by omega) (cs:=[T]) (x:=bl) (Cw (v:=T) rfl (by decide) bs rfl) rfl (Fz s4 (fun _ _ h=>h) eg) (fun _ _ _ h=>Az.rone h) (fun w2 w3 r y eu hm hy=>Fz hm (fun b hb e=>by
    rcases e with e|e
    .have:=(a8 b e).1;omega
    .omega) hy) (by rw [List.length_replicate];show _ * 24<=_;omega) (by rw [List.length_replicate];simp only [maxLen];omega) fun I W4 o4 m4 n4=>?_
   refine⟨o,I,rfl,?_,?_,fun g Q e=>?_,s4.next m4 fun b hb e=>by have:=(a8 b e).1;omega⟩
   .rw[b4,Et,if_pos B];exact AF.mod s1 m4 (fun g Q e=>s3 g Q e) fun _ _ _ h=>h
   .rw[b3,if_pos B,List.replicate_succ'];exact o4
   .rcases n4 g e with h|h
    .exact s3 g Q h
    .have:=(bp g Q).2;omega
  .have B:¬rs[i]=(10:Int):=Z;obtain⟨ra,rc,ej,ew,_,ey,ez⟩:=AF.shape o1;subst ej;rw[AT,A6,wrap64 (by omega) (by omega),Da];have E:(Et id (rowOf id (rs.take i)) rs[i]).1=match (rs.take i).getLast? with
     |some q=>if q=10 then(rowOf id (rs.take i)).1++[⟨1,id⟩] else bump (rowOf id (rs.take i)).1
     |none=>(rowOf id (rs.take i)).1++[⟨1,id⟩]:=by rw[Et,if_neg B,b5];first | done | (cases(rs.take i).getLast?<;>rfl)
   obtain⟨f1,f2,f3,f4,f5⟩:=K7 id (rs.take i);refine AE (fun ak=>?_) fun eo=>?_
   .have eA:0<i:=by
     rcases Nat.eq_zero_or_pos i with e|e
     .subst e;rw[f4 (by simp)] at ak;simp at ak
     .exact e
    have a1:(rs.take i).getLast?=some rs[i-1]:=by
     rw[List.getLast?_take,if_neg (by omega),List.getElem?_eq_getElem (by omega)];rfl
    rw[a1] at E;simp only at E;rw[A6,wrap64 (by omega) (by omega),show((i:Int)-1)=((i-1:Nat):Int) by omega];refine rd (by omega) g1 ?_;rw[Bg];refine AY (fun e=>?_) fun e=>?_
    .exact inl (by rw[E,if_pos e]) B
    .obtain⟨L,n,eL,eB⟩:=f3 _ a1;have hq:FP id rs[i-1]=id:=by simp only[FP];exact if_neg e
     rw[hq] at eL;have eC:n<=i:=by
      have:=congrArg List.length f1;rw[eL] at this;simp[Spn.u] at this;omega
     have b6:(rowOf id (rs.take i)).1.length=L.length+1:=by rw[eL];simp
     have a6:=o1;rw[b6] at a6 ⊢;rw[eL] at a6;have ek:=AF.sl a6;rw[show((L.length+1:Nat):Int)-1=((L.length:Nat):Int) by omega];obtain⟨p,r,rfl,b7,hr,hc,en⟩:=ek.get (i:=L.length) (by simp);have bx:r=Spn.cells ⟨n,id⟩:=by have h':r=_:=en;rw[h'];simp
     subst bx;refine Ab (by omega) ?_;rw[AG,Addr.add_add];refine AL (v:=.int .i64 (n:Int)) (hc 0 _ rfl) ?_;rw[AR,wrap64 (by omega) (by omega)];refine Ab (by omega) ?_;rw[AG,Addr.add_add];refine MK (k:=2) (i:=L.length) (j:=0) (x':=(⟨n+1,id⟩:Spn)) a6 (by simp) (by decide) rfl rfl (fun _ _ _ _ h=>h) (fun _ _ r hr=>?_) fun W' o' m'=>?_
     .have h':r=_:=hr;rw[h'];simp[Spn.cells,DU]
     .have ep:(Value.slice (some p) (L.length+1) rc).ownBlock=some p.block->W.heap.size<=p.block:=fun e=>(AF.BM a6 _ e).1;have c4:(L++[(⟨n,id⟩:Spn)]).set L.length ⟨n+1,id⟩=L++[⟨n+1,id⟩]:=by simp
      rw[c4] at o';refine⟨_,_,rfl,?_,?_,fun g Q=>V g ?_,?_⟩
      .rw[b4,E,if_neg e,eL,Og];exact o'
      .rw[b3,if_neg B,Nat.add_zero];exact AF.mod o2 m' (fun g Q e=>V g (by rw[b6,e];exact b7.2) Q) fun _ _ _ h=>Fz m' (fun b hb e=>by have:=b7.1;omega) h
      .rw[b6];exact Q
      .exact g1.next m' fun b hb e=>by have:=b7.1;omega
   .have hz:(rowOf id (rs.take i)).1.length=0:=by omega
    have b8:(rs.take i).getLast?=none:=by
     cases Q:(rs.take i).getLast? with
     |none=>rfl
     |some q=>
      obtain⟨L,n,eL,_⟩:=f3 q Q;rw[eL] at hz;simp at hz
    exact inl (by rw[E,b8]) B
 .obtain rfl:i=rs.length:=by omega
  rw[List.take_length] at o1 o2;exact hK U O W1 o1 o2 V g1
end Go.Proofs.YtmdhibffnkhcnaaGreatDoor
namespace Go.K
open Go MapKept
def HP(d:TypeDesc)(w:World)(b:Nat)(f:Value->Option Value):Prop:=
 ∃j i,w.heap[b]?=some (.map j i)/\(∀x∈j.toList,IsKey d x.key)/\j.toList.Pairwise (fun x y=>x.key≠y.key)/\∀k v,IsKey d k->(f k=some v↔∃x∈j.toList,x.key=k/\x.val=v)
theorem HP.lt{d:TypeDesc}{w:World}{b:Nat}{f:Value->Option Value}(h:HP d w b f):b<w.heap.size:=by
 obtain⟨i,c,hb,_⟩:=h;exact(Array.getElem?_eq_some_iff.1 hb).1
theorem HP.mod{d:TypeDesc}{M:Nat->Prop}{w w':World}{b:Nat}{f:Value->Option Value}(h:HP d w b f)(hm:Mod M w w')(hb:¬M b):HP d w' b f:=by
 have hl:=h.lt;obtain⟨i,c,h1,j⟩:=h;exact⟨i,c,(hm.same b hl hb).trans h1,j⟩
theorem HP.make(d:TypeDesc)(w:World):HP d (w.alloc (.map #[] 0)) w.heap.size (fun _=>none):=
 ⟨#[],0,(heap_alloc w _).1,by simp,by simp,fun k v _=>by simp⟩
theorem Ou{P:Program}{d:TypeDesc}{t kt et:TypeId}{z:Value}{w:World}{b:Nat}{f:Value->Option Value}{k:Value}(ht:P.underlying t=some (.map kt et))(hk:P.underlying kt=some d)(i:IsKey d k)(I:(zeroValue et).run P w=.ok z w)(h:HP d w b f) :
  (Instr.lookup t (.map (some b)) k true).run P w=.ok (.tuple #[(f k).getD z,.bool (f k).isSome]) w:=by
 obtain⟨J,o,hb,y,hp,E⟩:=h;have hc:=fun em=>MapKept.run_checkKey (w:=w) hk i em 9999;rcases findNow_spec i J.toList 0 y with⟨h1,B⟩|⟨j,e,h1,B,O⟩
 .have h0:f k=none:=by
   cases Q:f k with
   |none=>rfl
   |some v=>obtain⟨x,S,e,_⟩:=(E k v i).1 Q;exact absurd e (B x S)
  simp[Instr.lookup,run_underlying ht,MapKept.run_getObj_map hb,hc,MapKept.run_findKey hk h1,I,Result.andThen,h0]
 .have h0:f k=some e.val:=(E k e.val i).2 ⟨e,List.mem_of_getElem? B,O,rfl⟩;simp[Instr.lookup,run_underlying ht,MapKept.run_getObj_map hb,hc,MapKept.run_findKey hk h1,Result.andThen,h0]
open Classical in
theorem OL{P:Program}{d:TypeDesc}{t kt et:TypeId}{w:World}{b:Nat}{f:Value->Option Value}{k v:Value}(ht:P.underlying t=some (.map kt et))(hk:P.underlying kt=some d)(O:IsKey d k)(h:HP d w b f)(T:f k=none) :
  ∃w',(Instr.mapUpdate t (.map (some b)) k v).run P w=.ok () w'/\HP d w' b (fun E=>if E=k then some v else f E)/\Mod (fun x=>x=b) w w':=by
 obtain⟨U,o,hb,I,hp,V⟩:=h;have hc:=fun em=>MapKept.run_checkKey (w:=w) hk O em 9999;rcases findNow_spec O U.toList 0 I with⟨h1,Q⟩|⟨j,e,h1,Q,Y⟩
 .refine⟨{ w with heap:=w.heap.setIfInBounds b (.map (U.push ⟨k,v,o⟩) (o+1)) },by simp[Instr.mapUpdate,run_underlying ht,MapKept.run_getObj_map hb,hc,MapKept.run_findKey hk h1,MapKept.run_setObj_map _ hb,Result.andThen],⟨_,_,(heap_set hb).1,?_,?_,?_⟩,⟨rfl,rfl,rfl,by simp,fun x _ i=>(heap_set hb).2 x i⟩⟩
  .intro x i;simp only[Array.toList_push,List.mem_append,List.mem_singleton] at i;rcases i with i|rfl
   .exact I x i
   .exact O
  .rw[Array.toList_push,List.pairwise_append];exact⟨hp,by simp,fun x i y X=>by simp at X;subst X;exact Q x i⟩
  .intro E v' S;simp only[Array.toList_push,List.mem_append,List.mem_singleton];by_cases e:E=k
   .subst e;rw[if_pos rfl];constructor
    .intro e;cases e;exact⟨_,.inr rfl,rfl,rfl⟩
    .rintro⟨x,i|rfl,B,J⟩
     .exact absurd B (Q x i)
     .rw[<-J]
   .rw[if_neg e,V E v' S];constructor
    .rintro⟨x,i,B,J⟩;exact⟨x,.inl i,B,J⟩
    .rintro⟨x,i|rfl,B,J⟩
     .exact⟨x,i,B,J⟩
     .exact absurd B.symm e
 .rw[(V k e.val O).2 ⟨e,List.mem_of_getElem? Q,Y,rfl⟩] at T;cases T
theorem JR{α:Type}{l:List α}{j:Nat}{x:α}:x∈l.eraseIdx j↔∃i,i≠j/\l[i]?=some x:=by
 rw[List.mem_eraseIdx_iff_getElem?]
open Classical in
theorem PC{P:Program}{d:TypeDesc}{t kt et ty:TypeId}{w:World}{b:Nat}{f:Value->Option Value}{k:Value}(ht:P.underlying t=some (.map kt et))(hk:P.underlying kt=some d)(hi:IsKey d k)(h:HP d w b f) :
  ∃w',(Builtin.delete_ #[t,kt] ty #[.map (some b),k]).run P w=.ok (.tuple #[]) w'/\HP d w' b (fun y=>if y=k then none else f y)/\Mod (fun x=>x=b) w w':=by
 obtain⟨I,B,hb,Q,hp,hf⟩:=h;have hc:=fun em=>MapKept.run_checkKey (w:=w) hk hi em 9999;rcases findNow_spec hi I.toList 0 Q with⟨h1,V⟩|⟨j,e,h1,V,h3⟩
 .refine⟨{ w with heap:=w.heap.setIfInBounds b (.map I B) },by simp[Builtin.delete_,run_underlying ht,MapKept.run_getObj_map hb,hc,MapKept.run_findKey hk h1,MapKept.run_setObj_map _ hb,Result.andThen],⟨_,_,(heap_set hb).1,Q,hp,?_⟩,⟨rfl,rfl,rfl,by simp,fun x _ o=>(heap_set hb).2 x o⟩⟩;intro y v' S;show(if y=k then none else f y)=some v'↔_;by_cases e:y=k
  .subst e;rw[if_pos rfl];exact⟨fun h=>(by cases h),fun⟨x,o,J,_⟩=>absurd J (V x o)⟩
  .rw[if_neg e];exact hf y v' S
 .have hj:j<I.size:=by have:=(List.getElem?_eq_some_iff.1 V).1;simpa using this
  have X:(I.eraseIdxIfInBounds (0+j)).toList=I.toList.eraseIdx j:=by
   unfold Array.eraseIdxIfInBounds;rw[dif_pos (by omega)];simp
  have O:(I.eraseIdxIfInBounds (0+j)).toList.Sublist I.toList:=by rw[X];exact List.eraseIdx_sublist _ _
  have E:∀x,x∈(I.eraseIdxIfInBounds (0+j)).toList↔x∈I.toList/\x.key≠k:=by
   intro x;rw[X,JR];constructor
   .rintro⟨i,a1,o⟩;refine⟨List.mem_of_getElem? o,fun e'=>?_⟩;have Y:=(List.getElem?_eq_some_iff.1 o).1;have Z:=(List.getElem?_eq_some_iff.1 V).1;have pw:=List.pairwise_iff_getElem.1 hp;have ex:=(List.getElem?_eq_some_iff.1 o).2;have ee:=(List.getElem?_eq_some_iff.1 V).2;rcases Nat.lt_or_gt_of_ne a1 with T|T
    .exact pw i j Y Z T (by rw[ex,ee,e',h3])
    .exact pw j i Z Y T (by rw[ex,ee,e',h3])
   .rintro⟨o,a6⟩;obtain⟨i,U⟩:=List.mem_iff_getElem?.1 o;exact⟨i,fun e'=>a6 (by subst e';rw[V] at U;cases U;exact h3),U⟩
  refine⟨{ w with heap:=w.heap.setIfInBounds b (.map (I.eraseIdxIfInBounds (0+j)) B) },by simp[Builtin.delete_,run_underlying ht,MapKept.run_getObj_map hb,hc,MapKept.run_findKey hk h1,MapKept.run_setObj_map _ hb,Result.andThen],⟨_,_,(heap_set hb).1,fun x o=>Q x (O.subset o),hp.sublist O,?_⟩,⟨rfl,rfl,rfl,by simp,fun x _ o=>(heap_set hb).2 x o⟩⟩;intro y v' S;show(if y=k then none else f y)=some v'↔_;by_cases e':y=k
  .subst e';rw[if_pos rfl];exact⟨fun h=>(by cases h),fun⟨x,o,J,_⟩=>absurd J ((E x).1 o).2⟩
  .rw[if_neg e',hf y v' S];exact⟨fun⟨x,o,J,e2⟩=>⟨x,(E x).2 ⟨o,fun e3=>e' (J.symm.trans e3)⟩,J,e2⟩,fun⟨x,o,J,e2⟩=>⟨x,((E x).1 o).1,J,e2⟩⟩
end Go.K
namespace Go.Proofs.YtmdhibffnkhcnaaGreatDoor
open Go Go.K Proofs.Tryz
variable {v0 v1 v2 v3 v4 v5 v6 v7 v8 v9:Value}{K:Cont}{w:World}
theorem Zz(h: runK prog (Instr.makeMap 143 none) (fun t4 i=>
 Ae [(0,1),(1,1),(2,1),(3,1),(4,1)] [(.pointer none),(.slice none 0 0),(.slice none 0 0),(.map none),(.int .i64 0)] [(0,v0),(3,t4)] fun t5=>
 BZ 147 t5 (fun j w2=>
 K j w2) i) w):AB prog 39 [v0] K w:=cO (aN aE) func39 h (by kernel_rfl)
theorem Wm(h: CX v0 fun j=>
 AD (.bool (!j))
 (AJ v0 fun o=>
 AM 3 o fun x=>
 AK x (fun t9 y=>
 runK prog (BY .neq 143 (.tmp 9) (.const (.map none)) t9 (.map none)) (fun i w2=>
 K i w2) y) w)
 (K (.bool false) w)):AB prog 124 [v0] K w:=cO (aN aE) func124 h (by kernel_rfl)
theorem X8(h: Ak v0 fun t7=>
 Ay [(.slice none 0 0),(.int .i64 0)] (fun vs i w1=>∀_:Env,
 Be .i64 (nth vs 1) t7 fun t9=>
 AD t9
 (Bf 5 v0 (nth vs 1) fun j=>
 Ac 5 j (fun o w2=>
 Al 79 [(.int .i64 0),(.int .u8 0),(.int .i64 0),(.int .u64 0),(.string (ByteArray.mk #[]))] (fun t5 w3=>
 AZ 5 t5 o (fun w4=>
 AM 0 t5 fun x=>
 AK x (fun y w5=>
 AB prog 210 [(nth vs 0),y] (fun B w6=>
 AM 1 t5 fun E=>
 AM 0 E fun I=>
 AK I (fun J w7=>
 runK prog (convert 5 75 J) (fun O w8=>
 AB prog 211 [B,O] (fun Q w9=>
 AM 1 t5 fun S=>
 AM 1 S fun T=>
 AK T (fun t25 U=>
 AB prog 210 [Q,t25] (fun V X=>
 AM 1 t5 fun Y=>
 AM 2 Y fun Z=>
 AK Z (fun a1 a6=>
 AB prog 211 [V,a1] (fun a7 a8=>
 AM 1 t5 fun ak=>
 AM 3 ak fun al=>
 AK al (fun an av=>
 runK prog (convert 9 293 an) (fun ax ay=>
 AB prog 212 [a7,ax] (fun b0 b1=>
 AX .i64 (nth vs 1) (.int .i64 1) fun b2=>
 i [b0,b2] b1) ay) av) a8) a6) X) U) w9) w8) w7) w6) w5) w4) w3) w2) w1)
 (runK prog (convert 293 9 (nth vs 0)) (fun b3 b4=>
 K b3 b4) w1)) w):AB prog 143 [v0] K w:=cO (aN (aN (aO (aN (.node [3,8] [(3,3),(5,5),(8,38)] (aN (aO aE (aO (aN (aN (aN (aN aE)))) .nil))) .nil)) aE))) func143 h (by kernel_rfl)
theorem Zl(h: AB prog 124 [v0] (fun I w1=>
 Br I fun O=>
 AD O
 (K (.tuple #[(.int .i64 0),(.int .i64 1)]) w1)
 (AJ v0 fun Q=>
 AM 0 Q fun S=>
 AK S (fun T w2=>
 AB prog 142 [T,v1] (fun o U=>
 Dm .i64 o (.int .i64 0) fun V=>
 AD V
 (K (.tuple #[(.int .i64 0),o]) U)
 (Ak v1 fun X=>
 DT .i64 X (.int .i64 0) fun Y=>
 AD Y
 (AJ v0 fun Z=>
 AM 4 Z fun a1=>
 AK a1 (fun a6 w4=>
 AX .i64 a6 (.int .i64 1) fun a7=>
 AJ v0 fun a8=>
 AM 4 a8 fun ak=>
 BD ak a7 (fun w5=>
 K (.tuple #[(.int .i64 0),(.int .i64 0)]) w5) w4) U)
 (AB prog 143 [v1] (fun x w6=>
 AJ v0 fun al=>
 AM 3 al fun an=>
 AK an (fun av w7=>
 runK prog (Instr.lookup 143 av x true) (fun y w8=>
 AO 0 y fun ax=>
 AO 1 y fun ay=>
 Ar (fun vs w9=>∀_:Env,
 AJ v0 fun b0=>
 AM 1 b0 fun b1=>
 AK b1 (fun t66 b2=>
 Ba .i64 (nth vs 0) (.int .i64 1) fun B=>
 Bf 2 t66 B fun b3=>
 AM 1 b3 fun t70=>
 AK t70 (fun b4 b5=>
 AX .i64 b4 (.int .i64 1) fun b6=>
 Bf 2 t66 B fun b7=>
 AM 1 b7 fun b8=>
 BD b8 b6 (fun b9=>
 K (.tuple #[(nth vs 0),(.int .i64 0)]) b9) b5) b2) w9) (fun J=>
 Br ay fun ba=>
 AD ba
 (AB prog 144 [v0] (fun t46 i=>
 Aw [7,10] [[],[0],[0,1],[0,1,2],[],[4],[],[6],[0,1,2,3,4,5,6,7],[0,1,2,3,4,5,6,7,8],[0,1,2,3,4,5,6,7,8,9]] i.drew (fun M St=>
 AJ v0 fun bc=>
 AM 1 bc fun bd=>
 BC (St 3) bd fun t50=>
 Ba .i64 t46 (.int .i64 1) fun bk=>
 AB prog 52 [v1] (fun bl j=>
 Mod (M 7) i.drew j/\
 Bf 2 t50 bk fun t55=>
 AM 0 t55 fun bp=>
 BD bp bl (fun E=>
 Mod (M 10) j E/\
 AJ v0 fun bs=>
 AM 3 bs fun bx=>
 AK bx (fun c4 c6=>
 runK prog (do Instr.mapUpdate 143 c4 x t46;pure undef) (fun _u c7=>
 J [t46] c7) c6) E) j) i.drew)) w8)
 (J [ax] w8))) w7) w6) U))) w2) w1)) w):AB prog 74 [v0,v1] K w:=cO (aN (aO (aN (aO aE .nil)) (aO (aN (aN (aO aE .nil))) (aO (aN (aO (aN aE) .nil)) (aN (aN (.cut [8] [(8,8),(43,62)] (aN (aO (aN (aO (.dc [7,10] [[],[0],[0,1],[0,1,2],[],[4],[],[6],(aR 8),(aR 9),(aR 10)] [[7]]) .nil)) .nil)) (aN aE)))))))) func74 h (by kernel_rfl)
theorem XB(h: AJ v0 fun t6=>
 AM 2 t6 fun t7=>
 AK t7 (fun t8 w1=>
 Ak t8 fun t9=>
 Ba .i64 t9 (.int .i64 1) fun i=>
 KA .i64 i (.int .i64 0) fun j=>
 AD j
 (AJ v0 fun o=>
 AM 2 o fun x=>
 AK x (fun y w2=>
 Bf 1 y i fun B=>
 AK B (fun E w3=>
 AJ v0 fun t22=>
 AM 2 t22 fun I=>
 AK I (fun J w4=>
 runK prog (Instr.sliceAt 145 J none (some i) none) (fun O w5=>
 AJ v0 fun Q=>
 AM 2 Q fun S=>
 BD S O (fun w6=>
 AX .i64 E (.int .i64 1) fun T=>
 K T w6) w5) w4) w3) w2) w1)
 (AJ v0 fun U=>
 AM 1 U fun V=>
 AK V (fun X w7=>
 Ae [(0,1),(1,1)] [(.slice none 0 0),(.int .i64 0)] [] fun Y=>
 Bc 181 2 1 [(.slice none 0 0),(.int .i64 0)] [(0,Y)] (fun Z w8=>
 runK prog (Builtin.append_ #[144,144] 144 [X,Z].toArray) (fun a1 w9=>
 AJ v0 fun t39=>
 AM 1 t39 fun a6=>
 BD a6 a1 (fun a7=>
 AJ v0 fun a8=>
 AM 1 a8 fun ak=>
 AK ak (fun al an=>
 Ak al fun t45=>
 K t45 an) a7) w9) w8) w7) w1)) w):AB prog 144 [v0] K w:=cO (aN (aO (aN (aN (aO (aN (aN aE)) .nil))) (aN aE))) func144 h (by kernel_rfl)
theorem YG(h: Al 181 [(.slice none 0 0),(.int .i64 0)] (fun t4 w1=>
 Ar (fun _vs w2=>∀_:Env,
 AJ v0 fun t45=>
 AM 1 t45 fun t46=>
 AK t46 (fun S w3=>
 Ba .i64 v1 (.int .i64 1) fun T=>
 Bf 2 S T fun t50=>
 Ac 2 t50 (fun U w4=>
 AZ 2 t4 U (fun w5=>
 Ac 2 t4 (fun r0 w6=>
 K (.tuple #[r0,(.int .i64 0)]) w6) w5) w4) w3) w2) (fun J=>
 AB prog 124 [v0] (fun t8 Q=>
 Br t8 fun t9=>
 AD t9
 (Ae [(0,1),(1,1)] [(.slice none 0 0),(.int .i64 0)] [] fun V=>
 AZ 2 t4 V (fun w8=>
 Ac 2 t4 (fun o w9=>
 K (.tuple #[o,(.int .i64 1)]) w9) w8) Q)
 (DT .i64 v1 (.int .i64 0) fun X=>
 AD X
 (AJ v0 fun Y=>
 AM 4 Y fun Z=>
 AK Z (fun a1 a6=>
 Ae [(0,1),(1,1)] [(.slice none 0 0),(.int .i64 0)] [(1,a1)] fun a7=>
 AZ 2 t4 a7 (fun a8=>
 Ac 2 t4 (fun x ak=>
 K (.tuple #[x,(.int .i64 0)]) ak) a8) a6) Q)
 (Be .i64 v1 (.int .i64 0) fun al=>
 AD al
 (Ae [(0,1),(1,1)] [(.slice none 0 0),(.int .i64 0)] [] fun an=>
 AZ 2 t4 an (fun av=>
 Ac 2 t4 (fun y ax=>
 K (.tuple #[y,(.int .i64 5)]) ax) av) Q)
 (AJ v0 fun t25=>
 AM 1 t25 fun ay=>
 AK ay (fun b0 B=>
 Ak b0 fun b1=>
 EZ .i64 v1 b1 fun b2=>
 AD b2
 (Ae [(0,1),(1,1)] [(.slice none 0 0),(.int .i64 0)] [] fun i=>
 AZ 2 t4 i (fun b3=>
 Ac 2 t4 (fun E b4=>
 K (.tuple #[E,(.int .i64 5)]) b4) b3) B)
 (AJ v0 fun b5=>
 AM 1 b5 fun b6=>
 AK b6 (fun b7 b8=>
 Ba .i64 v1 (.int .i64 1) fun b9=>
 Bf 2 b7 b9 fun ba=>
 AM 1 ba fun t39=>
 AK t39 (fun bc I=>
 DT .i64 bc (.int .i64 0) fun bd=>
 AD bd
 (Ae [(0,1),(1,1)] [(.slice none 0 0),(.int .i64 0)] [] fun j=>
 AZ 2 t4 j (fun bk=>
 Ac 2 t4 (fun O bl=>
 K (.tuple #[O,(.int .i64 5)]) bl) bk) I)
 (J [] I)) b8) B)) Q)))) w1)) w):AB prog 106 [v0,v1] K w:=cO (aN (.cut [] [(5,43)] (aN (aO aE (aN (aO aE (aN (aO aE .nil)))))) aE)) func106 h (by kernel_rfl)
theorem Xi(h: AB prog 106 [v0,v1] (fun i w1=>
 AO 0 i fun y=>
 AO 1 i fun j=>
 Al 181 [(.slice none 0 0),(.int .i64 0)] (fun t5 w2=>
 AZ 2 t5 y (fun B=>
 Dm .i64 j (.int .i64 0) fun E=>
 AD E
 (K j B)
 (DT .i64 v1 (.int .i64 0) fun I=>
 AD I
 (AJ v0 fun J=>
 AM 4 J fun O=>
 AK O (fun Q w4=>
 AX .i64 Q (.int .i64 1) fun S=>
 AJ v0 fun T=>
 AM 4 T fun U=>
 BD U S (fun w5=>
 K (.int .i64 0) w5) w4) B)
 (AJ v0 fun V=>
 AM 1 V fun X=>
 AK X (fun o w6=>
 Ba .i64 v1 (.int .i64 1) fun x=>
 Bf 2 o x fun Y=>
 AM 1 Y fun Z=>
 AK Z (fun a1 w7=>
 AX .i64 a1 (.int .i64 1) fun t22=>
 Bf 2 o x fun a6=>
 AM 1 a6 fun a7=>
 BD a7 t22 (fun w8=>
 K (.int .i64 0) w8) w7) w6) B))) w2) w1) w):AB prog 152 [v0,v1] K w:=cO (aN (aN (aO (aN (aO aE (aN aE))) aE))) func152 h (by kernel_rfl)
theorem Zj(h: AB prog 106 [v0,v1] (fun i w1=>
 AO 0 i fun B=>
 AO 1 i fun j=>
 Al 181 [(.slice none 0 0),(.int .i64 0)] (fun t5 w2=>
 AZ 2 t5 B (fun E=>
 Dm .i64 j (.int .i64 0) fun I=>
 AD I
 (K j E)
 (DT .i64 v1 (.int .i64 0) fun J=>
 AD J
 (AJ v0 fun O=>
 AM 4 O fun Q=>
 AK Q (fun S w4=>
 Ba .i64 S (.int .i64 1) fun T=>
 Ju .i64 T (.int .i64 0) fun U=>
 AJ v0 fun t39=>
 AM 4 t39 fun V=>
 BD V U (fun w5=>
 K (.int .i64 0) w5) w4) E)
 (AM 1 t5 fun X=>
 AK X (fun Y y=>
 DT .i64 Y (.int .i64 1) fun Z=>
 AD Z
 (Aw [6,7] [[],[0],[0,1],[0,1,2],[],[4],[4,5],[0,1,2,3,4,5,6]] y.drew (fun M St=>
 AJ v0 fun t46=>
 AM 3 t46 fun a1=>
 BC (St 3) a1 fun a6=>
 AM 0 t5 fun a7=>
 BC (St 5) a7 fun t50=>
 AB prog 143 [t50] (fun a8 w7=>
 Mod (M 6) y.drew w7/\
 runK prog (Builtin.delete_ #[143,9] 0 [a6,a8].toArray) (fun _u w8=>
 Mod (M 7) w7 w8/\
 AJ v0 fun t53=>
 AM 1 t53 fun ak=>
 AK ak (fun t55 w9=>
 Ba .i64 v1 (.int .i64 1) fun al=>
 Ae [(0,1),(1,1)] [(.slice none 0 0),(.int .i64 0)] [] fun an=>
 Bf 2 t55 al fun av=>
 AZ 2 av an (fun ax=>
 AJ v0 fun ay=>
 AM 2 ay fun b0=>
 AK b0 (fun b1 b2=>
 Ba .i64 v1 (.int .i64 1) fun t66=>
 Bc 3 1 1 [(.int .i64 0)] [(0,t66)] (fun b3 b4=>
 runK prog (Builtin.append_ #[145,145] 145 [b1,b3].toArray) (fun b5 b6=>
 AJ v0 fun b7=>
 AM 2 b7 fun t70=>
 BD t70 b5 (fun b8=>
 K (.int .i64 0) b8) b6) b4) b2) ax) w9) w8) w7) y.drew))
 (AJ v0 fun b9=>
 AM 1 b9 fun ba=>
 AK ba (fun o bc=>
 Ba .i64 v1 (.int .i64 1) fun x=>
 Bf 2 o x fun bd=>
 AM 1 bd fun bk=>
 AK bk (fun bl bp=>
 Ba .i64 bl (.int .i64 1) fun t22=>
 Bf 2 o x fun bs=>
 AM 1 bs fun bx=>
 BD bx t22 (fun c4=>
 K (.int .i64 0) c4) bp) bc) y)) E))) w2) w1) w):AB prog 79 [v0,v1] K w:=cO (aN (aN (aO (aN (aO aE (aN (aN (aN (aO (aO (.dc [6,7] [[],[0],[0,1],[0,1,2],[],[4],[4,5],(aR 7)] []) aE) .nil)))))) aE))) func79 h (by kernel_rfl)
theorem aD(h: AB prog 106 [v0,v1] (fun i O=>
 AO 0 i fun o=>
 AO 1 i fun j=>
 Al 181 [(.slice none 0 0),(.int .i64 0)] (fun I w2=>
 AZ 2 I o (fun J=>
 Dm .i64 j (.int .i64 0) fun x=>
 AD x
 (K (.tuple #[(.slice none 0 0),j]) J)
 (AM 0 I fun y=>
 AK y (fun B w4=>
 AB prog 52 [B] (fun E Q=>
 K (.tuple #[E,(.int .i64 0)]) Q) w4) J)) w2) O) w):AB prog 51 [v0,v1] K w:=cO (aN (aN (aO (aN (aO aE .nil)) aE))) func51 h (by kernel_rfl)
theorem ZF(h: AB prog 124 [v0] (fun t4 I=>
 Br t4 fun t5=>
 AD t5
 (K (.int .i64 0) I)
 (DY I (fun C=>
 AJ v0 fun J=>
 AM 1 J fun O=>
 BI C O fun t9=>
 Ak t9 fun i=>
 AX .i64 (.int .i64 1) i fun j=>
 AJ v0 fun o=>
 AM 2 o fun x=>
 BI C x fun y=>
 Ak y fun B=>
 Ba .i64 j B fun E=>
 ∀w2:World,C w2->
 K E w2))) w):AB prog 67 [v0] K w:=cO (aN (aO (aN (aO aE .nil)) (aO .draw .nil))) func67 h (by kernel_rfl)
theorem Wf(h: Ak v1 fun t9=>
 EZ .i64 t9 (.int .i64 64) fun S=>
 AD S
 (K (.int .i64 3) w)
 (Ak v1 fun T=>
 Ay [(.int .i64 0),(.int .i64 0)] (fun vs i w1=>∀_:Env,
 Be .i64 (nth vs 1) T fun U=>
 AD U
 (Bf 5 v1 (nth vs 1) fun V=>
 Ac 5 V (fun X w2=>
 Al 79 [(.int .i64 0),(.int .u8 0),(.int .i64 0),(.int .u64 0),(.string (ByteArray.mk #[]))] (fun E w3=>
 AZ 5 E X (fun w4=>
 Ar (fun I w5=>∀_:Env,
 AD (nth I 0)
 (K (.int .i64 3) w5)
 (AM 0 E fun Y=>
 AK Y (fun Z w6=>
 AM 1 E fun a1=>
 Ac 4 a1 (fun a6 w7=>
 AB prog 209 [v0,Z,a6] (fun a7 w8=>
 Br a7 fun t45=>
 AD t45
 (AX .i64 (nth vs 1) (.int .i64 1) fun t46=>
 i [(.int .i64 4),t46] w8)
 (AX .i64 (nth vs 1) (.int .i64 1) fun j=>
 i [(nth vs 0),j] w8)) w7) w6) w5)) (fun J=>
 Aw [16] [[],[0],[0,1],[0,1,2],[0,1,2],[0,1,2,4],[0,1,2,3,4,5],[0,1,2,3,4,5,6],[0,1,2,3,4,5,6,7],[0,1,2],[0,1,2,9],[0,1,2,3,4,5,6,7,8,9,10],[0,1,2,3,4,5,6,7,8,9,10,11],[0,1,2,3,4,5,6,7,8,9,10,11,12],[0,1,2,3,4,5,6,7,8,9,10,11,12,13],[0,1,2,3,4,5,6,7,8,9,10,11,12,13,14],[0,1,2,3,4,5,6,7,8,9,10,11,12,13,14,15],[0,1,2,3,4,5,6,7,8,9,10,11,12,13,14,15,16],[0,1,2,3,4,5,6,7,8,9,10,11,12,13,14,15,16,17],[0,1,2,3,4,5,6,7,8,9,10,11,12,13,14,15,16,17,18]] w4.drew (fun M Q=>
 EZ .i64 (nth vs 1) (.int .i64 0) fun a8=>
 AD a8
 (Ba .i64 (nth vs 1) (.int .i64 1) fun ak=>
 Bf 5 v1 ak fun t25=>
 AM 0 t25 fun al=>
 BC (Q 8) al fun an=>
 AM 0 E fun av=>
 BC (Q 10) av fun ax=>
 KA .i64 an ax fun ay=>
 AD ay
 (J [(.bool true)] w4.drew)
 (AM 1 E fun b0=>
 Dv (Q 15) 4 b0 fun b1=>
 AB prog 208 [b1] (fun b2 w9=>
 Mod (M 16) w4.drew w9/\
 Br b2 fun b3=>
 J [b3] w9) w4.drew))
 (AM 1 E fun o=>
 Dv (Q 15) 4 o fun x=>
 AB prog 208 [x] (fun y O=>
 Mod (M 16) w4.drew O/\
 Br y fun B=>
 J [B] O) w4.drew)))) w3) w2) w1)
 (K (nth vs 0) w1)) w)):AB prog 142 [v0,v1] K w:=cO (aN (aO (aN (aO aE .nil)) (aN (aO (aN (.node [5,13] [(4,7),(13,46)] (aN (aO aE (aO (aN (.cut [18] [(18,37)] (.dc [16] [[],[0],[0,1],[0,1,2],[0,1,2],[0,1,2,4],(aR 6),(aR 7),(aR 8),[0,1,2],[0,1,2,9],(aR 11),(aR 12),(aR 13),(aR 14),(aR 15),(aR 16),(aR 17),(aR 18),(aR 19)] []) (aO aE (aN aE)))) .nil))) .nil)) aE)))) func142 h (by kernel_rfl)
theorem WJ(h: AB prog 260 [v0] (fun Q S=>
 Ay [Q,v1] (fun vs i w2=>∀_:Env,
 EZ .u64 (nth vs 1) (.int .u64 127) fun T=>
 AD T
 (runK prog (convert 75 5 (nth vs 1)) (fun j U=>
 runK prog (BY .or 5 (.tmp 13) (.const (.int .u8 128)) j (.int .u8 128)) (fun o w4=>
 Bc 5 1 1 [(.int .u8 0)] [(0,o)] (fun x V=>
 runK prog (Builtin.append_ #[293,293] 293 [(nth vs 0),x].toArray) (fun y X=>
 runK prog (BY .shr 75 (.tmp 9) (.const (.int .u64 7)) (nth vs 1) (.int .u64 7)) (fun B Y=>
 i [y,B] Y) X) V) w4) U) w2)
 (runK prog (convert 75 5 (nth vs 1)) (fun E Z=>
 Bc 5 1 1 [(.int .u8 0)] [(0,E)] (fun I w9=>
 runK prog (Builtin.append_ #[293,293] 293 [(nth vs 0),I].toArray) (fun J O=>
 K J O) w9) Z) w2)) S) w):AB prog 211 [v0,v1] K w:=cO (aN (aN (aO (.node [0,1] [(0,1),(7,16)] (aO (aN aE) aE) .nil) aE))) func211 h (by kernel_rfl)
theorem YL(h: AB prog 259 [v1] (fun i j=>
 AB prog 211 [v0,i] (fun o w2=>
 K o w2) j) w):AB prog 210 [v0,v1] K w:=cO (aN aE) func210 h (by kernel_rfl)
theorem YU(h: Ak v1 fun j=>
 runK prog (convert 3 75 j) (fun o x=>
 AB prog 211 [v0,o] (fun t9 w2=>
 runK prog (Builtin.append_ #[293,293] 293 [t9,v1].toArray) (fun i y=>
 K i y) w2) x) w):AB prog 212 [v0,v1] K w:=cO (aN aE) func212 h (by kernel_rfl)
theorem XO(h: runK prog (convert 2 75 v0) (fun t4 i=>
 runK prog (BY .shl 75 (.tmp 4) (.const (.int .u64 1)) t4 (.int .u64 1)) (fun t5 w2=>
 runK prog (BY .shr 2 (.tmp 6) (.const (.int .u64 63)) v0 (.int .u64 63)) (fun j o=>
 runK prog (convert 2 75 j) (fun x w4=>
 runK prog (BY .xor 75 (.tmp 5) (.tmp 8) t5 x) (fun t9 y=>
 K t9 y) w4) o) w2) i) w):AB prog 259 [v0] K w:=cO (aN aE) func259 h (by kernel_rfl)
theorem WL(h: G5 v0 fun i=>
 AD (.bool i)
 (K (.slice none 0 0) w)
 (Bc 5 1 0 [] [] (fun t5 j=>
 runK prog (Builtin.append_ #[293,293] 293 [t5,v0].toArray) (fun o w2=>
 K o w2) j) w)):AB prog 260 [v0] K w:=cO (aN (aO (aN (aO aE .nil)) aE)) func260 h (by kernel_rfl)
end Go.Proofs.YtmdhibffnkhcnaaGreatDoor
namespace Go.Proofs.YtmdhibffnkhcnaaGreatDoor
open Go Go.K Proofs.Tryz
theorem HW:Cu prog 293 5 1 1:=⟨Tryz.t5,.int .u8 0,by kernel_rfl,by kernel_rfl,by kernel_rfl,by kernel_rfl,by kernel_rfl,by rfl,by decide⟩
theorem IY.one{w:World}{r:List Value}{x:Int}(h:IY w r x):∀u∈r,u.oneCell'=true:=by
 subst h;intro u hu;simp at hu;subst hu;rfl
abbrev Em(B:Nat)(w:World)(v:Value)(l:List Int):Prop:=AF B 5 1 IY w v l
theorem Za{x:Int}(h0:0<=x)(h1:x<256):IntKind.u8.wrap x=x:=by
 have i:(2:Int) ^ IntKind.u8.bits=256:=by decide
 simp only[IntKind.wrap,i,IntKind.signed,Bool.false_and];rw[if_neg (by decide)];omega
theorem Py{x:Int}:IntKind.u8.wrap x=x%256:=by
 have i:(2:Int) ^ IntKind.u8.bits=256:=by decide
 simp only[IntKind.wrap,i,IntKind.signed,Bool.false_and];rw[if_neg (by decide)]
theorem cE:∀a:Nat,a<256->(a ||| 128)=a%128+128:=by decide +kernel
theorem Vi{t:TypeId}{xo yo:Operand}{a:Int}(w:World)(h0:0<=a)(h1:a<256):(BY .or t xo yo (.int .u8 a) (.int .u8 128)).run prog w=.ok (.int .u8 (a%128+128)) w:=by
 rw[(I9 w).1];have e:((BitVec.ofInt IntKind.u8.bits a ||| BitVec.ofInt IntKind.u8.bits 128).toNat:Int)=((a.toNat ||| 128:Nat):Int):=by
  show((BitVec.ofInt 8 a ||| BitVec.ofInt 8 128).toNat:Int)=_;rw[BitVec.toNat_or,BitVec.toNat_ofInt,BitVec.toNat_ofInt];have e:((2 ^ 8:Nat):Int)=256:=by decide
  rw[e,Int.emod_eq_of_lt h0 h1];rfl
 rw[e,cE _ (by omega),Za (by omega) (by omega)];congr 2
 omega
theorem Oa{S:Nat->Prop}{v:Value}{l:List Int}{w:World}(h:Ci S w v l)(hl:l.length<=1099511627776) :
  AB prog 260 [v] (fun v' w'=>Em w.heap.size w' v' l/\Grow w w') w:=by
 apply WL;obtain⟨a,c,rfl,hm⟩:=h.shape;rw[Q3];cases a with
 |none=>
  have:l=[]:=by
   cases l with
   |nil=>rfl
   |cons x l=>obtain⟨p,r,e,_⟩:=h.get (i:=0) (by simp);cases e
  subst this;exact Ao ⟨AF.nil,Mod.refl _ _⟩
 |some p=>
  refine AS ?_;refine Gk ?_;have o:Grow w (w.alloc (.cells #[] 5)):=Mod.alloc _ _ _;have y:Em w.heap.size (w.alloc (.cells #[] 5)) (.slice (some ⟨w.heap.size,0,none⟩) 0 0) []:=AF.made (Nat.le_refl _);obtain⟨v',w',h1,B,E,I⟩:=AF.append (ty:=293) HW y (h.grow o (by decide) fun _ _ h=>h) (fun _ _=>IY.one) (by simp;omega) (by simp) (by simpa using hm) (fun _ _ _ _ h=>h);refine Ai h1 ⟨?_,o.next (Mod.of_grownBy E) ?_⟩
  .refine B.base fun g j=>?_;rcases I g j with h|h
   .cases h;exact Nat.le_refl _
   .simp only[World.size_alloc] at h;omega
  .intro b hb e;simp only[Value.ownBlock,Option.some.injEq] at e;omega
theorem OA{n:Int}{K:Cont}{w:World}(h:K (.int .u8 (n%256)) w):runK prog (convert 75 5 (.int .u64 n)) K w:=by
 refine Ai (Eb (k:=.u8) w (by kernel_rfl) (by kernel_rfl)) ?_;rw[Py];exact h
theorem Ix{S:Nat->Prop}{v:Value}{l:List Int}{n:Nat}{w:World}(h:Ci S w v l)(hl:l.length+20<=1099511627776)(E:n<18446744073709551616) :
  AB prog 211 [v,.int .u64 n] (fun v' w'=>Em w.heap.size w' v' (l++uv n)/\Grow w w') w:=by
 apply WJ;refine AA (Oa h (by omega)) ?_;rintro v1 X ⟨I,J⟩;have y:(128:Nat) ^ (9+1)=1180591620717411303424:=by decide
 refine Af (fun vs W=>∃(f m:Nat) (pre:List Int) (o:Value),vs=[o,.int .u64 m]/\uv n=pre++MV f m/\m<128 ^ (f+1)/\m<18446744073709551616/\pre.length+f=9/\Em w.heap.size W o (l++pre)/\Grow w W) (fun vs _=>EF vs 1)
  ⟨9,n,[],v1,rfl,rfl,by omega,E,rfl,by rw[List.append_nil];exact I,J⟩ ?_
 rintro vs W ⟨f,m,pre,o,rfl,hu,hm,O,Y,B,g⟩ _;simp only[GJ];rw[BL];refine AE (fun Q=>?_) fun T=>?_
 .cases f with
  |zero=>simp at hm;omega
  |succ f=>
   have i:MV (f+1) m=((m%128+128:Nat):Int)::MV f (m/128):=by
    simp only[MV];rw[if_neg (by omega)]
   refine OA (Ai (Vi W (by omega) (by omega)) ?_);have U:((m:Int)%256%128+128)=((m%128+128:Nat):Int):=by omega
   rw[U];refine Pd (w0:=w) HW B g (cs:=[.int .u8 ((m%128+128:Nat):Int)]) (x:=((m%128+128:Nat):Int)) (by kernel_rfl) rfl rfl (fun _ _ _=>IY.one) (fun _ _ _ _ _ _ h=>h) (by simp only[List.length_append];omega) (by simp only[List.length_append,maxLen];omega) fun v' w' o' g'=>?_;refine Ai (Md (n:=7) w' (by decide)) ?_;have V:((m:Int)).fdiv (2 ^ 7)=((m/128:Nat):Int):=by
    rw[Int.fdiv_eq_ediv_of_nonneg _ (by decide)];show(m:Int)/128=_;omega
   rw[V];refine⟨⟨f,m/128,pre++[((m%128+128:Nat):Int)],v',rfl,by rw[hu,i];simp,?_,by omega,by simp;omega,by rw[<-List.append_assoc];exact o',g'⟩,?_⟩
   .rw[Nat.pow_succ] at hm;exact Nat.div_lt_of_lt_mul (by omega)
   .show(((m/128:Nat):Int)).toNat<((m:Nat):Int).toNat;omega
 .have j:MV f m=[(m:Int)]:=by
   cases f with
   |zero=>rfl
   |succ f=>simp only[MV];rw[if_pos (by omega)]
  refine OA ?_;rw[show((m:Int)%256)=m by omega];refine Pd (w0:=w) HW B g (cs:=[.int .u8 (m:Int)]) (x:=(m:Int)) (by kernel_rfl) rfl rfl (fun _ _ _=>IY.one) (fun _ _ _ _ _ _ h=>h) (by simp only[List.length_append];omega) (by simp only[List.length_append,maxLen];omega) fun v' w' o' g'=>?_;refine⟨?_,g'⟩;rw[hu,j,<-List.append_assoc];exact o'
theorem Rf{t:TypeId}{xo yo:Operand}{a b:Int}(w:World)(ha:Ha a)(hb:Ha b):(BY .xor t xo yo (.int .u64 a) (.int .u64 b)).run prog w=.ok (.int .u64 ((a.toNat ^^^ b.toNat:Nat):Int)) w:=by
 have e0:(BY .xor t xo yo (.int .u64 a) (.int .u64 b)).run prog w=.ok (.int .u64 (IntKind.u64.wrap (BitVec.ofInt IntKind.u64.bits a ^^^ BitVec.ofInt IntKind.u64.bits b).toNat)) w:=by
  simp[BY,eqGuard,binOp,Op.intBits]
 rw[e0];have e:((BitVec.ofInt IntKind.u64.bits a ^^^ BitVec.ofInt IntKind.u64.bits b).toNat:Int)=((a.toNat ^^^ b.toNat:Nat):Int):=by
  show((BitVec.ofInt 64 a ^^^ BitVec.ofInt 64 b).toNat:Int)=_;unfold Ha at ha hb;rw[BitVec.toNat_xor,BitVec.toNat_ofInt,BitVec.toNat_ofInt];have e:((2 ^ 64:Nat):Int)=18446744073709551616:=by decide
  rw[e,Int.emod_eq_of_lt ha.1 ha.2,Int.emod_eq_of_lt hb.1 hb.2]
 have i:a.toNat ^^^ b.toNat<2 ^ 64:=Nat.xor_lt_two_pow (by unfold Ha at ha;omega) (by unfold Ha at hb;omega);rw[e,Fl ⟨by omega,by omega⟩]
theorem Eh{x:Int}:IntKind.u64.wrap x=x%18446744073709551616:=by
 have i:(2:Int) ^ IntKind.u64.bits=18446744073709551616:=by decide
 simp only[IntKind.wrap,i,IntKind.signed,Bool.false_and];rw[if_neg (by decide)]
theorem aK{n:Int}{w:World}(h0:-9223372036854775808<=n)(h1:n<=9223372036854775807) :
  AB prog 259 [.int .i64 n] (fun v' w'=>v'=.int .u64 (Gr n:Nat)/\w'=w) w:=by
 apply XO;refine Ai (Eb (k:=.u64) w (by kernel_rfl) (by kernel_rfl)) ?_;refine Ai (Qo (n:=1) w (by decide)) ?_;refine Ai (Md (n:=63) w (by decide)) ?_;refine Ai (Eb (k:=.u64) w (by kernel_rfl) (by kernel_rfl)) ?_;have o:Ha (IntKind.u64.wrap (IntKind.u64.wrap n*2 ^ 1)):=by
  rw[Eh];exact⟨by omega,by omega⟩
 have x:Ha (IntKind.u64.wrap (n.fdiv (2 ^ 63))):=by
  rw[Eh];exact⟨by omega,by omega⟩
 refine Ai (Rf w o x) ⟨?_,rfl⟩;congr 1
 rw[Eh,Eh,Eh,Int.fdiv_eq_ediv_of_nonneg _ (by decide)];have i:((2:Int) ^ 63)=9223372036854775808:=by decide
 have y:((2:Int) ^ 1)=2:=by decide
 rw[i,y];by_cases j:0<=n
 .have q:n/9223372036854775808=0:=by omega
  rw[q];simp only[Int.zero_emod,Int.toNat_zero,Nat.xor_zero];unfold Gr;rw[if_pos j];omega
 .have q:n/9223372036854775808=-1:=by omega
  rw[q];have r:((-1:Int)%18446744073709551616).toNat=2 ^ 64-1:=by decide
  rw[r,Nat.xor_comm,Lib.xor_ones64 _ (by omega)];unfold Gr;rw[if_neg j];omega
theorem QV{S:Nat->Prop}{v:Value}{l:List Int}{n:Int}{w:World}(h:Ci S w v l)(hl:l.length+20<=1099511627776)(h0:-9223372036854775808<=n)(h1:n<=9223372036854775807) :
  AB prog 210 [v,.int .i64 n] (fun v' w'=>Em w.heap.size w' v' (l++uv (Gr n))/\Grow w w') w:=by
 apply YL;refine AA (aK h0 h1) ?_;rintro _ _ ⟨rfl,rfl⟩;exact AA (Ix h hl (Gh h0 h1)) fun _ _ h=>h
theorem SX{S E:Nat->Prop}{v j:Value}{l x:List Int}{w:World}(h:Ci S w v l)(o:Ci E w j x)(hl:l.length+x.length+40<=1099511627776) :
  AB prog 212 [v,j] (fun v' w'=>Em w.heap.size w' v' (l++(uv x.length++x))/\Grow w w') w:=by
 apply YU;obtain⟨a,c,rfl,_⟩:=o.shape;rw[AT];refine Ai (Eb (k:=.u64) w (by kernel_rfl) (by kernel_rfl)) ?_;rw[Fl ⟨by omega,by omega⟩];refine AA (Ix h (by omega) (by omega)) ?_;rintro v1 O ⟨y,i⟩;have I:(uv x.length).length<=10:=(FV 9 x.length).2;obtain⟨v',w',h1,B,J,Q⟩:=AF.append (ty:=293) HW y (o.grow i (by decide) fun _ _ h=>h) (fun _ _=>IY.one) (by simp only[List.length_append];omega) i.size (by simp only[List.length_append,maxLen];omega) (fun _ _ _ _ h=>h);refine Ai h1 ⟨?_,i.next (Mod.of_grownBy J) fun b hb e=>by have:=(AF.BM y b e).1;omega⟩;rw[List.append_assoc] at B;exact B
theorem Tg{a:Attr}:(JY a).length<=50+a.val.s.size:=by
 have h1:=(FV 9 (Gr a.key)).2;have i:=(FV 9 a.val.kind.toNat).2;have j:=(FV 9 (Gr a.val.n)).2;have o:=(FV 9 a.val.f.toNat).2;have x:=(FV 9 a.val.s.size).2;simp only[JY,List.length_append,uv,Cq];omega
theorem Us:∀{l:List Attr},(∀a∈l,a.val.s.size<=64)->(FC l).length<=114*l.length:=by
 intro l;induction l with
 |nil=>intro _;simp[FC]
 |cons a l i=>
  intro h;have h1:=@Tg a;have o:=h a List.mem_cons_self;have y:=i fun x j=>h x (List.mem_cons_of_mem _ j);simp only[FC,List.flatMap_cons,List.length_append,List.length_cons] at *;omega
theorem Em.low{B i:Nat}{w:World}{v:Value}{l:List Int}(h:Em B w v l)(hb:i<=B):Em i w v l:=h.base fun g j=>by have:=(AF.BM h g j).1;omega
theorem OD{S:Nat->Prop}{v:Value}{l:List Attr}{w:World}(h:Cv S w v l)(hI:∀a∈l,LV a)(hs:∀a∈l,a.val.s.size<=64)(hl:l.length<=64) :
  AB prog 143 [v] (fun v' w'=>v'=.string (EJ l)/\Grow w w') w:=by
 apply X8;obtain⟨a,c,rfl,_⟩:=h.shape;rw[AT];refine Af (fun vs W=>∃(i:Nat) (T:Value),i<=l.length/\vs=[T,.int .i64 i]/\Em w.heap.size W T (FC (l.take i))/\Grow w W) (fun vs _=>l.length-EF vs 1)
  ⟨0,_,Nat.zero_le _,rfl,AF.nil,Mod.refl _ _⟩ ?_
 rintro vs W ⟨i,T,hi,rfl,U,g⟩ _;simp only[GJ];refine Hq (fun a7=>?_) fun a8=>?_
 .have o:i<l.length:=by omega
  have V:=hI l[i] (List.getElem_mem o);have ak:=hs l[i] (List.getElem_mem o);have a6:(FC (l.take i)).length<=114*i:=by
   have:=@Us (l.take i) fun a ha=>hs a (List.mem_of_mem_take ha);rw[List.length_take] at this;omega
  have X:FC (l.take (i+1))=FC (l.take i)++JY l[i]:=by
   have e:l.take (i+1)=l.take i++[l[i]]:=by rw[List.take_add_one,List.getElem?_eq_getElem o];rfl
   rw[e];unfold FC;rw[List.flatMap_append];simp only[List.flatMap_cons,List.flatMap_nil,List.append_nil]
  obtain⟨p,r,rfl,_,hr,hc,rfl⟩:=(h.grow g (by decide) fun _ _ h=>h).get o;generalize l[i]=x at *;obtain⟨i1,i2,i3,i4,i5⟩:=V;refine Ab o (Ah hr (fun j u hu=>by rw[Addr.add_add];exact hc j u hu) ?_);refine BO (vs:=x.cells) rfl rfl (Cx.one (w:=w) (x:=x) rfl) fun b5 W1 al an g5 y _=>?_;have q0:=y 0 _ rfl;have q1:=y 1 _ rfl;have q2:=y 2 _ rfl;have q3:=y 3 _ rfl;have q4:=y 4 _ rfl;have E:=g.trans g5;have o1:Em w.heap.size W1 T (FC (l.take i)):=AF.mod U g5 (fun _ _ h=>h) fun _ _ _ h=>h;rw[AG];refine AL q0 ?_;refine AA (QV o1.sl (by omega) i1.1 i1.2) ?_;rintro v2 W2 ⟨o2,g2⟩;have B:∀n,(uv n).length<=10:=fun n=>(FV 9 n).2;have u1:=B (Gr x.key);have u2:=B x.val.kind.toNat;have u3:=B (Gr x.val.n);have u4:=B x.val.f.toNat;rw[AG,AG,Addr.add_add];refine AL (g2.cell q1 fun h=>h) ?_;refine Ai (Eb (k:=.u64) W2 (by kernel_rfl) (by kernel_rfl)) ?_;rw[Fl ⟨i2.1,by omega⟩];have ek:(Value.int .u64 x.val.kind)=.int .u64 ((x.val.kind.toNat:Nat):Int):=by rw[Int.toNat_of_nonneg i2.1]
  rw[ek];refine AA (Ix o2.sl (by simp only[List.length_append];omega) (by omega)) ?_;rintro v3 W3 ⟨o3,g3⟩;have I:=g2.trans g3;rw[AG,AG,Addr.add_add];refine AL (I.cell q2 fun h=>h) ?_;refine AA (QV o3.sl (by simp only[List.length_append];omega) i3.1 i3.2) ?_;rintro v4 W4 ⟨o4,g4⟩;have J:=I.trans g4;rw[AG,AG,Addr.add_add];refine AL (J.cell q3 fun h=>h) ?_;have ef:(Value.int .u64 x.val.f)=.int .u64 ((x.val.f.toNat:Nat):Int):=by rw[Int.toNat_of_nonneg i4.1]
  rw[ef];refine AA (Ix o4.sl (by simp only[List.length_append];omega) (by omega)) ?_;rintro v5 W5 ⟨o5,Y⟩;have O:=J.trans Y;rw[AG,AG,Addr.add_add];refine AL (O.cell q4 fun h=>h) ?_;refine Nh (by omega) fun v6 W6 g6 Z=>?_;have Q:=O.trans g6;have o6:Em W4.heap.size W6 v5 _:=AF.mod (R':=IY) o5 g6 (fun _ _ h=>h) fun _ _ _ h=>h;refine AA (SX o6.sl Z (by simp only[List.length_append,Cq];omega)) ?_;rintro v7 W7 ⟨o7,g7⟩;have a1:=Q.trans g7;rw[AR,AQ (by omega)];refine⟨⟨i+1,v7,o,rfl,?_,E.trans a1⟩,by rw[BJ,BJ];omega⟩;rw[X];have e7:FC (l.take i)++JY x=FC (l.take i)++uv (Gr x.key)++uv x.val.kind.toNat++uv (Gr x.val.n)++uv x.val.f.toNat++(uv (Bk x.val.s).length++Bk x.val.s):=by
   rw[Cq];simp only[JY,List.append_assoc]
  rw[e7];exact o7.low (Nat.le_trans E.size Q.size)
 .have:i=l.length:=by omega
  subst this;rw[List.take_length] at U;exact Ai (Qj U.sl (JN hI)) ⟨rfl,g⟩
theorem Q6{D S:Nat->Prop}{sv v:Value}{ks:List DKey}{l:List Attr}{w:World}(hS:DG D w sv ks)(h:Cv S w v l)(hT:EV w)(hI:∀a∈l,0<=a.val.f) :
  AB prog 142 [sv,v] (fun v' w'=>v'=.int .i64 (Bb ks l)/\Grow w w') w:=by
 classical
 apply Wf;obtain⟨a,c,rfl,hm⟩:=h.shape;simp only[maxLen] at hm;have bad:∀w',Grow w w'->JF l->Value.int .i64 3=.int .i64 (Bb ks l)/\Grow w w':=fun w' g hb=>⟨by rw[Bb,if_pos hb],g⟩;rw[AT,BL];refine AE (fun h6=>bad _ (Mod.refl _ _) (.inr (.inl (by omega)))) fun h6=>?_;rw[AT];refine Af (fun vs W=>∃i:Nat,i<=l.length/\vs=[.int .i64 (if GG ks (l.take i) then 4 else 0),.int .i64 i]/\Grow w W/\(∀a∈l.take i,DK a.val)/\Lh Attr.key l i) (fun vs _=>l.length-EF vs 1)
  ⟨0,Nat.zero_le _,by rw[if_neg (by rintro⟨a,ha,_⟩;simp at ha)];rfl,Mod.refl _ _,by simp,fun j hj=>by omega⟩ ?_
 rintro vs W ⟨i,hi,rfl,g,hv,T⟩ _;simp only[GJ];refine Hq (fun b3=>?_) fun a7=>?_
 .have o:i<l.length:=by omega
  obtain⟨p,r,rfl,_,hr,hc,rfl⟩:=(h.grow g (by decide) fun _ _ h=>h).get o;refine Ab o (Ah hr (fun j u hu=>by rw[Addr.add_add];exact hc j u hu) ?_);refine BO (vs:=l[i].cells) rfl rfl (Cx.one (w:=w) (x:=l[i]) rfl) fun b7 V b4 b5 g7 J _=>?_;have I:=g.trans g7;have Z:=hI l[i] (List.getElem_mem o);have e1:l.take (i+1)=l.take i++[l[i]]:=by rw[List.take_add_one,List.getElem?_eq_getElem o];rfl
  refine AU (fun vs W2=>Grow V W2/\((vs=[.bool true]/\JF l)\/(vs=[.bool false]/\DK l[i].val/\Lh Attr.key l (i+1)))) ?_ ?_
  .rintro vs W2 ⟨X,a8⟩ _;rcases a8 with⟨rfl,hb⟩|⟨rfl,E,O⟩
   .exact Ao (bad _ (I.trans X) hb)
   .refine AS ?_;rw[AG];refine AL (X.cell (J 0 _ rfl) fun h=>h) ?_;rw[AG];refine Ah (vs:=l[i].val.cells) rfl (fun j u hu=>X.cell (by rw[Addr.add_add];exact J (1+j) u (by rw[Nat.add_comm];exact hu)) fun h=>h) ?_;refine AA (Nz (hS.grow (I.trans X)) (hT.grow (I.trans X)) Z) ?_;rintro _ W3 ⟨rfl,g3⟩;have a1:=(I.trans X).trans g3;rw[An];have a6:∀a∈l.take (i+1),DK a.val:=fun a ha=>by
     rw[e1] at ha;rcases List.mem_append.1 ha with ha|ha
     .exact hv a ha
     .simp at ha;subst ha;exact E
    by_cases B:Gv ks l[i].key l[i].val
    .rw[decide_eq_true B];refine AS ?_;rw[AR,AQ (by omega)];refine⟨⟨i+1,o,?_,a1,a6,O⟩,by rw[BJ,BJ];omega⟩;have e:GG ks (l.take (i+1))↔GG ks (l.take i):=by
      unfold GG;rw[e1];constructor
      .rintro⟨a,ha,hn⟩;rcases List.mem_append.1 ha with ha|ha
       .exact⟨a,ha,hn⟩
       .simp at ha;subst ha;exact absurd B hn
      .rintro⟨a,ha,hn⟩;exact⟨a,List.mem_append_left _ ha,hn⟩
     simp only[e]
    .rw[decide_eq_false B];refine Ao ?_;rw[AR,AQ (by omega)];refine⟨⟨i+1,o,?_,a1,a6,O⟩,by rw[BJ,BJ];omega⟩;rw[if_pos (show GG ks (l.take (i+1)) from⟨l[i],by rw[e1];exact List.mem_append_right _ (List.mem_singleton.2 rfl),B⟩)]
  .refine Ag (fun _ _=>False) ?_;have Y:Grow V V.drew:=Mod.drew _ _;have U:Lh Attr.key l (i+1)->AM 1 (.pointer (some (⟨b7,0,none⟩:Addr))) fun ak=>Dv (Hn [16] [[],[0],[0,1],[0,1,2],[0,1,2],[0,1,2,4],[0,1,2,3,4,5],[0,1,2,3,4,5,6],[0,1,2,3,4,5,6,7],[0,1,2],[0,1,2,9],[0,1,2,3,4,5,6,7,8,9,10],[0,1,2,3,4,5,6,7,8,9,10,11],[0,1,2,3,4,5,6,7,8,9,10,11,12],[0,1,2,3,4,5,6,7,8,9,10,11,12,13],[0,1,2,3,4,5,6,7,8,9,10,11,12,13,14],[0,1,2,3,4,5,6,7,8,9,10,11,12,13,14,15],[0,1,2,3,4,5,6,7,8,9,10,11,12,13,14,15,16],[0,1,2,3,4,5,6,7,8,9,10,11,12,13,14,15,16,17],[0,1,2,3,4,5,6,7,8,9,10,11,12,13,14,15,16,17,18]] (fun _ _=>False) V.drew 15) 4 ak fun al=>
     AB prog 208 [al] (fun an w9=>Mod (fun _=>False) V.drew w9/\Br an fun av=>(fun vs W2=>Grow V W2/\((vs=[.bool true]/\JF l)\/(vs=[.bool false]/\DK l[i].val/\Lh Attr.key l (i+1)))) [av] w9) V.drew:=by
    intro O;rw[AG];refine CL (vs:=l[i].val.cells) rfl (fun j u hu=>⟨Y.cell (by rw[Addr.add_add];exact J (1+j) u (by rw[Nat.add_comm];exact hu)) fun h=>h,fun _ _ h=>h⟩) ?_;refine AA (Mh (hT.grow (I.trans Y)) Z) ?_;rintro _ W3 ⟨rfl,g3⟩;refine⟨g3,?_⟩;rw[An];refine⟨Y.trans g3,?_⟩;by_cases E:DK l[i].val
    .exact .inr ⟨by rw[decide_eq_true E];rfl,E,O⟩
    .exact .inl ⟨by rw[decide_eq_false E];rfl,.inr (.inr ⟨l[i],List.getElem_mem o,E⟩)⟩
   rw[BL];refine AE (fun ax=>?_) fun ax=>U (fun j hj=>by omega);rw[A6,wrap64 (by omega) (by omega),show((i:Int)-1)=((i-1:Nat):Int) by omega];have Q:i-1<l.length:=by omega
   obtain⟨_,r2,e2,_,b6,ay,rfl⟩:=(h.grow g (by decide) fun _ _ h=>h).get Q;cases e2;refine Ab Q ?_;rw[AG,Addr.add_add];refine Aa ⟨(g7.trans Y).cell (ay 0 _ rfl) fun h=>h,fun _ _ h=>h⟩ ?_;rw[AG];refine Aa ⟨Y.cell (J 0 _ rfl) fun h=>h,fun _ _ h=>h⟩ ?_;rw[Da];refine AE (fun a7=>⟨Y,.inl ⟨rfl,.inl fun hr=>?_⟩⟩) fun b2=>U ?_
   .have:=hr i (by omega) o _ _ (List.getElem?_eq_getElem Q) (List.getElem?_eq_getElem o);omega
   .intro j b0 b8 x y hx hy;by_cases b1:j<i
    .exact T j b0 b1 x y hx hy
    .have:j=i:=by omega
     subst this;rw[List.getElem?_eq_getElem Q] at hx;rw[List.getElem?_eq_getElem o] at hy;cases hx;cases hy;omega
 .have:i=l.length:=by omega
  subst this;rw[List.take_length] at hv;refine⟨?_,g⟩;have ok:¬JF l:=by
   rintro(h|h|⟨a,ha,h⟩)
   .exact h T
   .omega
   .exact h (hv a ha)
  rw[List.take_length,Bb,if_neg ok]
end Go.Proofs.YtmdhibffnkhcnaaGreatDoor
namespace Go.K
open Go
theorem P7(s:ByteArray):MapKept.IsKey .string (.string s):=trivial
def Tab.ask{α:Type}(t:Tab α)(z:α)(id:Int):Option (Ent α):=if id=0 then some ⟨z,t.empty⟩ else if id<0 then none else match t.places[(id-1).toNat]? with
 |some p=>if p.held=0 then none else some p
 |none=>none
structure Tab.Small {α:Type} (t:Tab α) (n:Nat):Prop where
 pl:t.places.length<=n
 em:t.empty<=n
 he:∀p∈t.places,p.held<=n
theorem Tab.Iq{α:Type}{t:Tab α}{z:α}{id:Int}{p:Ent α}(h:t.ask z id=some p)(h0:id≠0):∃i:Nat,id=(i:Int)+1/\t.places[i]?=some p/\0<p.held:=by
 unfold Tab.ask at h;rw[if_neg h0] at h;split at h
 .cases h
 .cases hp:t.places[(id-1).toNat]? with
  |none=>rw[hp] at h;cases h
  |some q=>
   rw[hp] at h;simp only at h;split at h
   .cases h
   .cases h;exact⟨(id-1).toNat,by omega,hp,by omega⟩
theorem Tab.TY{α:Type}{t:Tab α}{z:α}{i:Nat}{p:Ent α}(h:t.places[i]?=some p)(h0:0<p.held):t.ask z ((i:Int)+1)=some p:=by
 unfold Tab.ask;rw[if_neg (by omega),if_neg (by omega),show((i:Int)+1-1).toNat=i by omega,h];simp only;rw[if_neg (by omega)]
end Go.K
namespace Go.Proofs.YtmdhibffnkhcnaaGreatDoor
open Go Go.K Proofs.Tryz
abbrev P3:Nat:=181
def Fu(C:Nat->Prop):World->List Value->Ent (List Attr)->Prop:=fun w r x=>∃sv,r=[sv,.int .i64 x.held]/\Cv C w sv x.set
theorem Fu.one{C:Nat->Prop}{w:World}{r:List Value}{x:Ent (List Attr)}(h:Fu C w r x):∀u∈r,u.oneCell'=true:=by
 obtain⟨sv,rfl,i⟩:=h;obtain⟨a,c,rfl,_⟩:=i.shape;intro u hu;simp at hu;rcases hu with rfl|rfl<;>rfl
theorem Fu.mod{C M:Nat->Prop}{w w':World}{r:List Value}{x:Ent (List Attr)}(h:Fu C w r x)(hm:Mod M w w')(hC:∀b,b<w.heap.size->C b->¬M b):Fu C w' r x:=by
 obtain⟨sv,e,i⟩:=h;exact⟨sv,e,i.mod hm hC (by decide) fun _ _ h=>h⟩
theorem Fu.sub{C i:Nat->Prop}{w:World}{r:List Value}{x:Ent (List Attr)}(h:Fu C w r x)(hC:∀b,b<w.heap.size->C b->i b):Fu i w r x:=by
 obtain⟨sv,e,j⟩:=h;exact⟨sv,e,j.sub hC (by decide) fun _ _ h=>h⟩
abbrev FT(ks:List DKey):List Attr->Prop:=O2 fun s=>Bb ks s=0
structure SKs where
 sv:Value
 ks:List DKey
 S:Nat->Prop
structure Tv (F C:Nat->Prop) (W:World) (b:Nat) (ks:SKs) (t:Tab (List Attr)) (pl fr:Value) (bm:Nat):Prop where
 IV:DG ks.S W ks.sv ks.ks
 FO:AF 0 P3 2 (Fu C) W pl t.places
 JD:AF 0 3 1 K1 W fr (t.free.map fun i:Nat=>(i:Int))
 map:∃f,HP .string W bm f/\Dz t f
 inv:t.Inv (FT ks.ks)
 fb:F b/\¬C b
 fm:F bm/\¬C bm/\bm≠b
 pF:∀g,pl.ownBlock=some g->F g/\¬C g/\g≠b/\g≠bm
 fF:∀g,fr.ownBlock=some g->F g/\¬C g/\g≠b/\g≠bm/\pl.ownBlock≠some g
 cf:∀x,C x->F x/\x<W.heap.size
 sf:∀x,ks.S x->¬F x/\x<W.heap.size
theorem Tv.mod{F C M:Nat->Prop}{W W':World}{b:Nat}{ks:SKs}{t:Tab (List Attr)}{pl fr:Value}{bm:Nat}(h:Tv F C W b ks t pl fr bm)(hm:Mod M W W')(j:∀x,F x\/ks.S x->x≠b->¬M x):Tv F C W' b ks t pl fr bm:=by
 have hC:∀ x,x < W.heap.size->C x->¬ M x:=fun x _ i=>j x (.inl (h.cf x i).1) fun e=>h.fb.2 (e ▸ i);obtain ⟨f,y,B⟩:=h.map;exact ⟨h.IV.mod hm fun x _ i=>j x (.inr i) fun e=>(h.sf x i).1 (e ▸ h.fb.1),AF.mod h.FO hm (fun g o=>j g (.inl (h.pF g o).1) (h.pF g o).2.2.1) fun r x _ i=>i.mod hm hC,AF.mod h.JD hm (fun g o=>j g (.inl (h.fF g o).1) (h.fF g o).2.2.1) fun _ _ _ h=>h,⟨f,y.mod hm (j bm (.inl h.fm.1) h.fm.2.2),B⟩,h.inv,h.fb,h.fm,h.pF,h.fF,
  fun x i=>⟨(h.cf x i).1,Nat.lt_of_lt_of_le (h.cf x i).2 hm.size⟩,fun x i=>⟨(h.sf x i).1,Nat.lt_of_lt_of_le (h.sf x i).2 hm.size⟩⟩
abbrev SM(sv pl fr:Value)(bm:Nat)(em:Nat):List Value:=[sv,pl,fr,.map (some bm),.int .i64 em]
structure Km (F C:Nat->Prop) (W:World) (b:Nat) (ks:SKs) (t:Tab (List Attr)) (pl fr:Value) (bm:Nat):Prop where
 cells:∀j v,(SM ks.sv pl fr bm t.empty)[j]?=some v->W.cell? ⟨b,j,none⟩=some v
 live:∀j,j<5->Live W ⟨b,j,none⟩
 core:Tv F C W b ks t pl fr bm
def EX(F:Nat->Prop)(W:World)(b:Nat)(ks:SKs)(t:Tab (List Attr)):Prop:=∃C pl fr bm,Km F C W b ks t pl fr bm
theorem Km.mod{F C M:Nat->Prop}{W W':World}{b:Nat}{ks:SKs}{t:Tab (List Attr)}{pl fr:Value}{bm:Nat}(h:Km F C W b ks t pl fr bm)(hm:Mod M W W')(i:∀x,F x\/ks.S x->¬M x):Km F C W' b ks t pl fr bm:=
 ⟨fun j v o=>hm.cell (h.cells j v o) (i b (.inl h.core.fb.1)),fun j y=>(h.live j y).mod hm (i b (.inl h.core.fb.1)),h.core.mod hm fun x B _=>i x B⟩
theorem EX.mod{F M:Nat->Prop}{W W':World}{b:Nat}{ks:SKs}{t:Tab (List Attr)}(h:EX F W b ks t)(hm:Mod M W W')(i:∀x,F x\/ks.S x->¬M x):EX F W' b ks t:=by
 obtain⟨C,pl,fr,bm,h⟩:=h;exact⟨C,pl,fr,bm,h.mod hm i⟩
theorem EX.grow{F:Nat->Prop}{W W':World}{b:Nat}{ks:SKs}{t:Tab (List Attr)}(h:EX F W b ks t)(g:Grow W W'):EX F W' b ks t:=h.mod g fun _ _ h=>h
def Ib(F:Nat->Prop)(w w':World)(b:Nat)(ks:SKs)(t:Tab (List Attr)):Prop:=∃F',(∀x,F' x->F x\/w.heap.size<=x/\x<w'.heap.size)/\EX F' w' b ks t/\Mod F w w'
theorem Ib.same{F:Nat->Prop}{w w':World}{b:Nat}{ks:SKs}{t:Tab (List Attr)}(h:EX F w' b ks t)(hm:Mod F w w'):Ib F w w' b ks t:=⟨F,fun _ h=>.inl h,h,hm⟩
theorem EX.lt{F:Nat->Prop}{W:World}{b:Nat}{ks:SKs}{t:Tab (List Attr)}(h:EX F W b ks t):b<W.heap.size/\F b:=by
 obtain⟨C,pl,fr,bm,h⟩:=h;exact⟨World.block_lt_of_cell? W _ (h.cells 4 _ rfl),h.core.fb.1⟩
theorem LZ{xo yo:Operand}{m:Option Nat}(w:World):(BY .neq 143 xo yo (.map m) (.map none)).run prog w=.ok (.bool (!m.isNone)) w:=by
 have hu:=underlying143;have e:(binOp .neq 143 (.map m) (.map none)).run prog w=.ok (.bool (!m.isNone)) w:=run_neq_map_nil w _ _ _ _ hu;simp[BY,eqGuard,e]
theorem LJ{F:Nat->Prop}{W:World}{b:Nat}{ks:SKs}{t:Tab (List Attr)}(h:EX F W b ks t):AB prog 124 [.pointer (some ⟨b,0,none⟩)] (fun v' w'=>v'=.bool true/\w'=W) W:=by
 obtain⟨C,pl,fr,bm,h⟩:=h;apply Wm;refine Cs (Ao (AH ?_));rw[AG,AI];exact AL (h.cells 3 _ rfl) (Ai (LZ W) ⟨rfl,rfl⟩)
theorem Xl{ks:SKs}{w:World}(h:DG ks.S w ks.sv ks.ks)(Q:∀x,ks.S x->x<w.heap.size) :
  AB prog 39 [ks.sv] (fun v' w'=>Grow w w'/\∃b,w.heap.size<=b/\v'=.pointer (some ⟨b,0,none⟩)/\EX (fun x=>w.heap.size<=x/\x<w'.heap.size) w' b ks (Tab.z _)) w:=by
 apply Zz;refine Ai (v:=.map (some w.heap.size)) (w':=w.alloc (.map #[] 0)) rfl ?_;have T:Grow w (w.alloc (.map #[] 0)):=Mod.alloc _ _ _;have o:HP .string (w.alloc (.map #[] 0)) w.heap.size (fun _=>none):=HP.make .string w;have E:(w.alloc (.map #[] 0)).heap.size=w.heap.size+1:=by simp
 generalize w.alloc (.map #[] 0)=w1 at T o E ⊢;obtain⟨sv,ks,S⟩:=ks;obtain⟨U,_,_,_,rfl,_⟩:=id h;refine⟨(SM (.pointer (some ⟨U,0,none⟩)) (.slice none 0 0) (.slice none 0 0) w.heap.size 0).toArray,by kernel_rfl,?_⟩;refine Db (vs:=SM (.pointer (some ⟨U,0,none⟩)) (.slice none 0 0) (.slice none 0 0) w.heap.size 0) fun b w2 hb X V I J=>?_;have i:=T.trans V;have y:=h.grow i;have Y:=i.size;refine⟨i,b,by omega,rfl,fun _=>False,.slice none 0 0,.slice none 0 0,w.heap.size,?_⟩;refine⟨fun j v Z=>by have:=I j v Z;rwa [AI] at this,fun j hj=>by have:=J j hj;rwa [AI] at this,?_⟩;refine⟨y,AF.nil,AF.nil,⟨_,o.mod V fun h=>h,Dz.z⟩,Tab.Inv.z _,⟨⟨by omega,by omega⟩,fun h=>h⟩,⟨⟨by omega,by omega⟩,fun h=>h,by omega⟩,(fun g O=>nomatch O),(fun g O=>nomatch O),(fun x B=>B.elim),fun x B=>⟨fun e=>by have:=Q x B;omega,by have:=Q x B;omega⟩⟩
theorem Wv{F:Nat->Prop}{W:World}{b:Nat}{ks:SKs}{t:Tab (List Attr)}(h:EX F W b ks t)(o:t.places.length<=1099511627776) :
  AB prog 67 [.pointer (some ⟨b,0,none⟩)] (fun v' w'=>v'=.int .i64 (1+t.places.length-t.free.length)/\Grow W w') W:=by
 apply ZF;refine AA (LJ h) ?_;rintro _ _ ⟨rfl,rfl⟩;rename World=>W
 obtain⟨C,pl,fr,bm,h⟩:=h;have y:=Tab.NX h.core.inv;rw[An];refine AS (CZ (fun W'=>Grow W W') (Mod.drew _ _) ?_);refine AH ?_;rw[AG,AI];refine Au (fun w2 g=>g.cell (h.cells 1 _ rfl) fun h=>h) ?_;obtain⟨a,c,i,_⟩:=h.core.FO.sl.shape;obtain⟨B,E,j,_⟩:=h.core.JD.sl.shape;rw[i,AT,AR];refine AH ?_;rw[AG,AI];refine Au (fun w2 g=>g.cell (h.cells 2 _ rfl) fun h=>h) ?_;rw[j,AT,A6,List.length_map];intro W' g';refine⟨?_,g'⟩;rw[wrap64 (x:=1+(t.places.length:Int)) (by omega) (by omega),wrap64 (by omega) (by omega)]
theorem LG{F:Nat->Prop}{W:World}{b:Nat}{ks:SKs}{t:Tab (List Attr)}{id:Int}(h:EX F W b ks t)(hs:t.places.length<=1099511627776)(h0:-9223372036854775808<=id)(h1:id<=9223372036854775807) :
  AB prog 106 [.pointer (some ⟨b,0,none⟩),.int .i64 id] (fun v' w'=>Grow W w'/\match t.ask [] id with
   |some p=>∃sv,v'=.tuple #[.agg #[sv,.int .i64 p.held],.int .i64 0]/\sv.oneCell'=true/\Cv F w' sv p.set
   | none=>v'=.tuple #[.agg #[.slice none 0 0,.int .i64 0],.int .i64 5]) W:=by
 apply YG;refine EI fun b4 Y ax ay V _ Z=>?_;have a1:=h.grow V;obtain⟨C,pl,fr,bm,X⟩:=h;have B:=X.mod V fun _ _ h=>h;obtain⟨pa,pc,E,_⟩:=X.core.FO.sl.shape;have J:=B.core.FO.sl;rw[E] at J;have box:∀(vs:List Value) {W':World} {K:Cont},vs.length=2->(∀v∈vs,v.oneCell'=true)->Grow Y W'->(∀o,Grow W o->K (.agg vs.toArray) o)->AZ 2 (.pointer (some ⟨b4,0,none⟩)) (.agg vs.toArray) (fun w=>Ac 2 (.pointer (some ⟨b4,0,none⟩)) K w) W':=by
  intro vs W' K hn ho g' hK;refine CT hn ho (fun j hj=>(Z j hj).mod g' fun h=>h) fun o m hc _=>?_;exact Ah hn hc (hK _ ((V.trans g').next m fun x hx e=>by omega))
 have no:t.ask [] id=none->∀{o:World},Grow W o->Grow W o/\match t.ask [] id with
   |some p=>∃sv,Value.tuple #[.agg #[.slice none 0 0,.int .i64 0],.int .i64 5]=.tuple #[.agg #[sv,.int .i64 p.held],.int .i64 0]/\sv.oneCell'=true/\Cv F o sv p.set
   |none=>Value.tuple #[.agg #[.slice none 0 0,.int .i64 0],.int .i64 5]=.tuple #[.agg #[.slice none 0 0,.int .i64 0],.int .i64 5]:=fun e o g=>⟨g,by rw[e]⟩
 refine AU (fun _ W'=>Grow Y W'/\∃(i:Nat) (p:Ent (List Attr)),id=(i:Int)+1/\t.places[i]?=some p/\0<p.held) ?_ ?_
 .rintro _ W2 ⟨g2,i,p,rfl,hp,a6⟩ _;have I:=(List.getElem?_eq_some_iff.1 hp).1;have Q:=(List.getElem?_eq_some_iff.1 hp).2;refine AH ?_;refine Bm (g2.cell (B.cells 1 _ rfl) fun h=>h) ?_;rw[A6,wrap64 (by omega) (by omega),show((i:Int)+1-1)=(i:Int) by omega,E];obtain⟨q,r,rfl,_,hr,hc,O⟩:=J.get I;obtain⟨si,rfl,S⟩:=O;refine Ab I (Ah hr (fun j u hu=>by rw[Addr.add_add];exact g2.cell (hc j u hu) fun h=>h) ?_);obtain⟨sa,sc,rfl,_⟩:=S.shape;refine box [_,_] rfl (fun u hu=>by simp at hu;rcases hu with rfl|rfl<;>rfl) g2 fun o y=>?_;rw[Tab.TY hp a6];refine⟨y,_,by rw[Q],rfl,?_⟩;have a7:Cv C W (.slice sa t.places[i].set.length sc) t.places[i].set:=by
   obtain⟨q',r',e',_,b0,a8,s',e2,ak⟩:=(E▸X.core.FO.sl).get I;cases e';have c0:=V.cell (a8 0 s' (by rw[e2];rfl)) fun h=>h;have c1:=hc 0 _ rfl;rw[c0] at c1;cases c1;exact ak
  rw[<-Q];exact(a7.sub (fun x _ hx=>(X.core.cf x hx).1) (by decide) fun _ _ h=>h).grow y (by decide) fun _ _ h=>h
 .refine AA (LJ a1) ?_;rintro _ _ ⟨rfl,rfl⟩;rename World=>Y
  rw[An];refine AS ?_;rw[Am];refine AE (fun T=>?_) fun T=>?_
  .refine AH ?_;refine Bm (B.cells 4 _ rfl) ?_;refine⟨#[.slice none 0 0,.int .i64 t.empty],by kernel_rfl,?_⟩;refine box [.slice none 0 0,.int .i64 t.empty] rfl (fun u hu=>by simp at hu;rcases hu with rfl|rfl<;>rfl) (Mod.refl _ _) fun o y=>?_;have ea:t.ask [] id=some ⟨[],t.empty⟩:=by unfold Tab.ask;rw[if_pos T]
   rw[ea];exact⟨y,_,rfl,rfl,BH.nil⟩
  refine Hq (fun al=>?_) fun U=>?_
  .refine⟨#[.slice none 0 0,.int .i64 0],by kernel_rfl,?_⟩;exact box [.slice none 0 0,.int .i64 0] rfl (fun u hu=>by simp at hu;rcases hu with rfl|rfl<;>rfl) (Mod.refl _ _) fun o y=>no (by unfold Tab.ask;rw[if_neg T,if_pos al]) y
  have an:0<=id:=by omega
  refine AH ?_;refine Bm (B.cells 1 _ rfl) ?_;rw[E,AT,BL];refine AE (fun av=>?_) fun b1=>?_
  .refine⟨#[.slice none 0 0,.int .i64 0],by kernel_rfl,?_⟩;refine box [.slice none 0 0,.int .i64 0] rfl (fun u hu=>by simp at hu;rcases hu with rfl|rfl<;>rfl) (Mod.refl _ _) fun o y=>no ?_ y;unfold Tab.ask;rw[if_neg T,if_neg U,List.getElem?_eq_none (by omega)]
  obtain⟨i,rfl⟩:∃i:Nat,id=(i:Int)+1:=⟨(id-1).toNat,by omega⟩;have I:i<t.places.length:=by omega
  refine AH ?_;refine Bm (B.cells 1 _ rfl) ?_;rw[A6,wrap64 (by omega) (by omega),show((i:Int)+1-1)=(i:Int) by omega,E];obtain⟨q,r,rfl,_,hr,hc,O⟩:=J.get I;obtain⟨si,rfl,S⟩:=O;refine Ab I ?_;rw[AG,Addr.add_add];refine AL (hc 1 _ rfl) ?_;rw[Am];refine AE (fun h0=>?_) fun h0=>⟨Mod.refl _ _,i,t.places[i],rfl,List.getElem?_eq_getElem I,by omega⟩;refine⟨#[.slice none 0 0,.int .i64 0],by kernel_rfl,?_⟩;refine box [.slice none 0 0,.int .i64 0] rfl (fun u hu=>by simp at hu;rcases hu with rfl|rfl<;>rfl) (Mod.refl _ _) fun o y=>no ?_ y;unfold Tab.ask;rw[if_neg T,if_neg U,show((i:Int)+1-1).toNat=i by omega,List.getElem?_eq_getElem I];simp only;rw[if_pos (by omega)]
end Go.Proofs.YtmdhibffnkhcnaaGreatDoor
namespace Go.K
open Go
def Tab.hold{α:Type}(t:Tab α)(z:α)(id:Int):Tab α:=match t.ask z id with
 |none=>t
 |some p=>if id=0 then { t with empty:=t.empty+1 } else t.HK (id-1).toNat ⟨p.set,p.held+1⟩
def Tab.release{α:Type}(t:Tab α)(z:α)(id:Int):Tab α:=match t.ask z id with
 |none=>t
 |some p=>if id=0 then { t with empty:=t.empty-1 } else if p.held=1 then t.drop z (id-1).toNat else t.HK (id-1).toNat ⟨p.set,p.held-1⟩
end Go.K
namespace Go.Proofs.YtmdhibffnkhcnaaGreatDoor
open Go Go.K Proofs.Tryz
theorem KJ{ks:List DKey}{s:List Attr}(h:FT ks s):s.length<=64/\∀a∈s,a.val.s.size<=64:=by
 classical
 have hb:¬JF s:=fun hb=>by
  have o:Bb ks s=0:=h.2.2;unfold Bb at o;rw[if_pos hb] at o;cases o
 refine⟨Nat.le_of_not_lt fun j=>hb (.inr (.inl j)),fun a ha=>Nat.le_of_not_lt fun j=>hb (.inr (.inr ⟨a,ha,fun i=>?_⟩))⟩;rcases i with i|i|i|i
 .rw[i.2.1] at j;exact absurd j (by simp[Fc,ByteArray.size])
 .rw[i.2] at j;exact absurd j (by simp[Fc,ByteArray.size])
 .rw[i.2.1] at j;exact absurd j (by simp[Fc,ByteArray.size])
 .have:=i.2.2.1;omega
theorem NO{F C:Nat->Prop}{W:World}{b:Nat}{ks:SKs}{t:Tab (List Attr)}{pl fr:Value}{bm:Nat}(h:Tv F C W b ks t pl fr bm){id:Int}{p:Ent (List Attr)}(hp:t.ask [] id=some p):p.set.length<=64:=by
 by_cases h0:id=0
 .unfold Tab.ask at hp;rw[if_pos h0] at hp;cases hp;simp
 .obtain⟨i,_,h1,j⟩:=Tab.Iq hp h0;exact(KJ (h.inv.ok i p h1 j)).1
theorem Mw{F:Nat->Prop}{W:World}{b:Nat}{ks:SKs}{t:Tab (List Attr)}{id:Int}(h:EX F W b ks t)(E:t.places.length<=1099511627776)(h0:-9223372036854775808<=id)(h1:id<=9223372036854775807) :
  AB prog 51 [.pointer (some ⟨b,0,none⟩),.int .i64 id] (fun v' w'=>Grow W w'/\match t.ask [] id with
   |some p=>∃sv,v'=.tuple #[sv,.int .i64 0]/\IP W.heap.size w' sv p.set
   | none=>v'=.tuple #[.slice none 0 0,.int .i64 5]) W:=by
 apply aD;refine AA (LG h E h0 h1) ?_;rintro v1 T ⟨y,hm⟩;cases ha:t.ask [] id with
 |none=>
  rw[ha] at hm;subst hm;refine BK ?_;refine BO (vs:=[.slice none 0 0,.int .i64 0]) rfl rfl (fun u hu=>by simp at hu;rcases hu with rfl|rfl<;>rfl) fun I w2 _ _ x i _=>?_;rw[Bg];exact AY (fun e=>by cases e) fun _=>⟨y.trans x,rfl⟩
 |some p=>
  rw[ha] at hm;obtain⟨sv,rfl,J,j⟩:=hm;refine BK ?_;refine BO (vs:=[sv,.int .i64 p.held]) rfl rfl (fun u hu=>by simp at hu;rcases hu with rfl|rfl;exact J;rfl) fun I w2 _ _ x i _=>?_;refine Mo ?_;rw[AG];refine AL (i 0 _ rfl) ?_;obtain⟨C,pl,fr,bm,O⟩:=h;have hl:=NO O.core ha;refine AA (G4 (j.grow x (by decide) fun _ _ h=>h) (by omega)) ?_;rintro v3 U ⟨B,Q⟩;have o:=y.trans x;exact⟨o.trans Q,v3,rfl,B.base fun g S=>by have:=(AF.BM B g S).1;have:=o.size;omega⟩
theorem KF{F C:Nat->Prop}{W:World}{b:Nat}{ks:SKs}{t:Tab (List Attr)}{pl fr:Value}{bm i n:Nat}{p:Ent (List Attr)}{K:World->Prop}{a:Addr}{c:Nat}(h:Km F C W b ks t pl fr bm)(hp:t.places[i]?=some p)(h0:0<p.held)(T:0<n)(B:pl=.slice (some a) t.places.length c)
 (Y:∀W',Km F C W' b ks (t.HK i ⟨p.set,n⟩) pl fr bm->Mod F W W'->K W'):BD (.pointer (some (a.add (i*2+1)))) (.int .i64 n) K W:=by
 have Z:=(List.getElem?_eq_some_iff.1 hp).1;have O:=(List.getElem?_eq_some_iff.1 hp).2;have E:=h.core.FO;rw[B] at E;have I:pl.ownBlock=some a.block:=by rw[B];rfl
 obtain ⟨U,f2,V,f4⟩:=h.core.pF _ I;have J:Mod (fun x=>x=a.block) W (W.setCell (a.add (i * 2+1)) (.int .i64 n)):=Mod.setCell _ _ _ (by rw [BP]);have hC:∀ x,x < W.heap.size->C x->¬ x=a.block:=fun x _ o e=>f2 (e ▸ o);obtain ⟨⟨u,hu⟩,hf,ho,hm⟩:=AF.store (R':=Fu C) (u:=.int .i64 n) (x':=⟨p.set,n⟩) (j:=1) E Z (by decide) rfl (fun r y _ hr=>hr.mod J hC) (fun r hr=>by
  obtain ⟨s,rfl,X⟩:=hr;refine ⟨s,rfl,?_⟩;rw [O] at X;exact X.mod J hC (by decide) fun _ _ h=>h)
 refine K8 rfl rfl hu hf (Y _ ?_ (hm.mono fun x _ e=>by rw[e];exact U));obtain⟨f,Q,S⟩:=h.core.map;refine⟨fun j v hv=>hm.cell (h.cells j v hv) (fun e=>V e.symm),fun j hj=>(h.live j hj).mod hm (fun e=>V e.symm),?_⟩;exact⟨h.core.IV.mod hm fun x _ o e=>(h.core.sf x o).1 (e▸U),by rw[B];exact ho,AF.mod h.core.JD hm (fun g hg e=>(h.core.fF g hg).2.2.2.2 (by rw[I,e])) fun _ _ _ h=>h,⟨f,Q.mod hm (fun e=>f4 e.symm),S.HK hp h0 T⟩,h.core.inv.HK hp h0 T,h.core.fb,h.core.fm,h.core.pF,h.core.fF,fun x o=>⟨(h.core.cf x o).1,Nat.lt_of_lt_of_le (h.core.cf x o).2 hm.size⟩,fun x o=>⟨(h.core.sf x o).1,Nat.lt_of_lt_of_le (h.core.sf x o).2 hm.size⟩⟩
theorem HN{F C:Nat->Prop}{W:World}{b:Nat}{ks:SKs}{t:Tab (List Attr)}{pl fr:Value}{bm n:Nat}{K:World->Prop}(h:Km F C W b ks t pl fr bm)
 (o:∀W',Km F C W' b ks { t with empty:=n } pl fr bm->Mod F W W'->K W'):BD (.pointer (some ⟨b,4,none⟩)) (.int .i64 n) K W:=by
 refine Ey h.cells (fun j i=>h.live j i) (q:=4) (show 4<5 by decide) rfl rfl fun W' hm hc hl=>?_;refine o W' ⟨hc,fun j i=>hl j i,?_⟩ (hm.mono fun x _ e=>by rw[e];exact h.core.fb.1);have:=h.core.mod hm fun x _ y=>y;exact⟨this.IV,this.FO,this.JD,this.map,⟨this.inv.PH,this.inv.SY,this.inv.G2,this.inv.ok⟩,this.fb,this.fm,this.pF,this.fF,this.cf,this.sf⟩
theorem TD{F:Nat->Prop}{W:World}{b:Nat}{ks:SKs}{t:Tab (List Attr)}{id:Int}(h:EX F W b ks t)(O:t.Small 1099511627776)(h0:-9223372036854775808<=id)(h1:id<=9223372036854775807) :
  AB prog 152 [.pointer (some ⟨b,0,none⟩),.int .i64 id] (fun v' w'=>v'=.int .i64 (if(t.ask [] id).isSome then 0 else 5)/\Ib F W w' b ks (t.hold [] id)) W:=by
 apply Xi;refine AA (LG h O.pl h0 h1) ?_;rintro v1 w1 ⟨Y,hm⟩;unfold Tab.hold;cases ha:t.ask [] id with
 |none=>
  rw[ha] at hm;subst hm;refine BK ?_;refine BO (vs:=[.slice none 0 0,.int .i64 0]) rfl rfl (fun u hu=>by simp at hu;rcases hu with rfl|rfl<;>rfl) fun b5 w2 _ _ Q S _=>?_;rw[Bg];have j:=Y.trans Q;exact AY (fun e=>by cases e) fun _=>⟨rfl,.same (h.grow j) (j.mono fun _ _ h=>h.elim)⟩
 |some p=>
  rw[ha] at hm;obtain⟨sv,rfl,ho,Z⟩:=hm;refine BK ?_;refine BO (vs:=[sv,.int .i64 p.held]) rfl rfl (fun u hu=>by simp at hu;rcases hu with rfl|rfl;exact ho;rfl) fun b5 w2 _ _ Q S _=>?_;have j:=Y.trans Q;obtain⟨C,pl,fr,bm,hR⟩:=h;have o:=hR.mod j fun _ _ h=>h;refine Mo ?_;rw[Am];refine AE (fun I=>?_) fun I=>?_
  .refine AH ?_;refine Bm (o.cells 4 _ rfl) ?_;have:=O.em;rw[AR,wrap64 (by omega) (by omega)];refine AH ?_;rw[AG,AI];have T:((t.empty:Int)+1)=((t.empty+1:Nat):Int):=by omega
   rw[T];refine HN o fun W' x y=>⟨rfl,?_⟩;dsimp only;rw[if_pos I];exact .same ⟨C,pl,fr,bm,x⟩ ((j.mono fun _ _ h=>h.elim).trans y)
  .obtain⟨i,rfl,hp,U⟩:=Tab.Iq ha I;have J:=(List.getElem?_eq_some_iff.1 hp).1;have V:=(List.getElem?_eq_some_iff.1 hp).2;refine AH ?_;refine Bm (o.cells 1 _ rfl) ?_;obtain⟨pa,pc,B,_⟩:=o.core.FO.sl.shape;have E:=o.core.FO.sl;rw[B] at E;rw[A6,wrap64 (by omega) (by omega),show((i:Int)+1-1)=(i:Int) by omega,B];obtain⟨q,r,rfl,_,hr,hc,X⟩:=E.get J;obtain⟨si,rfl,a1⟩:=X;refine Ab J ?_;rw[AG,Addr.add_add];refine AL (hc 1 _ rfl) ?_;have a6:=O.he t.places[i] (List.getElem_mem J);rw[AR,wrap64 (by omega) (by omega)];refine Ab J ?_;rw[AG,Addr.add_add];have T:((t.places[i].held:Int)+1)=((p.held+1:Nat):Int):=by rw[V];omega
   rw[T];refine KF o hp U (n:=p.held+1) (by omega) B fun W' x y=>⟨rfl,?_⟩;dsimp only;rw[if_neg I,Int.toNat_natCast];exact .same ⟨C,pl,fr,bm,x⟩ ((j.mono fun _ _ h=>h.elim).trans y)
structure De (F C:Nat->Prop) (W:World) (b:Nat) (ks:SKs) (places:List (Ent (List Attr))) (free:List Nat) (em:Nat) (f:Value->Option Value) (pl fr:Value) (bm:Nat):Prop where
 cells:∀j v,(SM ks.sv pl fr bm em)[j]?=some v->W.cell? ⟨b,j,none⟩=some v
 live:∀j,j<5->Live W ⟨b,j,none⟩
 IV:DG ks.S W ks.sv ks.ks
 FO:AF 0 P3 2 (Fu C) W pl places
 JD:AF 0 3 1 K1 W fr (free.map fun i:Nat=>(i:Int))
 map:HP .string W bm f
 fb:F b/\¬C b
 fm:F bm/\¬C bm/\bm≠b
 pF:∀g,pl.ownBlock=some g->F g/\¬C g/\g≠b/\g≠bm
 fF:∀g,fr.ownBlock=some g->F g/\¬C g/\g≠b/\g≠bm/\pl.ownBlock≠some g
 cf:∀x,C x->F x/\x<W.heap.size
 sf:∀x,ks.S x->¬F x/\x<W.heap.size
section
variable {F C M:Nat->Prop}{W W':World}{b:Nat}{ks:SKs}{t:Tab (List Attr)}{places:List (Ent (List Attr))}{free:List Nat}{em:Nat}{f:Value->Option Value}{pl fr:Value}{bm:Nat}
theorem Km.m(h:Km F C W b ks t pl fr bm):∃f,De F C W b ks t.places t.free t.empty f pl fr bm/\Dz t f:=by
 obtain⟨f,i,j⟩:=h.core.map;exact⟨f,⟨h.cells,h.live,h.core.IV,h.core.FO,h.core.JD,i,h.core.fb,h.core.fm,h.core.pF,h.core.fF,h.core.cf,h.core.sf⟩,j⟩
theorem De.r(h:De F C W b ks t.places t.free t.empty f pl fr bm)(i:Dz t f)(j:t.Inv (FT ks.ks)):Km F C W b ks t pl fr bm:=
 ⟨h.cells,h.live,h.IV,h.FO,h.JD,⟨f,h.map,i⟩,j,h.fb,h.fm,h.pF,h.fF,h.cf,h.sf⟩
theorem De.mod(h:De F C W b ks places free em f pl fr bm)(hm:Mod M W W')(o:∀x,F x\/ks.S x->¬M x):De F C W' b ks places free em f pl fr bm:=by
 have hC:∀ x,x < W.heap.size->C x->¬ M x:=fun x _ i=>o x (.inl (h.cf x i).1);exact ⟨fun j v B=>hm.cell (h.cells j v B) (o b (.inl h.fb.1)),fun j E=>(h.live j E).mod hm (o b (.inl h.fb.1)),h.IV.mod hm fun x _ i=>o x (.inr i),AF.mod h.FO hm (fun g y=>o g (.inl (h.pF g y).1)) fun r x _ i=>i.mod hm hC,AF.mod h.JD hm (fun g y=>o g (.inl (h.fF g y).1)) fun _ _ _ h=>h,
  h.map.mod hm (o bm (.inl h.fm.1)),h.fb,h.fm,h.pF,h.fF,fun x i=>⟨(h.cf x i).1,Nat.lt_of_lt_of_le (h.cf x i).2 hm.size⟩,fun x i=>⟨(h.sf x i).1,Nat.lt_of_lt_of_le (h.sf x i).2 hm.size⟩⟩
theorem De.Tw{y:Value->Option Value}(h:De F C W b ks places free em f pl fr bm)(hm:Mod (fun x=>x=bm) W W')(B:HP .string W' bm y):De F C W' b ks places free em y pl fr bm:=by
 have hC:∀ x,x < W.heap.size->C x->¬ x=bm:=fun x _ i e=>h.fm.2.1 (e ▸ i);have hb:¬ b=bm:=fun e=>h.fm.2.2 e.symm;exact ⟨fun j v E=>hm.cell (h.cells j v E) hb,fun j I=>(h.live j I).mod hm hb,h.IV.mod hm fun x _ i e=>(h.sf x i).1 (e ▸ h.fm.1),AF.mod h.FO hm (fun g o=>(h.pF g o).2.2.2) fun r x _ i=>i.mod hm hC,AF.mod h.JD hm (fun g o=>(h.fF g o).2.2.2.1) fun _ _ _ h=>h,
  B,h.fb,h.fm,h.pF,h.fF,fun x i=>⟨(h.cf x i).1,Nat.lt_of_lt_of_le (h.cf x i).2 hm.size⟩,fun x i=>⟨(h.sf x i).1,Nat.lt_of_lt_of_le (h.sf x i).2 hm.size⟩⟩
theorem De.H9{i:List (Ent (List Attr))}{g:Nat}(h:De F C W b ks places free em f pl fr bm)(B:pl.ownBlock=some g)(hm:Mod (fun x=>x=g) W W')(hp:AF 0 P3 2 (Fu C) W' pl i):De F C W' b ks i free em f pl fr bm:=by
 obtain ⟨I,J,E,O⟩:=h.pF g B;have hC:∀ x,x < W.heap.size->C x->¬ x=g:=fun x _ o e=>J (e ▸ o);exact ⟨fun j v Q=>hm.cell (h.cells j v Q) (fun e=>E e.symm),fun j S=>(h.live j S).mod hm (fun e=>E e.symm),h.IV.mod hm (fun x _ o e=>(h.sf x o).1 (e ▸ I)),hp,AF.mod h.JD hm (fun g' y e=>(h.fF g' y).2.2.2.2 (by rw [B,e])) fun _ _ _ h=>h,
  h.map.mod hm (fun e=>O e.symm),h.fb,h.fm,h.pF,h.fF,fun x o=>⟨(h.cf x o).1,Nat.lt_of_lt_of_le (h.cf x o).2 hm.size⟩,fun x o=>⟨(h.sf x o).1,Nat.lt_of_lt_of_le (h.sf x o).2 hm.size⟩⟩
theorem De.Yf{F':Nat->Prop}{B:Value}{free':List Nat}{K:World->Prop}{Mf:Nat->Prop}(h:De F C W b ks places free em f pl fr bm)(hm:Mod Mf W W')(S:∀x,Mf x->fr.ownBlock=some x)(J:∀x,F x->F' x)(T:∀x,F' x->F x\/W.heap.size<=x)
 (ho:AF 0 3 1 K1 W' B (free'.map fun i:Nat=>(i:Int)))(hn:∀g,B.ownBlock=some g->fr.ownBlock=some g\/W.heap.size<=g/\F' g)(O:B.oneCell'=true)(U:B.cells=#[B])
 (hK:∀E,De F' C E b ks places free' em f pl B bm->Mod (fun x=>x=b) W' E->K E):BD (.pointer (some ⟨b,2,none⟩)) B K W':=by
 have hb:∀ x,Mf x->F x/\¬ C x/\x≠b/\x≠bm/\pl.ownBlock≠some x:=fun x o=>h.fF x (S x o);have hC:∀ x,x < W.heap.size->C x->¬ Mf x:=fun x _ o e=>(hb x e).2.1 o;refine Ey (vs:=SM ks.sv pl fr bm em) (fun j v hv=>hm.cell (h.cells j v hv) fun e=>(hb b e).2.2.1 rfl) (fun j V=>(h.live j V).mod hm fun e=>(hb b e).2.2.1 rfl) (q:=2) (show 2 < 5 by decide) O U fun E y hc hl=>?_;have Q:=World.block_lt_of_cell? W _ (h.cells 4 _ rfl);have X:∀ x,x < W'.heap.size->C x->¬ x=b:=fun x _ o e=>h.fb.2 (e ▸ o);have Y:=AF.BM h.FO;have a1:=h.map.lt;refine hK E ⟨hc,fun j V=>hl j V,(h.IV.mod hm fun x _ o e=>(h.sf x o).1 (hb x e).1).mod y (fun x _ o e=>(h.sf x o).1 (e ▸ h.fb.1)),AF.mod (AF.mod (R':=Fu C) h.FO hm (fun g I e=>(hb g e).2.2.2.2 I) fun r x _ o=>o.mod hm hC) y (fun g I=>(h.pF g I).2.2.1) fun r x _ o=>o.mod y X,AF.mod ho y (fun g I e=>?_) fun _ _ _ h=>h,
  (h.map.mod hm fun e=>(hb bm e).2.2.2.1 rfl).mod y h.fm.2.2,⟨J _ h.fb.1,h.fb.2⟩,⟨J _ h.fm.1,h.fm.2⟩,fun g I=>⟨J _ (h.pF g I).1,(h.pF g I).2⟩,fun g I=>?_,fun x o=>⟨J _ (h.cf x o).1,Nat.lt_of_lt_of_le (h.cf x o).2 (Nat.le_trans hm.size y.size)⟩,fun x o=>⟨fun e=>(T x e).elim (h.sf x o).1 fun e=>by have:=(h.sf x o).2;omega,Nat.lt_of_lt_of_le (h.sf x o).2 (Nat.le_trans hm.size y.size)⟩⟩ y
 .subst e;rcases hn g I with e|⟨e,_⟩
  .exact(h.fF g e).2.2.1 rfl
  .have:g<W.heap.size:=Q;omega
 .rcases hn g I with e|⟨e,e'⟩
  .have:=h.fF g e;exact⟨J _ this.1,this.2⟩
  .refine⟨e',fun hc=>by have:=(h.cf g hc).2;omega,fun Z=>?_,fun Z=>by omega,fun Z=>by have:=(Y g Z).2;omega⟩;have:b<W.heap.size:=Q;omega
end
end Go.Proofs.YtmdhibffnkhcnaaGreatDoor
