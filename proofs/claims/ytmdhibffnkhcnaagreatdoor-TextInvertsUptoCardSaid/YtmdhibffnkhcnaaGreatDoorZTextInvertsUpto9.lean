/- parts of the proof, written short by a program of ours -/
import Derived.Test.YtmdhibffnkhcnaaGreatDoorZTextInvertsUpto8
import Derived.Lib.Zigzag
set_option linter.unusedSimpArgs false
set_option linter.unusedVariables false
set_option linter.defProp false
namespace Go.Proofs.YtmdhibffnkhcnaaGreatDoor
open Go Proofs.Tryz
variable {j B N E:Nat}{w W w':World}{S M:Nat->Prop}{v fr sv:Value}{α:Type}{s:List Attr}{ks:List DKey}{rs:List Int}{K:Cont}{P:Program}{yo xo:Operand}
section
variable {v0 v1 v2 v3 v4 v5 v6 v7 v8 v9:Value}{K:Cont}{w:World}
def iL(h: AB prog 8 [v0] (fun t22 w1=>AR 0 t22 fun X=>AR 1 t22 fun bc=>Ao (fun _vs w2=>∀_:Env,AB prog 11 [X,v1] (fun Y w3=>AR 0 Y fun i=>AR 1 Y fun t45=>Dp .i64 t45 (zI 0) fun bd=>AD bd (AB prog 10 [] (fun bk w4=>K bk w4) w3) (Ac v2 fun t50=>BR .i64 t50 (zI 1) fun bl=>Ap [(zI 0)] (fun j o w5=>∀_:Env,BU .i64 (nth j 0) bl fun t53=>AD t53 (BM 3 v2 (nth j 0) fun bn=>AM 0 bn fun bp=>AJ bp (fun bs w6=>AB prog 12 [i,bs] (fun _t61 w7=>AW .i64 (nth j 0) (zI 1) fun bx=>o [bx] w7) w6) w5) (AB prog 17 [i] (fun t66 w8=>AB prog 15 [i,(zI 0),t66] (fun Z w9=>AR 0 Z fun a1=>AR 1 Z fun q=>AB prog 27 [i] (fun c4 c6=>Ac v2 fun c7=>BR .i64 c7 (zI 1) fun c8=>BM 3 v2 c8 fun t76=>AM 0 t76 fun t77=>AJ t77 (fun a6 B=>Ao (fun _vs_2 c9=>∀_:Env,AB prog 28 [X,a1,a6] (fun a7 a8=>AR 0 a7 fun ca=>AR 1 a7 fun cc=>Ao (fun _vs_3 cd=>∀_:Env,AB prog 17 [i] (fun ak ch=>AB prog 15 [i,(zI 0),ak] (fun m al=>AR 0 m fun an=>AR 1 m fun av=>Cu .i64 av (zI 0) fun ax=>AD ax (AB prog 22 [a1,an] (fun ay b0=>AD ay (AB prog 27 [i] (fun b1 b2=>Cu .i64 b1 c4 fun b6=>AD b6 (AB prog 10 [] (fun b7 cn=>K b7 cn) b2) (K (.bool false) b2)) b0) (K (.bool false) b0)) al) (K (.bool false) al)) ch) cd) (fun cv=>Dp .i64 cc (zI 0) fun b8=>AD b8 (K (.bool false) a8) (AB prog 12 [i,ca] (fun b9 ba=>Dp .i64 b9 (zI 0) fun bb=>AD bb (K (.bool false) ba) (cv [] ba)) a8))) c9) (fun cx=>Dp .i64 q (zI 0) fun da=>AD da (Cu .i64 q (zI 0) fun dk=>AD dk (AB prog 10 [] (fun dT e1=>K dT e1) B) (K (.bool false) B)) (AB prog 12 [i,a6] (fun e2 I=>Dp .i64 e2 (zI 0) fun e3=>AD e3 (Cu .i64 q (zI 0) fun O=>AD O (AB prog 10 [] (fun Q e4=>K Q e4) I) (K (.bool false) I)) (cx [] I)) B))) c6) w9) w8) w5)) w3)) w2) (fun J=>Dp .i64 bc (zI 0) fun e5=>AD e5 (AB prog 10 [] (fun t39 e6=>K t39 e6) w1) (AB prog 9 [v0,v1,v2] (fun e7 T=>CA e7 fun e8=>AD e8 (AB prog 10 [] (fun U e9=>K U e9) T) (Ac v2 fun ea=>Cu .i64 ea (zI 0) fun ec=>AD ec (AB prog 10 [] (fun V ed=>K V ed) T) (J [] T))) w1))) w):AB prog 7 [v0,v1,v2] K w:=cO (aN (aN (.cut [] [(6,6),(25,39)] (aN (aO aE .nil)) (aN (aO (aN (aO aE .nil)) (aO (aN (.node [52] [(11,11),(52,62)] (aN (aO aE (aO aE .nil))) .nil)) (aN (aN (aN (.cut [] [(6,6),(79,91)] (aN (aO aE .nil)) (aN (.cut [] [(6,6),(99,106)] (aN (aO aE .nil)) (aN aE))))))))))))) func7 h (by kernel_rfl)
def jH(h: Ao (fun _vs U=>∀_:Env,Ac v2 fun m=>Ap [(zI 0)] (fun i j w2=>∀_:Env,BU .i64 (nth i 0) m fun o=>AD o (BM 3 v2 (nth i 0) fun t22=>AM 0 t22 fun q=>AJ q (fun B V=>AB prog 34 [B] (fun t25 w4=>Eo .i64 t25 (zI 100) fun I=>AD I (K (.bool false) w4) (AW .i64 (nth i 0) (zI 1) fun O=>j [O] w4)) V) w2) (K (.bool true) w2)) U) (fun J=>Ac v2 fun t9=>Eo .i64 t9 (zI 30) fun Q=>AD Q (K (.bool false) w) (Eo .i64 v1 (zI 2000) fun T=>AD T (K (.bool false) w) (J [] w)))):AB prog 9 [v0,v1,v2] K w:=cO (aN (.cut [] [(6,6),(8,14)] (aN (aO aE .nil)) (aO (aN (.node [17] [(6,7),(17,27)] (aN (aO aE (aO (aN (aN (aO aE .nil))) .nil))) .nil)) aE))) func9 h (by kernel_rfl)
def gF(h: Ai [(0,1),(1,1),(2,1),(3,1),(4,1),(5,1)] [(zI 0),(.bool false),(.int .u8 0),(.bool false),(.bool false),(zI 0)] [(0,(zI 1)),(2,(.int .u8 1))] fun t9=>Ba 65 6 1 [(zI 0),(.bool false),(.int .u8 0),(.bool false),(.bool false),(zI 0)] [(0,t9)] (fun V w1=>AB prog 8 [V] (fun j w2=>AR 0 j fun X=>AR 1 j fun Y=>AB prog 11 [X,(zI 100)] (fun m U=>AR 0 m fun i=>AR 1 m fun Z=>Ao (fun _vs w4=>∀_:Env,Ai [(0,1),(1,1),(2,1),(3,1)] [(.int .u8 0),(zI 0),(.int .u64 0),(.string (ByteArray.mk #[]))] [(0,(.int .u8 1)),(1,(zI 1))] fun a1=>Ai [(0,1),(1,4)] [(zI 0),(.int .u8 0),(zI 0),(.int .u64 0),(.string (ByteArray.mk #[]))] [(0,(zI 1)),(1,a1)] fun a6=>Ba 79 5 1 [(zI 0),(.int .u8 0),(zI 0),(.int .u64 0),(.string (ByteArray.mk #[]))] [(0,a6)] (fun o w5=>Ao (fun _vs_1 w6=>∀_:Env,Ao (fun _vs_2 w7=>∀_:Env,AB prog 14 [i,(zI 1)] (fun q w8=>AR 0 q fun a7=>AR 1 q fun t70=>Cu .i64 a7 (zI 2) fun a8=>AD a8 (Cu .i64 t70 (zI 0) fun ak=>AD ak (Ai [(0,1),(1,1),(2,1),(3,1),(4,1)] [(.int .u8 0),(zI 0),(.slice none 0 0),(.slice none 0 0),(.slice none 0 0)] [(0,(.int .u8 3)),(1,(zI 4))] fun al=>Ba 83 5 1 [(.int .u8 0),(zI 0),(.slice none 0 0),(.slice none 0 0),(.slice none 0 0)] [(0,al)] (fun an w9=>AB prog 12 [i,an] (fun av ax=>Cu .i64 av (zI 6) fun ay=>K ay ax) w9) w8) (K (.bool false) w8)) (K (.bool false) w8)) w7) (fun b0=>Ai [(0,1),(1,1),(2,1),(3,1),(4,1)] [(.int .u8 0),(zI 0),(.slice none 0 0),(.slice none 0 0),(.slice none 0 0)] [(0,(.int .u8 1)),(1,(zI 1))] fun t55=>Ba 21 1 1 [(.int .i32 0)] [(0,(.int .i32 10))] (fun b1 b2=>Ai [(0,1),(1,1),(2,1),(3,1),(4,1)] [(.int .u8 0),(zI 0),(.slice none 0 0),(.slice none 0 0),(.slice none 0 0)] [(0,(.int .u8 2)),(2,b1)] fun b6=>Ba 83 5 2 [(.int .u8 0),(zI 0),(.slice none 0 0),(.slice none 0 0),(.slice none 0 0)] [(0,t55),(1,b6)] (fun b7 b8=>AB prog 12 [i,b7] (fun b9 B=>Dp .i64 b9 (zI 0) fun ba=>AD ba (K (.bool false) B) (AB prog 13 [i] (fun bb I=>Dp .i64 bb (zI 2) fun bc=>AD bc (K (.bool false) I) (b0 [] I)) B)) b8) b2) w6)) (fun bd=>Ba 21 1 2 [(.int .i32 0)] [(0,(.int .i32 97)),(1,(.int .i32 98))] (fun bk bl=>Ai [(0,1),(1,1),(2,1),(3,1),(4,1)] [(.int .u8 0),(zI 0),(.slice none 0 0),(.slice none 0 0),(.slice none 0 0)] [(0,(.int .u8 2)),(2,bk),(3,o)] fun bn=>Ba 83 5 1 [(.int .u8 0),(zI 0),(.slice none 0 0),(.slice none 0 0),(.slice none 0 0)] [(0,bn)] (fun bp bs=>AB prog 12 [i,bp] (fun bx O=>Dp .i64 bx (zI 0) fun c4=>AD c4 (K (.bool false) O) (AB prog 18 [i] (fun c6 c7=>Ai [(0,1),(1,1)] [(zI 0),(.slice none 0 0)] [(0,(zI 2)),(1,o)] fun c8=>Ai [(0,1),(1,1)] [(zI 0),(.slice none 0 0)] [(0,(zI 1))] fun c9=>Ba 53 2 2 [(zI 0),(.slice none 0 0)] [(0,c8),(1,c9)] (fun t45 ca=>AB prog 35 [c6,t45] (fun t46 Q=>CA t46 fun cc=>AD cc (K (.bool false) Q) (AB prog 27 [i] (fun cd T=>Dp .i64 cd (zI 2) fun ch=>AD ch (K (.bool false) T) (bd [] T)) Q)) ca) c7) O)) bs) bl) w5)) w4) (fun J=>Dp .i64 Y (zI 0) fun cn=>AD cn (K (.bool false) U) (Dp .i64 Z (zI 0) fun cv=>AD cv (K (.bool false) U) (CY i fun cx=>AD (.bool cx) (K (.bool false) U) (J [] U))))) w2) w1) w):AB prog 10 [] K w:=cO (aN (aN (aN (.cut [] [(0,0),(19,28)] (aN (aO aE .nil)) (aN (.cut [] [(0,0),(32,53)] (aN (aO aE .nil)) (.cut [] [(0,0),(54,65)] (aN (aO aE .nil)) (aN aE)))))))) func10 h (by kernel_rfl)
def dC(h: Ao (fun _vs Q=>∀_:Env,AB prog 36 [] (fun j w2=>AB prog 37 [] (fun m T=>AB prog 38 [] (fun o w4=>AB prog 39 [v0] (fun q U=>Ai [(0,1),(1,1),(2,1),(3,1),(4,1),(5,1)] [(.pointer none),(zI 0),(.pointer none),(.pointer none),(.pointer none),(.pointer none)] [(0,v0),(1,v1),(2,j),(3,m),(4,o),(5,q)] fun B=>BP 94 B (fun i V=>Ba 21 1 1 [(.int .i32 0)] [(0,(.int .i32 10))] (fun I X=>AB prog 40 [i,(zI 0),I,(.slice none 0 0)] (fun _t24 Y=>K (.tuple #[i,(zI 0)]) Y) X) V) U) w4) T) w2) Q) (fun J=>BU .i64 v1 (zI 1) fun Z=>AD Z (K (.tuple #[(.pointer none),(zI 2)]) w) (Km .i64 v1 (zI 536870912) fun O=>AD O (K (.tuple #[(.pointer none),(zI 2)]) w) (J [] w)))):AB prog 11 [v0,v1] K w:=cO (aN (.cut [] [(4,5),(7,12)] (aN (aO aE .nil)) (aN (aN aE)))) func11 h (by kernel_rfl)
def S12(v0 v1:Value)(K:Cont)(w:World):Prop:=
 AB prog 41 [v0] (fun Z Y=>
 CA Z fun a1=>
 AD a1
 (K (zI 1) Y)
 (Au [6,11] [[],[0],[0,1],[0,1,2],[],[],[5],[],[7],[7,8],[7,8,9],[0,1,2,3,4,5,6,7,8,9,10],[0,1,2,3,4,5,6,7,8,9,10,11]] Y.drew (fun M St=>
 AK v0 fun a6=>
 AM 0 a6 fun a7=>
 As (St 3) a7 fun a8=>
 AB prog 17 [v0] (fun ak w2=>
 Mod (M 6) Y.drew w2/\
 AK v0 fun t22=>
 AM 1 t22 fun al=>
 As (St 10) al fun an=>
 AB prog 42 [a8,v1,ak,an] (fun t25 w3=>
 Mod (M 11) w2 w3/\
 Dp .i64 t25 (zI 0) fun av=>
 AD av
 (K t25 w3)
 (Ac v1 fun ax=>
 Ap [(zI 0),(zI 0)] (fun vs m w4=>∀_:Env,
 BU .i64 (nth vs 1) ax fun ay=>
 AD ay
 (BM 5 v1 (nth vs 1) fun b0=>
 Aa 5 b0 (fun b1 w5=>
 Al 83 [(.int .u8 0),(zI 0),(.slice none 0 0),(.slice none 0 0),(.slice none 0 0)] (fun Q w6=>
 Ab 5 Q b1 (fun w7=>
 AM 0 Q fun b2=>
 AJ b2 (fun T w8=>
 Cu .u8 T (.int .u8 1) fun b6=>
 AD b6
 (AM 1 Q fun b7=>
 AJ b7 (fun b8 w9=>
 AW .i64 (nth vs 0) b8 fun b9=>
 AM 4 Q fun t45=>
 AJ t45 (fun t46 ba=>
 AB prog 43 [v0,(nth vs 0),b9,t46] (fun _t47 bb=>
 AM 1 Q fun bc=>
 AJ bc (fun t50 bd=>
 AW .i64 (nth vs 0) t50 fun bk=>
 AW .i64 (nth vs 1) (zI 1) fun bl=>
 m [bk,bl] bd) bb) ba) w9) w8)
 (Cu .u8 T (.int .u8 3) fun t53=>
 AD t53
 (AM 1 Q fun bn=>
 AJ bn (fun bp bs=>
 AW .i64 (nth vs 0) bp fun bx=>
 AB prog 44 [v0,(nth vs 0),bx] (fun _t60 c4=>
 AW .i64 (nth vs 1) (zI 1) fun B=>
 m [(nth vs 0),B] c4) bs) w8)
 (AW .i64 (nth vs 1) (zI 1) fun I=>
 m [(nth vs 0),I] w8))) w7) w6) w5) w4)
 (Ac v1 fun c6=>
 Ap [(zI 0),(zI 0)] (fun i j U=>∀_:Env,
 BU .i64 (nth i 1) c6 fun c7=>
 AD c7
 (BM 5 v1 (nth i 1) fun t66=>
 Aa 5 t66 (fun c8 c9=>
 Al 83 [(.int .u8 0),(zI 0),(.slice none 0 0),(.slice none 0 0),(.slice none 0 0)] (fun o ca=>
 Ab 5 o c8 (fun cc=>
 Ao (fun q cd=>∀_:Env,
 AM 0 o fun ch=>
 AJ ch (fun t76 V=>
 Cu .u8 t76 (.int .u8 2) fun t77=>
 AD t77
 (AM 2 o fun cn=>
 AJ cn (fun cv cx=>
 AM 3 o fun da=>
 AJ da (fun dk dT=>
 AB prog 40 [v0,(nth q 0),cv,dk] (fun _t84 e1=>
 AM 2 o fun e2=>
 AJ e2 (fun e3 e4=>
 Ac e3 fun e5=>
 AW .i64 (nth q 0) e5 fun e6=>
 AW .i64 (nth i 1) (zI 1) fun e7=>
 j [e6,e7] e4) e1) dT) cx) V)
 (AW .i64 (nth i 1) (zI 1) fun O=>
 j [(nth q 0),O] V)) cd) (fun J=>
 AM 0 o fun e8=>
 AJ e8 (fun e9 X=>
 Cu .u8 e9 (.int .u8 1) fun t70=>
 AD t70
 (AM 1 o fun ea=>
 AJ ea (fun ec ed=>
 AW .i64 (nth i 0) ec fun ee=>
 J [ee] ed) X)
 (J [(nth i 0)] X)) cc)) ca) c9) U)
 (K (zI 0) U)) w4)) w3)) w2) Y.drew))) w
def gP(h:S12 v0 v1 K w):AB prog 12 [v0,v1] K w:=cO (aN (aO (aN (aO aE .nil)) (aO (aO (.dc [6,11] [[],[0],[0,1],[0,1,2],[],[],[5],[],[7],[7,8],[7,8,9],(aR 11),(aR 12)] []) (aN (aO aE .nil))) (aN (aO (aN (.node [6,31] [(6,6),(8,8),(31,61)] (aN (aO aE (aO (aN (aN (aN (aO aE (aN aE))))) .nil))) .nil)) (aN (aO (aN (.node [6,64] [(6,6),(10,10),(64,90)] (aN (aO aE (aO (aN (.cut [6] [(6,6),(68,74)] (aN aE) (aN (aO aE .nil)))) .nil))) .nil)) aE))))))) func12 h (by kernel_rfl)
def fR(h: AB prog 41 [v0] (fun t4 j=>CA t4 fun t5=>AD t5 (K (zI 0) j) (AK v0 fun m=>AM 2 m fun o=>AJ o (fun t9 w2=>AB prog 45 [t9] (fun i q=>K i q) w2) j)) w):AB prog 13 [v0] K w:=cO (aN (aO (aN (aO aE .nil)) aE)) func13 h (by kernel_rfl)
def fM(h: AB prog 41 [v0] (fun J I=>CA J fun O=>AD O (K (.tuple #[(zI 0),(zI 1)]) I) (AK v0 fun j=>AM 2 j fun m=>AJ m (fun o w2=>AB prog 46 [o,v1] (fun i Q=>AR 0 i fun q=>AR 1 i fun B=>K (.tuple #[q,B]) Q) w2) I)) w):AB prog 14 [v0,v1] K w:=cO (aN (aO (aN (aO aE .nil)) aE)) func14 h (by kernel_rfl)
def dd(h: AB prog 41 [v0] (fun t4 j=>CA t4 fun t5=>AD t5 (K (zI 0) j) (AK v0 fun m=>AM 2 m fun o=>AJ o (fun t9 w2=>AB prog 54 [t9] (fun i q=>K i q) w2) j)) w):AB prog 17 [v0] K w:=cO (aN (aO (aN (aO aE .nil)) aE)) func17 h (by kernel_rfl)
def dU(h: Ec 30 v0 (fun B w1=>
 Al 46 [(.slice none 0 0)] (fun i w2=>
 AJ B (fun t6 w3=>
 AB prog 41 [t6] (fun t7 w4=>
 CA t7 fun t8=>
 AD t8
 (Av i (.slice none 0 0) (fun w5=>
 AJ i (fun r0 w6=>
 K r0 w6) w5) w4)
 (AJ B (fun t9 w7=>
 AK t9 fun I=>
 AM 3 I fun J=>
 AJ J (fun O w8=>
 AB prog 55 [O] (fun Q T=>
 HH prog Cq Q 1 (fun args U V=>
 Al 108 [(zI 0),(zI 0)] (fun t3 X=>
 Ab 2 t3 (nth args 0) (fun Y=>
 U (fun post j=>
 Au [6] [[],[0],[0,1],[0,1,2],[],[4],[0,1,2,3,4,5],[0,1,2,3,4,5,6],[0,1,2,3,4,5,6,7],[0,1,2,3,4,5,6,7],[0,1,2,3,4,5,6,7,8],[0,1,2,3,4,5,6,7,8,9,10]] j.drew (fun M Z=>
 As (Z 0) B fun a1=>
 AK a1 fun a6=>
 AM 5 a6 fun a7=>
 As (Z 3) a7 fun a8=>
 AM 1 t3 fun ak=>
 As (Z 5) ak fun al=>
 AB prog 51 [a8,al] (fun t22 m=>
 Mod (M 6) j.drew m/\
 AR 0 t22 fun av=>
 AR 1 t22 fun _t24=>
 AJ i (fun t25 ax=>
 AM 0 t3 fun ay=>
 AJ ay (fun b0 b1=>
 Ai [(0,1),(1,1)] [(zI 0),(.slice none 0 0)] [(0,b0),(1,av)] fun b2=>
 Ba 53 2 1 [(zI 0),(.slice none 0 0)] [(0,b2)] (fun b6 b7=>
 runK prog (Builtin.append_ #[46,46] 46 [t25,b6].toArray) (fun b8 b9=>
 Av i b8 (fun ba=>
 post .normal ba) b9) b7) b1) ax) m) j.drew)) Y) X) V) (dZ (fun bb=>
 AJ i (fun bc bd=>
 Av i bc (fun bk=>
 FE T.heap.size (fun bl=>
 AJ i (fun o bn=>
 K o bn) bl) bk) bd) bb) (fun bp=>
 FE T.heap.size (fun bs=>
 AJ i (fun q bx=>
 K q bx) bs) bp) []) T) w8) w7) w4)) w3) w2) w1) w):AB prog 18 [v0] K w:=
 Fh (P:=prog) (ok:=Cq) (n:=33) (fn:=Tryz.f18) (c:=Hx Tryz.f18) (rs:=[.cell 2 46]) (an:=(aN (aO (aN (aO aE .nil)) (aO (aN (aN (aO (.dc [6] [[],[0],[0,1],[0,1,2],[],[4],(aR 6),(aR 7),(aR 8),(aR 8),(aR 9),(aR 11)] []) .nil))) aE)))) FM mixed func18 (by kernel_rfl) (by kernel_rfl) (by kernel_rfl) (by kernel_rfl) (Eq.mp (by kernel_rfl) h)
def eF(h: Ac v0 fun t7=>Ac v1 fun t9=>Dp .i64 t7 t9 fun q=>AD q (K (.bool false) w) (Ap [(zI 0)] (fun vs i m=>∀_:Env,Ac v0 fun B=>BU .i64 (nth vs 0) B fun I=>AD I (Au [22] [[],[],[0,1],[0,1,2],[0,1,2,3],[],[],[5,6],[5,6,7],[5,6,7,8],[0,1,2,3,4,5,6,7,8,9],[0,1,2,3,4,5,6,7,8,9,10],[0,1,2,3,4,5,6,7,8,9,10,11],[0,1,2,3,4,5,6,7,8,9,10,11],[0,1,2,3,4,5,6,7,8,9,10,11,12,13],[0,1,2,3,4,5,6,7,8,9,10,11,12,13,14],[0,1,2,3,4,5,6,7,8,9,10,11,12,13,14,15],[0,1,2,3,4,5,6,7,8,9,10,11],[0,1,2,3,4,5,6,7,8,9,10,11],[0,1,2,3,4,5,6,7,8,9,10,11,17,18],[0,1,2,3,4,5,6,7,8,9,10,11,17,18,19],[0,1,2,3,4,5,6,7,8,9,10,11,17,18,19,20],[0,1,2,3,4,5,6,7,8,9,10,11,12,13,14,15,16,17,18,19,20,21],[0,1,2,3,4,5,6,7,8,9,10,11,12,13,14,15,16,17,18,19,20,21,22],[0,1,2,3,4,5,6,7,8,9,10,11,12,13,14,15,16,17,18,19,20,21,22,23]] m.drew (fun M o=>BM 2 v0 (nth vs 0) fun J=>AM 0 J fun O=>As (o 4) O fun Q=>BM 2 v1 (nth vs 0) fun T=>AM 0 T fun t25=>As (o 9) t25 fun U=>Dp .i32 Q U fun V=>AD V (K (.bool false) m.drew) (BM 2 v0 (nth vs 0) fun X=>AM 1 X fun Y=>As (o 16) Y fun Z=>BM 2 v1 (nth vs 0) fun a1=>AM 1 a1 fun a6=>As (o 21) a6 fun a7=>AB prog 58 [Z,a7] (fun t39 w2=>Mod (M 22) m.drew w2/\ CA t39 fun a8=>AD a8 (K (.bool false) w2) (AW .i64 (nth vs 0) (zI 1) fun j=>i [j] w2)) m.drew))) (K (.bool true) m)) w)):AB prog 22 [v0,v1] K w:=cO (aN (aO (aN (aO aE .nil)) (aO (aN (.node [5] [(4,5),(11,41)] (aO (aN aE) (aO (aO (.dc [22] [[],[],[0,1],[0,1,2],(aR 4),[],[],[5,6],[5,6,7],[5,6,7,8],(aR 10),(aR 11),(aR 12),(aR 12),(aR 14),(aR 15),(aR 16),(aR 12),(aR 12),[0,1,2,3,4,5,6,7,8,9,10,11,17,18],[0,1,2,3,4,5,6,7,8,9,10,11,17,18,19],[0,1,2,3,4,5,6,7,8,9,10,11,17,18,19,20],(aR 22),(aR 23),(aR 24)] []) (aO aE .nil)) .nil)) .nil)) aE))) func22 h (by kernel_rfl)
def gD(h: AB prog 41 [v0] (fun t4 j=>CA t4 fun t5=>AD t5 (K (zI 0) j) (AK v0 fun m=>AM 5 m fun o=>AJ o (fun t9 w2=>AB prog 67 [t9] (fun i q=>K i q) w2) j)) w):AB prog 27 [v0] K w:=cO (aN (aO (aN (aO aE .nil)) aE)) func27 h (by kernel_rfl)
def eg(h: AB prog 68 [v0,v1,v2,(zI 536870912)] (fun T w1=>AR 0 T fun _t20=>AR 1 T fun U=>Dp .i64 U (zI 0) fun Z=>AD Z (K (.tuple #[(.slice none 0 0),U]) w1) (AB prog 59 [] (fun t25 w2=>Ac v2 fun a1=>Ap [v1,(zI 0)] (fun vs o w3=>∀_:Env,BU .i64 (nth vs 1) a1 fun a6=>AD a6 (BM 5 v2 (nth vs 1) fun a7=>Aa 5 a7 (fun a8 w4=>Al 83 [(.int .u8 0),(zI 0),(.slice none 0 0),(.slice none 0 0),(.slice none 0 0)] (fun j w5=>Ab 5 j a8 (fun w6=>AM 0 j fun ak=>AJ ak (fun al w7=>Cu .u8 al (.int .u8 2) fun an=>AD an (AM 2 j fun av=>AJ av (fun ax w8=>Ac ax fun ay=>AB prog 62 [t25,ay] (fun _t39 w9=>AW .i64 (nth vs 1) (zI 1) fun t76=>o [(nth vs 0),t76] w9) w8) w7) (AM 1 j fun b0=>AJ b0 (fun b1 b2=>runK prog (Instr.sliceAt 40 (nth vs 0) none (some b1) none) (fun V b6=>Ac V fun b7=>Ap [(zI 0)] (fun m i X=>∀_:Env,BU .i64 (nth m 0) b7 fun t46=>AD t46 (BM 2 V (nth m 0) fun b8=>Aa 2 b8 (fun b9 ba=>Al 45 [(.int .i32 0),(.slice none 0 0)] (fun q bb=>Ab 2 q b9 (fun bc=>AM 0 j fun bd=>AJ bd (fun t50 B=>Cu .u8 t50 (.int .u8 3) fun bk=>AD bk (AM 0 q fun t53=>AJ t53 (fun bl bn=>Ba 21 1 1 [(.int .i32 0)] [(0,bl)] (fun t55 bp=>AM 1 q fun bs=>AJ bs (fun bx c4=>AB prog 61 [t25,t55,bx] (fun _t58 c6=>AW .i64 (nth m 0) (zI 1) fun c7=>i [c7] c6) c4) bp) bn) B) (Au [9,10,11] [[],[],[1],[],[],[4],[],[6],[6,7],[3,4,5,6,7,8],[1,2,3,4,5,6,7,8,9],[0,1,2,3,4,5,6,7,8,9,10]] B.drew (fun M St=>AM 1 q fun c8=>As (St 2) c8 fun c9=>AM 4 j fun ca=>As (St 5) ca fun cc=>AM 0 q fun cd=>As (St 7) cd fun t66=>Cu .i32 t66 (.int .i32 10) fun ch=>AB prog 70 [v0,cc,ch] (fun cn I=>Mod (M 9) B.drew I/\ AB prog 69 [c9,cn] (fun cv J=>Mod (M 10) I J/\ AB prog 60 [t25,(zI 1),cv] (fun _t70 Y=>Mod (M 11) J Y/\ AW .i64 (nth m 0) (zI 1) fun O=>i [O] Y) J) I) B.drew))) bc) bb) ba) X) (AM 1 j fun cx=>AJ cx (fun da dk=>runK prog (Instr.sliceAt 40 (nth vs 0) (some da) none none) (fun dT e1=>AW .i64 (nth vs 1) (zI 1) fun Q=>o [dT,Q] e1) dk) X)) b6) b2) w7)) w6) w5) w4) w3) (AB prog 63 [t25] (fun e2 e3=>K (.tuple #[e2,(zI 0)]) e3) w3)) w2) w1)) w):AB prog 28 [v0,v1,v2] K w:=cO (aN (aO (aN (aN (aO aE .nil))) (aN (aN (aO (aN (.node [1,28] [(1,1),(12,12),(14,14),(28,76)] (aN (aO aE (aO (aN (aO (aN (aO aE .nil)) (aO (aN (.node [45] [(14,14),(45,71)] (aN (aO aE (aO (aN (aO (aN (aO aE .nil)) (.dc [9,10,11] [[],[],[1],[],[],[4],[],[6],[6,7],[3,4,5,6,7,8],[1,2,3,4,5,6,7,8,9],(aR 11)] []))) .nil))) .nil)) .nil))) .nil))) .nil)) aE))))) func28 h (by kernel_rfl)
def fG(h: Au [9,10] [[],[0],[0,1],[0,1,2],[],[4],[4,5],[4,5,6],[],[4,5,6,7,8],[0,1,2,3,4,5,6,7,8,9],[0,1,2,3,4,5,6,7,8,9,10],[0,1,2,3,4,5,6,7,8,9,10,11],[0,1,2,3,4,5,6,7,8,9,10,11],[0,1,2,3,4,5,6,7,8,9,10,11,12],[0,1,2,3,4,5,6,7,8,9,10,11,12,13,14]] w.drew (fun M St=>AK v0 fun a1=>AM 5 a1 fun a6=>As (St 3) a6 fun a7=>AK v0 fun a8=>AM 0 a8 fun t22=>As (St 7) t22 fun ak=>AB prog 75 [ak,v3,(.bool false)] (fun t25 w1=>Mod (M 9) w.drew w1/\ AB prog 74 [a7,t25] (fun O w2=>Mod (M 10) w1 w2/\ AR 0 O fun j=>AR 1 O fun _t28=>AK v0 fun al=>AM 0 al fun an=>AJ an (fun av w3=>AB prog 75 [av,v3,(.bool true)] (fun ax w4=>Ac v2 fun ay=>Ap [(.slice none 0 0),(.slice none 0 0),(zI 0)] (fun vs m w5=>∀_:Env,BU .i64 (nth vs 2) ay fun b0=>AD b0 (Ao (fun i w6=>∀_:Env,AW .i64 (nth vs 2) (zI 1) fun b1=>m [(nth i 0),(nth i 1),b1] w6) (fun J=>BM 1 v2 (nth vs 2) fun b2=>AJ b2 (fun b6 w7=>Cu .i32 b6 (.int .i32 10) fun b7=>AD b7 (Ai [(0,1),(1,1)] [(zI 0),(zI 0)] [(0,(zI 1))] fun t46=>Ba 108 2 1 [(zI 0),(zI 0)] [(0,t46)] (fun b8 w8=>runK prog (Builtin.append_ #[101,101] 101 [(nth vs 0),b8].toArray) (fun b9 w9=>Ba 43 1 1 [(.slice none 0 0)] [(0,ax)] (fun ba bb=>runK prog (Builtin.append_ #[50,50] 50 [(nth vs 1),ba].toArray) (fun bc bd=>J [b9,bc] bd) bb) w9) w8) w7) (Ac (nth vs 0) fun bk=>BR .i64 bk (zI 1) fun t55=>Km .i64 t55 (zI 0) fun bl=>AD bl (BR .i64 (nth vs 2) (zI 1) fun bn=>BM 1 v2 bn fun bp=>AJ bp (fun bs Q=>Dp .i32 bs (.int .i32 10) fun bx=>AD bx (BM 2 (nth vs 0) t55 fun c4=>AM 0 c4 fun c6=>AJ c6 (fun t70 c7=>AW .i64 t70 (zI 1) fun c8=>BM 2 (nth vs 0) t55 fun c9=>AM 0 c9 fun ca=>Av ca c8 (fun cc=>J [(nth vs 0),(nth vs 1)] cc) c7) Q) (Ai [(0,1),(1,1)] [(zI 0),(zI 0)] [(0,(zI 1)),(1,j)] fun t76=>Ba 108 2 1 [(zI 0),(zI 0)] [(0,t76)] (fun t77 cd=>runK prog (Builtin.append_ #[101,101] 101 [(nth vs 0),t77].toArray) (fun ch cn=>J [ch,(nth vs 1)] cn) cd) Q)) w7) (Ai [(0,1),(1,1)] [(zI 0),(zI 0)] [(0,(zI 1)),(1,j)] fun o=>Ba 108 2 1 [(zI 0),(zI 0)] [(0,o)] (fun q cv=>runK prog (Builtin.append_ #[101,101] 101 [(nth vs 0),q].toArray) (fun B cx=>J [B,(nth vs 1)] cx) cv) w7))) w5)) (Au [6,8] [[],[0],[0,1],[0,1,2],[],[],[4,5],[],[0,1,2,3,4,5,6,7]] w5.drew (fun T U=>AK v0 fun da=>AM 4 da fun dk=>As (U 3) dk fun dT=>AB prog 50 [v0,v1] (fun e1 I=>Mod (T 6) w5.drew I/\ AB prog 76 [dT,e1,(nth vs 1)] (fun _t88 V=>Mod (T 8) I V/\ AK v0 fun e2=>AM 2 e2 fun e3=>AJ e3 (fun e4 e5=>AB prog 77 [e4,v1,v2] (fun _t95 e6=>AB prog 78 [v0,v1,v1,(nth vs 0)] (fun _t100 e7=>AK v0 fun X=>AM 5 X fun Y=>AJ Y (fun Z e8=>AB prog 79 [Z,j] (fun _t106 e9=>K (.tuple #[]) e9) e8) e7) e6) e5) V) I) w5.drew))) w4) w3) w2) w1) w.drew)):AB prog 40 [v0,v1,v2,v3] K w:=cO (aO (.dc [9,10] [[],[0],[0,1],[0,1,2],[],[4],[4,5],[4,5,6],[],[4,5,6,7,8],(aR 10),(aR 11),(aR 12),(aR 12),(aR 13),(aR 15)] []) (aN (aN (aN (aO (aN (.node [11,12,37] [(11,14),(37,79)] (aN (aO aE (.cut [11,12] [(11,14),(39,78)] (aN (aN (aO aE (aN (aN aE))))) .nil))) .nil)) (aO (.dc [6,8] [[],[0],[0,1],[0,1,2],[],[],[4,5],[],(aR 8)] []) (aN aE))))))) func40 h (by kernel_rfl)
def dj(h: CY v0 fun b4=>AD (.bool (!b4)) (AK v0 fun j=>AM 2 j fun m=>AJ m (fun t9 o=>CY t9 fun i=>K (.bool (!i)) o) w) (K (.bool false) w)):AB prog 41 [v0] K w:=cO (aN aE) func41 h (by kernel_rfl)
def dY(h: AB prog 80 [v0,v1] (fun i j=>Dp .i64 i (zI 0) fun m=>AD m (K i j) (Ao (fun vs w2=>∀_:Env,AD (nth vs 0) (K (zI 5) w2) (AB prog 82 [v1,v2] (fun o Y=>CA o fun q=>AD q (K (zI 6) Y) (AB prog 83 [v0,v1] (fun B w4=>CA B fun t39=>AD t39 (K (zI 7) w4) (AB prog 81 [v1] (fun I w5=>BR .i64 v2 I fun O=>AB prog 84 [v1] (fun t46 Z=>AW .i64 O t46 fun Q=>Eo .i64 Q v3 fun T=>AD T (K (zI 8) Z) (K (zI 0) Z)) w5) w4)) Y)) w2)) (fun J=>BU .i64 v2 (zI 1) fun U=>AD U (J [(.bool true)] j) (Eo .i64 v2 v3 fun t22=>AD t22 (J [(.bool true)] j) (AB prog 81 [v1] (fun V w7=>Eo .i64 V v2 fun X=>J [X] w7) j))))) w):AB prog 42 [v0,v1,v2,v3] K w:=cO (aN (aO (aN (aN (aO aE .nil))) (aO (.cut [16] [(16,29)] .nil (aO aE (aN (aO aE (aN (aO aE (aN (aO aE .nil)))))))) aE))) func42 h (by kernel_rfl)
def fV(h: Ao (fun _vs w1=>∀_:Env,AK v0 fun Y=>AM 0 Y fun Z=>AJ Z (fun a1 w2=>AB prog 70 [a1,v3,(.bool false)] (fun O w3=>Ap [v1] (fun i j w4=>∀_:Env,Ao (fun _vs_2 w5=>∀_:Env,Au [6,8] [[],[0],[0,1],[0,1,2],[],[],[4,5],[4,5,6],[0,1,2,3,4,5,6,7],[0,1,2,3,4,5,6,7,8],[0,1,2,3,4,5,6,7,8,9],[0,1,2,3,4,5,6,7,8,9],[0,1,2,3,4,5,6,7,8,9,10],[0,1,2,3,4,5,6,7,8,9,10,11,12]] w5.drew (fun M St=>AK v0 fun a6=>AM 2 a6 fun t53=>As (St 3) t53 fun a7=>AB prog 50 [v0,(nth i 0)] (fun a8 w6=>Mod (M 6) w5.drew w6/\ AW .i64 a8 (zI 1) fun ak=>AB prog 46 [a7,ak] (fun Q w7=>Mod (M 8) w6 w7/\ AR 0 Q fun o=>AR 1 Q fun _t61=>BR .i64 o (zI 1) fun al=>LJ .i64 al v2 fun T=>BU .i64 (nth i 0) T fun an=>AD an (AB prog 86 [v0,(nth i 0),T,O] (fun _t73 w8=>j [o] w8) w7) (j [o] w7)) w6) w5.drew)) (fun av=>Ac O fun ax=>Eo .i64 ax (zI 0) fun ay=>AD ay (BU .i64 (nth i 0) v2 fun b0=>AD b0 (av [] w4) (K (.tuple #[]) w4)) (K (.tuple #[]) w4))) w3) w2) w1) (fun J=>AK v0 fun b1=>AM 0 b1 fun b2=>AJ b2 (fun b6 w9=>AB prog 70 [b6,v3,(.bool true)] (fun U m=>Ac U fun b7=>Eo .i64 b7 (zI 0) fun t22=>AD t22 (Au [6,9,11] [[],[0],[0,1],[0,1,2],[],[],[4,5],[],[],[4,5,6,7,8],[],[0,1,2,3,4,5,6,7,8,9,10]] m.drew (fun q V=>AK v0 fun b8=>AM 4 b8 fun t25=>As (V 3) t25 fun b9=>AB prog 50 [v0,v1] (fun ba B=>Mod (q 6) m.drew B/\ AB prog 50 [v0,v2] (fun bb I=>Mod (q 9) B I/\ AB prog 85 [b9,ba,bb,U] (fun _t34 X=>Mod (q 11) I X/\ J [] X) I) B) m.drew)) (J [] m)) w9) w)):AB prog 43 [v0,v1,v2,v3] K w:=cO (.cut [] [(8,8),(14,34)] (aN (aN (aO (.dc [6,9,11] [[],[0],[0,1],[0,1,2],[],[],[4,5],[],[],[4,5,6,7,8],[],(aR 11)] []) .nil))) (aN (aN (.node [10] [(10,13),(42,74)] (.cut [] [(42,49)] (aN aE) (aO (.dc [6,8] [[],[0],[0,1],[0,1,2],[],[],[4,5],[4,5,6],(aR 8),(aR 9),(aR 10),(aR 10),(aR 11),(aR 13)] [[6]]) (aO (aN (aN aE)) .nil))) .nil)))) func43 h (by kernel_rfl)
def dI(h: Au [6,9,10] [[],[0],[0,1],[0,1,2],[],[],[4,5],[],[],[4,5,6,7,8],[0,1,2,3,4,5,6,7,8,9]] w.drew (fun M J=>AK v0 fun O=>AM 4 O fun Q=>As (J 3) Q fun t9=>AB prog 50 [v0,v1] (fun i j=>Mod (M 6) w.drew j/\ AB prog 50 [v0,v2] (fun m w2=>Mod (M 9) j w2/\ AB prog 87 [t9,i,m] (fun _t16 I=>Mod (M 10) w2 I/\ AK v0 fun o=>AM 2 o fun q=>AJ q (fun B w4=>AB prog 88 [B,v1,v2] (fun _t23 T=>AB prog 78 [v0,v1,v2,(.slice none 0 0)] (fun _t27 U=>K (.tuple #[]) U) T) w4) I) w2) j) w.drew)):AB prog 44 [v0,v1,v2] K w:=cO (aO (.dc [6,9,10] [[],[0],[0,1],[0,1,2],[],[],[4,5],[],[],[4,5,6,7,8],(aR 10)] []) aE) func44 h (by kernel_rfl)
def Ux(h: AK v0 fun t9=>AM 2 t9 fun j=>AJ j (fun m q=>AB prog 53 [m,v1] (fun i w2=>AR 0 i fun o=>AR 1 i fun _t15=>K o w2) q) w):AB prog 50 [v0,v1] K w:=cO (aN (aN aE)) func50 h (by kernel_rfl)
def dB(h: AB prog 80 [v0,v2] (fun j w1=>
 Dp .i64 j (zI 0) fun q=>
 AD q
 (K (.tuple #[(.slice none 0 0),j]) w1)
 (AB prog 125 [v0,v1] (fun t22 w2=>
 Dp .i64 t22 (zI 0) fun B=>
 AD B
 (K (.tuple #[(.slice none 0 0),(zI 3)]) w2)
 (Ac v1 fun I=>
 AB prog 42 [v0,v2,I,v3] (fun m w3=>
 Dp .i64 m (zI 0) fun J=>
 AD J
 (K (.tuple #[(.slice none 0 0),m]) w3)
 (Al 40 [(.slice none 0 0)] (fun i w4=>
 AB prog 126 [v0,v1,v2] (fun O Q=>
 HH prog Cq O 1 (fun args T w6=>
 Al 45 [(.int .i32 0),(.slice none 0 0)] (fun o w8=>
 Ab 2 o (nth args 0) (fun w9=>
 T (fun post w7=>
 AJ i (fun U V=>
 Aa 2 o (fun t39 X=>
 Ba 45 2 1 [(.int .i32 0),(.slice none 0 0)] [(0,t39)] (fun Y Z=>
 runK prog (Builtin.append_ #[40,40] 40 [U,Y].toArray) (fun a1 a6=>
 Av i a1 (fun a7=>
 post .normal a7) a6) Z) X) V) w7) w9) w8) w6) (dZ (fun a8=>
 AJ i (fun ak al=>
 FE Q.heap.size (fun av=>
 K (.tuple #[ak,(zI 0)]) av) al) a8) (fun ax=>
 FE Q.heap.size (fun ay=>
 K (.tuple #[(.slice none 0 0),(zI 0)]) ay) ax) []) Q) w4) w3)) w2)) w1)) w):AB prog 68 [v0,v1,v2,v3] K w:=
 Fh (P:=prog) (ok:=Cq) (n:=43) (fn:=Tryz.f68) (c:=Hx Tryz.f68) (rs:=[.tmp 8,.tmp 9]) (an:=(aN (aO (aN (aN (aO aE .nil))) (aO (aN (aO aE .nil)) (aO (aN (aN (aO aE .nil))) (aN (aO (aN aE) aE))))))) FM mixed func68 (by kernel_rfl) (by kernel_rfl) (by kernel_rfl) (by kernel_rfl) (Eq.mp (by kernel_rfl) h)
def gz(h: Ac v1 fun T=>Ap [(.slice none 0 0),(zI 0)] (fun vs i w1=>∀_:Env,BU .i64 (nth vs 1) T fun U=>AD U (Ao (fun q w2=>∀_:Env,AW .i64 (nth vs 1) (zI 1) fun V=>i [(nth q 0),V] w2) (fun J=>BM 6 v1 (nth vs 1) fun X=>Aa 6 X (fun Y w3=>Al 133 [(zI 0),(.bool false),(.int .u8 0),(zI 0),(.int .u64 0),(.string (ByteArray.mk #[]))] (fun j w4=>Ab 6 j Y (fun w5=>AM 0 j fun Z=>AJ Z (fun a1 w6=>AB prog 127 [v0,a1] (fun B w7=>AR 0 B fun a6=>AR 1 B fun t22=>Al 77 [(.int .u8 0),(zI 0),(.int .u64 0),(.string (ByteArray.mk #[]))] (fun t8 w8=>Ab 4 t8 a6 (fun w9=>Ao (fun I m=>∀_:Env,AD (nth I 0) (AM 0 j fun a7=>AJ a7 (fun a8 ak=>Aa 4 t8 (fun al an=>Ai [(0,1),(1,1),(2,4)] [(zI 0),(.bool false),(.int .u8 0),(zI 0),(.int .u64 0),(.string (ByteArray.mk #[]))] [(0,a8),(2,al)] fun t39=>Ba 133 6 1 [(zI 0),(.bool false),(.int .u8 0),(zI 0),(.int .u64 0),(.string (ByteArray.mk #[]))] [(0,t39)] (fun av ax=>runK prog (Builtin.append_ #[81,81] 81 [(nth vs 0),av].toArray) (fun ay b0=>J [ay] b0) ax) an) ak) m) (CA t22 fun b1=>AD b1 (AM 1 j fun t46=>AJ t46 (fun b2 O=>CA b2 fun b6=>AD b6 (AM 0 j fun b7=>AJ b7 (fun b8 b9=>Ai [(0,1),(1,1),(2,4)] [(zI 0),(.bool false),(.int .u8 0),(zI 0),(.int .u64 0),(.string (ByteArray.mk #[]))] [(0,b8),(1,(.bool true))] fun t53=>Ba 133 6 1 [(zI 0),(.bool false),(.int .u8 0),(zI 0),(.int .u64 0),(.string (ByteArray.mk #[]))] [(0,t53)] (fun ba bb=>runK prog (Builtin.append_ #[81,81] 81 [(nth vs 0),ba].toArray) (fun t55 bc=>J [t55] bc) bb) b9) O) (J [(nth vs 0)] O)) m) (J [(nth vs 0)] m))) (fun o=>AD t22 (AM 1 j fun bd=>AJ bd (fun bk Q=>AD bk (o [(.bool true)] Q) (Aa 4 t8 (fun bl bn=>AM 2 j fun bp=>Aa 4 bp (fun bs bx=>runK prog (BS .neq 77 (.tmp 29) (.tmp 31) bl bs) (fun c4 c6=>o [c4] c6) bx) bn) Q)) w9) (o [(.bool false)] w9))) w8) w7) w6) w5) w4) w3) w1)) (K (nth vs 0) w1)) w):AB prog 69 [v0,v1] K w:=cO (aN (aN (aO (aN (.node [5,12] [(5,5),(7,9),(12,56)] (aN (aO aE (.cut [5] [(5,5),(7,9),(14,55)] (aN (aN (.cut [23] [(23,34)] .nil (aN (aN aE))))) .nil))) .nil)) aE))) func69 h (by kernel_rfl)
def gH(h: Ec 24 v0 (fun t3 j=>Ec 4 v2 (fun t5 w2=>AB prog 107 [v1] (fun m o=>AB prog 145 [m,(.func (.func 146) #[] #[t3,t5])] (fun i w4=>K i w4) o) w2) j) w):AB prog 75 [v0,v1,v2] K w:=cO (aN aE) func75 h (by kernel_rfl)
def fC(h: BR .i64 v1 (zI 1) fun al=>KM .i64 al (zI 0) fun t22=>AW .i64 v2 (zI 1) fun an=>AK v0 fun av=>AM 3 av fun ax=>AJ ax (fun ay w1=>AB prog 111 [ay] (fun b0 w2=>LJ .i64 an b0 fun O=>AK v0 fun b1=>AM 3 b1 fun b2=>AJ b2 (fun b6 w3=>AB prog 48 [b6,t22,O] (fun Q w4=>AR 0 Q fun t39=>AR 1 Q fun _t40=>AK v0 fun b7=>AM 3 b7 fun b8=>AJ b8 (fun b9 w5=>AB prog 151 [b9,v1,v2,v3] (fun _t48 w6=>BR .i64 v1 v2 fun ba=>AW .i64 O ba fun t53=>Ac v3 fun t55=>Ap [t53,(zI 0)] (fun vs B w7=>∀_:Env,BU .i64 (nth vs 1) t55 fun bb=>AD bb (BM 2 v3 (nth vs 1) fun bc=>Aa 2 bc (fun bd w8=>Al 108 [(zI 0),(zI 0)] (fun T w9=>Ab 2 T bd (fun bk=>AM 0 T fun bl=>AJ bl (fun bn bp=>AW .i64 (nth vs 0) bn fun bs=>AW .i64 (nth vs 1) (zI 1) fun bx=>B [bs,bx] bp) bk) w9) w8) w7) (AK v0 fun c4=>AM 3 c4 fun c6=>AJ c6 (fun c7 c8=>AB prog 48 [c7,t22,(nth vs 0)] (fun U c9=>AR 0 U fun V=>AR 1 U fun _t74=>Ac V fun t76=>Ap [(zI 0)] (fun i j X=>∀_:Env,BU .i64 (nth i 0) t76 fun ca=>AD ca (BM 2 V (nth i 0) fun cc=>Aa 2 cc (fun cd ch=>Al 108 [(zI 0),(zI 0)] (fun Y cn=>Ab 2 Y cd (fun I=>Au [6] [[],[0],[0,1],[0,1,2],[],[4],[0,1,2,3,4,5]] I.drew (fun M St=>AK v0 fun cv=>AM 5 cv fun cx=>As (St 3) cx fun da=>AM 1 Y fun dk=>As (St 5) dk fun dT=>AB prog 152 [da,dT] (fun _t87 Z=>Mod (M 6) I.drew Z/\ AW .i64 (nth i 0) (zI 1) fun e1=>j [e1] Z) I.drew)) cn) ch) X) (Ac t39 fun e2=>Ap [(zI 0)] (fun m o a1=>∀_:Env,BU .i64 (nth m 0) e2 fun e3=>AD e3 (BM 2 t39 (nth m 0) fun e4=>Aa 2 e4 (fun e5 e6=>Al 108 [(zI 0),(zI 0)] (fun a6 e7=>Ab 2 a6 e5 (fun J=>Au [6] [[],[0],[0,1],[0,1,2],[],[4],[0,1,2,3,4,5]] J.drew (fun e8 q=>AK v0 fun e9=>AM 5 e9 fun ea=>As (q 3) ea fun ec=>AM 1 a6 fun ed=>As (q 5) ed fun a7=>AB prog 79 [ec,a7] (fun _t101 a8=>Mod (e8 6) J.drew a8/\ AW .i64 (nth m 0) (zI 1) fun ak=>o [ak] a8) J.drew)) e7) e6) a1) (K (.tuple #[]) a1)) X)) c9) c8) w7)) w6) w5) w4) w3) w2) w1) w):AB prog 78 [v0,v1,v2,v3] K w:=cO (aN (aN (aN (aN (aO (aN (.node [9,56] [(9,9),(13,13),(56,64)] (aN (aO aE (aO aE .nil))) .nil)) (aN (aO (aN (.node [77] [(17,17),(77,88)] (aN (aO aE (aO (aN (.dc [6] [[],[0],[0,1],[0,1,2],[],[4],(aR 6)] [])) .nil))) .nil)) (aN (.node [91] [(19,19),(91,102)] (aN (aO aE (aO (aN (.dc [6] [[],[0],[0,1],[0,1,2],[],[4],(aR 6)] [])) .nil))) .nil))))))))) func78 h (by kernel_rfl)
def ez(h: Ac v0 fun t9=>Ap [(zI 0),(zI 0)] (fun vs i w1=>∀_:Env,BU .i64 (nth vs 1) t9 fun B=>AD B (BM 5 v0 (nth vs 1) fun I=>Aa 5 I (fun O w2=>Al 83 [(.int .u8 0),(zI 0),(.slice none 0 0),(.slice none 0 0),(.slice none 0 0)] (fun o w3=>Ab 5 o O (fun w4=>Ao (fun _vs_1 w5=>∀_:Env,AM 1 o fun Q=>AJ Q (fun T w6=>AW .i64 (nth vs 0) T fun U=>AW .i64 (nth vs 1) (zI 1) fun V=>i [U,V] w6) w5) (fun J=>AM 0 o fun X=>AJ X (fun m q=>Cu .u8 m (.int .u8 2) fun Y=>AD Y (Cu .i64 (nth vs 0) v1 fun Z=>AD Z (K (.bool false) q) (AW .i64 (nth vs 1) (zI 1) fun j=>i [(nth vs 0),j] q)) (Cu .u8 m (.int .u8 3) fun t22=>AD t22 (AM 1 o fun a1=>AJ a1 (fun t25 w8=>AW .i64 (nth vs 0) t25 fun a6=>Cu .i64 a6 v1 fun a7=>AD a7 (K (.bool false) w8) (J [] w8)) q) (J [] q))) w4)) w3) w2) w1) (K (.bool true) w1)) w):AB prog 82 [v0,v1] K w:=cO (aN (aN (aN (aO (aN (.node [5,10] [(4,5),(7,7),(10,33)] (aN (aO aE (aO (aN (.cut [] [(4,4),(14,28)] (aN (aN (aO (aO (aN (aO aE .nil)) .nil) (aN (aO (aN (aO aE .nil)) .nil))))) .nil)) .nil))) .nil)) aE)))) func82 h (by kernel_rfl)
def dz(h: Ac v1 fun a7=>Ap [(zI 0)] (fun vs j w1=>∀_:Env,BU .i64 (nth vs 0) a7 fun a8=>AD a8 (Ao (fun _vs_1 w2=>∀_:Env,AW .i64 (nth vs 0) (zI 1) fun ak=>j [ak] w2) (fun J=>BM 5 v1 (nth vs 0) fun al=>Aa 5 al (fun an w3=>Al 83 [(.int .u8 0),(zI 0),(.slice none 0 0),(.slice none 0 0),(.slice none 0 0)] (fun i w4=>Ab 5 i an (fun w5=>Ao (fun _vs_2 w6=>∀_:Env,Au [3,7] [[],[],[1],[0,1,2],[0,1,2,3],[],[5],[0,1,2,3,5,6],[0,1,2,3,4,5,6,7],[0,1,2,3,4,5,6,7,8]] w6.drew (fun M St=>AM 3 i fun t25=>As (St 2) t25 fun av=>AB prog 75 [v0,av,(.bool true)] (fun ax w7=>Mod (M 3) w6.drew w7/\ Ac ax fun m=>AM 2 i fun ay=>As (St 6) ay fun b0=>AB prog 154 [b0] (fun o w8=>Mod (M 7) w7 w8/\ Eo .i64 m (zI 0) fun b1=>AD b1 (AM 3 i fun b2=>AJ b2 (fun b6 w9=>Ac b6 fun b7=>BU .i64 m b7 fun b8=>AD b8 (K (.bool false) w9) (AM 2 i fun t46=>AJ t46 (fun b9 X=>Ac b9 fun ba=>BU .i64 o ba fun bb=>AD bb (K (.bool false) X) (J [] X)) w9)) w8) (Eo .i64 o (zI 0) fun bc=>AD bc (AM 3 i fun q=>AJ q (fun B Y=>Ac B fun I=>BU .i64 m I fun O=>AD O (K (.bool false) Y) (AM 2 i fun Q=>AJ Q (fun T Z=>Ac T fun U=>BU .i64 o U fun V=>AD V (K (.bool false) Z) (J [] Z)) Y)) w8) (J [] w8))) w7) w6.drew)) (fun bd=>AM 0 i fun bk=>AJ bk (fun bl a1=>Dp .u8 bl (.int .u8 2) fun bn=>AD bn (J [] a1) (AM 3 i fun bp=>AJ bp (fun bs a6=>Ac bs fun bx=>Cu .i64 bx (zI 0) fun t22=>AD t22 (J [] a6) (bd [] a6)) a1)) w5)) w4) w3) w1)) (K (.bool true) w1)) w):AB prog 83 [v0,v1] K w:=cO (aN (aO (aN (.node [11] [(4,4),(6,8),(11,52)] (aN (aO aE (.cut [] [(4,4),(6,8),(13,51)] (aN (.cut [] [(15,23)] (aN aE) (aO (.dc [3,7] [[],[],[1],[0,1,2],(aR 4),[],[5],[0,1,2,3,5,6],(aR 8),(aR 9)] [[3]]) (aN (aO aE .nil))))) .nil))) .nil)) aE)) func83 h (by kernel_rfl)
def eW(h: AK v0 fun V=>AM 3 V fun X=>AJ X (fun Y w1=>AB prog 48 [Y,v1,v2] (fun t22 w2=>AR 0 t22 fun i=>AR 1 t22 fun _t24=>Ac i fun Z=>Ap [(zI 0)] (fun vs q U=>∀_:Env,BU .i64 (nth vs 0) Z fun a1=>AD a1 (Au [9] [[],[0],[0,1],[0,1,2],[],[],[4,5],[4,5,6],[4,5,6,7],[0,1,2,3,4,5,6,7,8],[0,1,2,3,4,5,6,7,8,9],[0,1,2,3,4,5,6,7,8,9,10],[0,1,2,3,4,5,6,7,8,9,10],[0,1,2,3,4,5,6,7,8,9,10,11],[0,1,2,3,4,5,6,7,8,9,10,11,12,13]] U.drew (fun M St=>AK v0 fun a6=>AM 5 a6 fun a7=>As (St 3) a7 fun a8=>BM 2 i (nth vs 0) fun ak=>AM 1 ak fun al=>As (St 8) al fun t39=>AB prog 51 [a8,t39] (fun J w4=>Mod (M 9) U.drew w4/\ AR 0 J fun an=>AR 1 J fun _t42=>Au [8,9,15] [[],[],[],[2],[2,3],[2,3,4],[],[],[6,7],[2,3,4,5,6,7,8],[2,3,4,5,6,7,8,9],[2,3,4,5,6,7,8,9,10],[2,3,4,5,6,7,8,9,10],[0,1,2,3,4,5,6,7,8,9,10,11],[0,1,2,3,4,5,6,7,8,9,10,11,13],[0,1,2,3,4,5,6,7,8,9,10,11,13,14]] w4.drew (fun B O=>AK v0 fun av=>AM 5 av fun ax=>As (O 5) ax fun ay=>AB prog 156 [an,v3] (fun b0 w5=>Mod (B 8) w4.drew w5/\ AB prog 74 [ay,b0] (fun t53 w6=>Mod (B 9) w5 w6/\ AR 0 t53 fun b1=>AR 1 t53 fun _t55=>BM 2 i (nth vs 0) fun b2=>AM 1 b2 fun b6=>Av b6 b1 (fun w7=>Mod (B 15) w6 w7/\ AW .i64 (nth vs 0) (zI 1) fun b7=>q [b7] w7) w6) w5) w4.drew)) U.drew)) (AB prog 78 [v0,v1,v2,i] (fun _t63 w8=>Ac i fun b8=>Ap [(zI 0)] (fun j m w9=>∀_:Env,BU .i64 (nth j 0) b8 fun b9=>AD b9 (BM 2 i (nth j 0) fun ba=>Aa 2 ba (fun bb bc=>Al 108 [(zI 0),(zI 0)] (fun Q bd=>Ab 2 Q bb (fun I=>Au [6] [[],[0],[0,1],[0,1,2],[],[4],[0,1,2,3,4,5]] I.drew (fun bk o=>AK v0 fun bl=>AM 5 bl fun bn=>As (o 3) bn fun bp=>AM 1 Q fun bs=>As (o 5) bs fun bx=>AB prog 79 [bp,bx] (fun _t76 T=>Mod (bk 6) I.drew T/\ AW .i64 (nth j 0) (zI 1) fun t77=>m [t77] T) I.drew)) bd) bc) w9) (K (.tuple #[]) w9)) w8) U)) w2) w1) w):AB prog 86 [v0,v1,v2,v3] K w:=cO (aN (aO (aN (.node [27] [(10,12),(27,58)] (aN (aO aE (aO (aN (aO (.dc [9] [[],[0],[0,1],[0,1,2],[],[],[4,5],[4,5,6],[4,5,6,7],(aR 9),(aR 10),(aR 11),(aR 11),(aR 12),(aR 14)] []) (.dc [8,9,15] [[],[],[],[2],[2,3],[2,3,4],[],[],[6,7],[2,3,4,5,6,7,8],[2,3,4,5,6,7,8,9],[2,3,4,5,6,7,8,9,10],[2,3,4,5,6,7,8,9,10],(aR 12),[0,1,2,3,4,5,6,7,8,9,10,11,13],[0,1,2,3,4,5,6,7,8,9,10,11,13,14]] [[8,9]]))) .nil))) .nil)) (aN (aN (.node [66] [(14,14),(66,77)] (aN (aO aE (aO (aN (.dc [6] [[],[0],[0,1],[0,1,2],[],[4],(aR 6)] [])) .nil))) .nil))))) func86 h (by kernel_rfl)
def ZM(h: Ec 24 v0 (fun j w1=>Ec 40 v1 (fun t3 w2=>Ao (fun vs w3=>∀_:Env,AD (nth vs 0) (K (zI 3) w3) (Bi prog Cq (.func (.func 191) #[] #[t3]) [(.func (.func 193) #[] #[j])] (fun m w4=>AD m (K (zI 3) w4) (Bi prog Cq (.func (.func 191) #[] #[t3]) [(.func (.func 195) #[] #[j])] (fun o w5=>AD o (K (zI 4) w5) (AJ t3 (fun t25 w6=>AJ t3 (fun q w7=>Ac q fun B=>BR .i64 B (zI 1) fun I=>BM 2 t25 I fun O=>AM 0 O fun Q=>AJ Q (fun T w8=>Dp .i32 T (.int .i32 10) fun U=>AD U (K (zI 6) w8) (Bi prog Cq (.func (.func 191) #[] #[t3]) [(.func (.func 196) #[] #[j])] (fun V w9=>AD V (K (zI 7) w9) (K (zI 0) w9)) w8)) w7) w6) w5)) w4)) w3)) (fun J=>AJ t3 (fun t8 i=>Ac t8 fun t9=>BU .i64 t9 (zI 1) fun X=>AD X (J [(.bool true)] i) (AJ t3 (fun Y Z=>Ac Y fun a1=>Eo .i64 a1 (zI 536870912) fun a6=>J [a6] Z) i)) w2)) w1) w):AB prog 125 [v0,v1] K w:=cO (aN (aN (aO (.cut [7] [(7,15)] .nil (aO aE (aN (aO aE (aN (aO aE (aN (aO aE (aN (aO aE .nil)))))))))) aE))) func125 h (by kernel_rfl)
def YK(h: Ec 24 v0 (fun t3 i=>Ec 40 v1 (fun t4 w2=>Ec 34 v2 (fun t5 j=>K (.func (.func 197) #[] #[t5,t4,t3]) j) w2) i) w):AB prog 126 [v0,v1,v2] K w:=cO (aN aE) func126 h (by kernel_rfl)
def Yn(h: Al 77 [(.int .u8 0),(zI 0),(.int .u64 0),(.string (ByteArray.mk #[]))] (fun t4 Q=>AB prog 201 [v0,v1] (fun i w2=>AR 0 i fun m=>AR 1 i fun o=>CA o fun q=>AD q (Ai [(0,1),(1,1),(2,1),(3,1)] [(.int .u8 0),(zI 0),(.int .u64 0),(.string (ByteArray.mk #[]))] [] fun B=>Ab 4 t4 B (fun T=>Aa 4 t4 (fun U w4=>K (.tuple #[U,(.bool false)]) w4) T) w2) (BM 5 v0 m fun I=>AM 1 I fun J=>Aa 4 J (fun O V=>Ab 4 t4 O (fun X=>Aa 4 t4 (fun j Y=>K (.tuple #[j,(.bool true)]) Y) X) V) w2)) Q) w):AB prog 127 [v0,v1] K w:=cO (aN (aN (aO (aN (aO aE .nil)) aE))) func127 h (by kernel_rfl)
def ZL(h: AB prog 213 [v0,v1] (fun j w1=>Cu .i64 j (zI (-1)) fun o=>AD o (K v0 w1) (AW .i64 j (zI 1) fun q=>Ap [j,q] (fun vs i w2=>∀_:Env,Ac v0 fun B=>BU .i64 (nth vs 1) B fun I=>AD I (BM 5 v0 (nth vs 1) fun J=>Aa 5 J (fun t25 w3=>Al 79 [(zI 0),(.int .u8 0),(zI 0),(.int .u64 0),(.string (ByteArray.mk #[]))] (fun O w4=>Ab 5 O t25 (fun w5=>Aa 5 O (fun Q w6=>Bi prog Cq v1 [Q] (fun T w7=>CA T fun U=>AD U (Aa 5 O (fun V w8=>BM 5 v0 (nth vs 0) fun X=>Ab 5 X V (fun w9=>AW .i64 (nth vs 0) (zI 1) fun Y=>AW .i64 (nth vs 1) (zI 1) fun Z=>i [Y,Z] w9) w8) w7) (AW .i64 (nth vs 1) (zI 1) fun m=>i [(nth vs 0),m] w7)) w6) w5) w4) w3) w2) (runK prog (Instr.sliceAt 43 v0 (some (nth vs 0)) none none) (fun a1 a6=>runK prog (Builtin.clear_ #[43] 0 [a1].toArray) (fun _u a7=>runK prog (Instr.sliceAt 43 v0 none (some (nth vs 0)) none) (fun a8 ak=>K a8 ak) a7) a6) w2)) w1)) w):AB prog 145 [v0,v1] K w:=cO (aN (aN (aO (aN (aO aE .nil)) (aO (aN (.node [5,6] [(5,7),(16,35)] (aO (aN aE) (aO (aN (aN (aO aE .nil))) .nil)) .nil)) (aN aE))))) func145 h (by kernel_rfl)
def aQ(h: BP 79 v0 (fun t3 T=>AJ v1 (fun U w2=>AM 0 t3 fun t9=>AJ t9 (fun j V=>AB prog 131 [U,j] (fun i w4=>AR 0 i fun m=>AR 1 i fun o=>Al 65 [(zI 0),(.bool false),(.int .u8 0),(.bool false),(.bool false),(zI 0)] (fun t5 X=>Ab 6 t5 m (fun Q=>CA o fun q=>AD q (K (.bool true) Q) (AM 1 t5 fun B=>AJ B (fun I Y=>AJ v2 (fun J Z=>VH I J fun O=>K O Z) Y) Q)) X) w4) V) w2) T) w):AB prog 146 [v0,v1,v2] K w:=cO (aN (aN aE)) func146 h (by kernel_rfl)
def X6(h: Ac v0 fun O=>Ap [(zI 0),(zI 0)] (fun vs i J=>∀_:Env,BU .i64 (nth vs 1) O fun t9=>AD t9 (BM 1 v0 (nth vs 1) fun m=>AJ m (fun o w2=>Cu .i32 o (.int .i32 10) fun q=>AD q (AW .i64 (nth vs 0) (zI 1) fun B=>AW .i64 (nth vs 1) (zI 1) fun I=>i [B,I] w2) (AW .i64 (nth vs 1) (zI 1) fun j=>i [(nth vs 0),j] w2)) J) (K (nth vs 0) J)) w):AB prog 154 [v0] K w:=cO (aN (aN (aO (aN (.node [3,8] [(3,3),(5,5),(8,16)] (aN (aO aE (aO (aN (aN aE)) .nil))) .nil)) aE))) func154 h (by kernel_rfl)
def YD(h: AJ v1 (fun t4 i=>AB prog 192 [t4,v0] (fun j w2=>K j w2) i) w):AB prog 191 [v0,v1] K w:=cO (aN aE) func191 h (by kernel_rfl)
def ZP(h: AB prog 248 [v0,v1] (fun i j=>Km .i64 i (zI 0) fun m=>K m j) w):AB prog 192 [v0,v1] K w:=cO (aN aE) func192 h (by kernel_rfl)
def ZH(h: BP 45 v0 (fun q I=>AM 0 q fun t4=>AJ t4 (fun t5 w2=>AB prog 194 [t5] (fun J B=>CA J fun O=>AD O (K (.bool true) B) (AJ v1 (fun t9 w4=>AM 1 q fun i=>AJ i (fun j Q=>AB prog 142 [t9,j] (fun m T=>Cu .i64 m (zI 3) fun o=>K o T) Q) w4) B)) w2) I) w):AB prog 193 [v0,v1] K w:=cO (aN aE) func193 h (by kernel_rfl)
def aZ(h: BP 45 v0 (fun i j=>AJ v1 (fun t4 w2=>AM 1 i fun t5=>AJ t5 (fun m o=>AB prog 142 [t4,m] (fun q w4=>Dp .i64 q (zI 0) fun B=>K B w4) o) w2) j) w):AB prog 195 [v0,v1] K w:=cO (aN aE) func195 h (by kernel_rfl)
def ZZ(h: BP 45 v0 (fun o q=>AJ v1 (fun t4 w2=>AM 1 o fun t5=>AJ t5 (fun B I=>AM 0 o fun J=>AJ J (fun O w4=>Dp .i32 O (.int .i32 10) fun t9=>AB prog 75 [t4,B,t9] (fun i Q=>Ac i fun j=>Eo .i64 j (zI 0) fun m=>K m Q) w4) I) w2) q) w):AB prog 196 [v0,v1] K w:=cO (aN aE) func196 h (by kernel_rfl)
def Y2(h: AJ v1 (fun Z w1=>Ac Z fun b1=>Ap [(zI 0)] (fun vs O w2=>∀_:Env,BU .i64 (nth vs 0) b1 fun b2=>AD b2 (BM 5 Z (nth vs 0) fun b6=>Aa 5 b6 (fun b7 w3=>Al 83 [(.int .u8 0),(zI 0),(.slice none 0 0),(.slice none 0 0),(.slice none 0 0)] (fun B w4=>Ab 5 B b7 (fun w5=>Ao (fun I w6=>∀_:Env,Ac (nth I 0) fun b8=>Ap [(zI 0)] (fun j m w7=>∀_:Env,BU .i64 (nth j 0) b8 fun b9=>AD b9 (BM 2 (nth I 0) (nth j 0) fun t45=>Aa 2 t45 (fun t46 w8=>Al 45 [(.int .i32 0),(.slice none 0 0)] (fun t9 w9=>Ab 2 t9 t46 (fun ba=>AJ v3 (fun bb bc=>Aa 2 t9 (fun bd bk=>AM 4 B fun t50=>AJ t50 (fun bl bn=>AB prog 199 [bb,bd,bl] (fun bp bs=>Bi prog Cq v0 [bp] (fun t53 a1=>CA t53 fun bx=>AD bx (K (.tuple #[]) a1) (AW .i64 (nth j 0) (zI 1) fun t55=>m [t55] a1)) bs) bn) bk) bc) ba) w9) w8) w7) (AW .i64 (nth vs 0) (zI 1) fun c4=>O [c4] w7)) w6) (fun J=>AM 0 B fun c6=>AJ c6 (fun a6 i=>Cu .u8 a6 (.int .u8 2) fun t25=>AD t25 (AM 2 B fun c7=>AJ c7 (fun c8 c9=>AM 3 B fun ca=>AJ ca (fun cc cd=>AB prog 198 [c8,cc] (fun ch cn=>J [ch] cn) cd) c9) i) (Cu .u8 a6 (.int .u8 1) fun cv=>AD cv (Au [3,7,9] [[],[],[1],[0,1,2],[],[],[5],[4,5,6],[0,1,2,3],[0,1,2,3,4,5,6,7,8]] i.drew (fun M St=>As (St 0) v2 fun a7=>AM 1 B fun cx=>As (St 2) cx fun a8=>As (St 4) v2 fun ak=>AM 1 B fun da=>As (St 6) da fun t39=>(runK prog (Instr.sliceAt 40 a7 none (some a8) none) (fun dk Q=>Mod (M 3) i.drew Q/\ runK prog (Instr.sliceAt 40 ak (some t39) none none) (fun dT T=>Mod (M 7) Q T/\ Av v2 dT (fun al=>Mod (M 9) T al/\ J [dk] al) T) Q) i.drew)/\ (runK prog (Instr.sliceAt 40 ak (some t39) none none) (fun U V=>Mod (M 7) i.drew V/\ runK prog (Instr.sliceAt 40 a7 none (some a8) none) (fun X Y=>Mod (M 3) V Y/\ Av v2 U (fun an=>Mod (M 9) Y an/\ J [X] an) Y) V) i.drew))) (AJ v2 (fun e1 e2=>AM 1 B fun e3=>AJ e3 (fun t22 e4=>runK prog (Instr.sliceAt 40 e1 (some t22) none none) (fun e5 e6=>Av v2 e5 (fun e7=>J [(.slice none 0 0)] e7) e6) e4) e2) i))) w5)) w4) w3) w2) (AJ v2 (fun e8 e9=>AB prog 200 [e8] (fun av ea=>Ac av fun ec=>Ap [(zI 0)] (fun o q ax=>∀_:Env,BU .i64 (nth o 0) ec fun ed=>AD ed (BM 2 av (nth o 0) fun ee=>Aa 2 ee (fun ef eh=>Al 45 [(.int .i32 0),(.slice none 0 0)] (fun ay ej=>Ab 2 ay ef (fun ek=>Aa 2 ay (fun en eo=>Bi prog Cq v0 [en] (fun t66 b0=>CA t66 fun ep=>AD ep (K (.tuple #[]) b0) (AW .i64 (nth o 0) (zI 1) fun er=>q [er] b0)) eo) ek) ej) eh) ax) (K (.tuple #[]) ax)) ea) e9) w2)) w1) w):AB prog 197 [v0,v1,v2,v3] K w:=cO (aO (aN (.node [14] [(6,7),(9,9),(14,56)] (aN (aO aE (aO (aN (aN (.cut [7] [(7,7),(18,40)] (aN (aN (aN (aN (aO (.dt [3,7,9] [[],[],[1],[0,1,2],[],[],[5],[4,5,6],(aR 4),(aR 9)] [[3]] (.op 0 (.op 1 (.op 2 (.op 4 (.op 5 (.op 6 (.br (.op 3 (.op 8 (.op 7 (.op 9 .nil)))) (.op 7 (.op 3 (.op 8 (.op 9 .nil)))))))))))) .nil))))) (aN (.node [43] [(9,9),(43,55)] (aN (aO aE (aO (aN (aN aE)) .nil))) .nil))))) .nil))) .nil)) (aN (.node [60] [(11,11),(60,68)] (aN (aO aE (aO (aN (aN aE)) .nil))) .nil))) func197 h (by kernel_rfl)
def Zc(h: Ac v0 fun t9=>Ap [(.slice none 0 0),(zI 0)] (fun vs i Q=>∀_:Env,BU .i64 (nth vs 1) t9 fun j=>AD j (BM 1 v0 (nth vs 1) fun m=>AJ m (fun o w2=>AB prog 52 [v1] (fun q T=>Ai [(0,1),(1,1)] [(.int .i32 0),(.slice none 0 0)] [(0,o),(1,q)] fun B=>Ba 45 2 1 [(.int .i32 0),(.slice none 0 0)] [(0,B)] (fun I w4=>runK prog (Builtin.append_ #[40,40] 40 [(nth vs 0),I].toArray) (fun J U=>AW .i64 (nth vs 1) (zI 1) fun O=>i [J,O] U) w4) T) w2) Q) (K (nth vs 0) Q)) w):AB prog 198 [v0,v1] K w:=cO (aN (aN (aO (aN (.node [5,10] [(5,5),(7,7),(10,21)] (aN (aO aE (aO aE .nil))) .nil)) aE))) func198 h (by kernel_rfl)
def Z4(h: AB prog 250 [v0] (fun j Q=>Ac j fun T=>Ap [(zI 0)] (fun vs i w2=>∀_:Env,BU .i64 (nth vs 0) T fun m=>AD m (BM 2 j (nth vs 0) fun o=>AM 1 o fun q=>AJ q (fun B U=>AB prog 52 [B] (fun I w4=>BM 2 j (nth vs 0) fun J=>AM 1 J fun O=>Av O I (fun V=>AW .i64 (nth vs 0) (zI 1) fun t22=>i [t22] V) w4) U) w2) (K j w2)) Q) w):AB prog 200 [v0] K w:=cO (aN (aN (aO (aN (.node [9] [(4,4),(9,22)] (aN (aO aE (aO aE .nil))) .nil)) aE))) func200 h (by kernel_rfl)
def bO(h: AB prog 251 [v0,v1,(.func (.func 252) #[] #[])] (fun j m=>AR 0 j fun t9=>AR 1 j fun i=>K (.tuple #[t9,i]) m) w):AB prog 201 [v0,v1] K w:=cO (aN aE) func201 h (by kernel_rfl)
def Z9(h: Ac v0 fun J=>Ap [(zI 0)] (fun vs i B=>∀_:Env,BU .i64 (nth vs 0) J fun t9=>AD t9 (BM 5 v0 (nth vs 0) fun j=>Aa 5 j (fun m w2=>Bi prog Cq v1 [m] (fun o I=>AD o (K (nth vs 0) I) (AW .i64 (nth vs 0) (zI 1) fun q=>i [q] I)) w2) B) (K (zI (-1)) B)) w):AB prog 213 [v0,v1] K w:=cO (aN (aO (aN (.node [8] [(4,5),(8,18)] (aN (aO aE (aO (aN (aN (aO aE .nil))) .nil))) .nil)) aE)) func213 h (by kernel_rfl)
def ZB(h: Ac v0 fun J=>Ap [(zI 0)] (fun vs i B=>∀_:Env,BU .i64 (nth vs 0) J fun t9=>AD t9 (BM 2 v0 (nth vs 0) fun j=>Aa 2 j (fun m w2=>Bi prog Cq v1 [m] (fun o I=>AD o (K (nth vs 0) I) (AW .i64 (nth vs 0) (zI 1) fun q=>i [q] I)) w2) B) (K (zI (-1)) B)) w):AB prog 248 [v0,v1] K w:=cO (aN (aO (aN (.node [8] [(4,5),(8,18)] (aN (aO aE (aO (aN (aN (aO aE .nil))) .nil))) .nil)) aE)) func248 h (by kernel_rfl)
def Yx(h: Gl v0 fun b4=>AD (.bool b4) (K (.slice none 0 0) w) (Ba 45 2 0 [] [] (fun t5 i=>runK prog (Builtin.append_ #[40,40] 40 [t5,v0].toArray) (fun j w2=>K j w2) i) w)):AB prog 250 [v0] K w:=cO (aN (aO (aN (aO aE .nil)) aE)) func250 h (by kernel_rfl)
def Zw(h: Ac v0 fun m=>Ap [(zI 0),m] (fun vs i o=>∀_:Env,BU .i64 (nth vs 0) (nth vs 1) fun q=>AD q (AW .i64 (nth vs 0) (nth vs 1) fun B=>runK prog (convert 3 130 B) (fun I w2=>runK prog (BS .shr 130 (.tmp 21) (.const (.int .u64 1)) I (.int .u64 1)) (fun t22 w3=>runK prog (convert 130 3 t22) (fun j w4=>BM 5 v0 j fun J=>Aa 5 J (fun O w5=>Bi prog Cq v2 [O,v1] (fun Q w6=>BU .i64 Q (zI 0) fun T=>AD T (AW .i64 j (zI 1) fun U=>i [U,(nth vs 1)] w6) (i [(nth vs 0),j] w6)) w5) w4) w3) w2) o) (BU .i64 (nth vs 0) m fun V=>AD V (BM 5 v0 (nth vs 0) fun X=>Aa 5 X (fun Y w7=>Bi prog Cq v2 [Y,v1] (fun t46 w8=>Cu .i64 t46 (zI 0) fun Z=>K (.tuple #[(nth vs 0),Z]) w8) w7) o) (K (.tuple #[(nth vs 0),(.bool false)]) o))) w):AB prog 251 [v0,v1,v2] K w:=cO (aN (aN (aN (aO (.node [9,10] [(9,11),(15,34)] (aO (aN aE) (aN (aN aE))) .nil) aE)))) func251 h (by kernel_rfl)
def Y3(h: BP 79 v0 (fun i j=>AM 0 i fun t5=>AJ t5 (fun m w2=>AB prog 33 [m,v1] (fun o q=>K o q) w2) j) w):AB prog 252 [v0,v1] K w:=cO (aN aE) func252 h (by kernel_rfl)
end
def Ri(G:World->Prop)(j:Value)(i:Attr->Bool):Prop:=∀W c (K:Cont),G W->(∀W',Grow W W'->K (.bool (i c)) W')->Bi prog Cq j [.agg c.cells.toArray] K W
def bA{p:List Attr}{o:Attr->Bool}(h:CR S w v p)(J:Ri (Grow w) fr o) :
  AB prog 213 [v,fr] (fun v' w'=>Grow w w'/\((v'=zI (-1)/\∀c∈p,o c=false)\/∃i:Nat,∃hi:i<p.length,v'=zI i/\o p[i]=true/\∀c∈p.take i,o c=false)) w:=by
 apply Z9;obtain⟨a,c,rfl,hm⟩:=h.shape;simp only[maxLen] at hm;rw[AP];refine AX (fun vs W=>∃i:Nat,i<=p.length/\vs=[zI i]/\Grow w W/\∀c∈p.take i,o c=false) (fun vs _=>p.length-De vs 0) ⟨0,Nn _,rfl,Mod.refl _ _,by simp⟩ ?_;rintro vs W ⟨i,hi,rfl,g,B⟩ _;rw[Bl,Nr,Am];refine AF (fun O=>?_) fun Q=>?_
 .have m:i<p.length:=by omega
  obtain⟨q,r,rfl,_,hr,hc,rfl⟩:=(h.grow g (by decide) fun _ _ h=>h).get m;refine AT m (Ah hr (fun j u hu=>by rw[Addr.add_add];exact hc j u hu) ?_);refine J W p[i] _ g fun W' g'=>?_;cases e:o p[i] with
  |true=>exact Ak ⟨g.trans g',.inr ⟨i,m,rfl,e,B⟩⟩
  |false=>
   refine AS ?_;rw[AQ,AO (by omega)];refine⟨⟨i+1,m,rfl,g.trans g',fun c hc=>?_⟩,by rw[CH,CH];omega⟩;rw[No,By m] at hc;rcases C3.1 hc with hc|hc
   .exact B c hc
   .simp at hc;subst hc;exact e
 .have:i=p.length:=by omega
  subst this;exact⟨g,.inl ⟨rfl,fun c hc=>B c (by rw[PF];exact hc)⟩⟩
def Attr.bT(c:Attr):c.cells.length=5:=rfl
set_option maxRecDepth 20000 in
def X7{p:List Attr}{o:Attr->Bool}(Y:AE B 79 5 DV w v p)(al:p.length<=1099511627776)(hf:Ri (Mod (fun b=>v.ownBlock=some b) w) fr o) :
  AB prog 145 [v,fr] (fun v' w'=>CR (fun b=>v.ownBlock=some b) w' v' (p.filter fun c=>!o c)/\Mod (fun b=>v.ownBlock=some b) w w') w:=by
 apply ZL;refine AA (bA (AE.sl Y) fun W c K g hK=>hf W c K (g.mono fun _ _ e=>e.elim) hK) ?_;rintro _ w1 ⟨Z,⟨rfl,J⟩|⟨i0,O,rfl,hd,J⟩⟩
 .rw[Aj];refine AF (fun _=>?_) fun e=>(e rfl).elim;rw[mq.2 fun c hc=>by rw[J c hc];rfl];exact⟨BB.sub (AE.sl (AE.mod Y Z (fun _ _ h=>h) fun _ _ _ h=>h)) (fun b _ h=>h.2) (by decide) fun _ _ h=>h,Z.mono fun _ _ e=>e.elim⟩
 rw[Aj];refine AF (fun e=>absurd e (by omega)) fun _=>?_;obtain⟨a,c,rfl,an,av,hp,hn⟩:=AE.shape Y;cases a with
 |none=>rw[hn rfl] at O;simp at O
 |some q=>
 obtain⟨g,rfl,ax,a1,ak⟩:=hp q rfl;have a6:∀b,(Value.slice (some ⟨g,0,none⟩) p.length c).ownBlock=some b↔b=g:=fun b=>⟨fun e=>by cases e;rfl,fun e=>by subst e;rfl⟩;simp only[a6] at hf ⊢;have R0:Jl 5 Attr.cells w g p:=Jl.of Y (by decide) fun _ _ h=>h;have R1:=R0.mod Z fun h=>h;rw[AQ,AO (by omega)];refine AX (fun vs W=>∃(i j:Nat) (L:List Attr),i<j/\j<=p.length/\vs=[zI i,zI j]/\L.length=p.length/\Jl 5 Attr.cells W g L/\L.take i=(p.take j).filter (fun c=>!o c)/\L.drop j=p.drop j/\Mod (fun b=>b=g) w W) (fun vs _=>p.length-De vs 1)
  ⟨i0,i0+1,p,by omega,O,rfl,rfl,R1,?_,rfl,Z.mono fun _ _ e=>e.elim⟩ ?_
 .rw[No,By O,oU,mq.2 fun c hc=>by rw[J c hc];rfl];simp[hd]
 rintro vs W ⟨i,j,L,ay,hj,rfl,hL,hR,ht,T,hm⟩ _;simp only[GC];rw[AP,Am];refine AF (fun U=>?_) fun b0=>?_
 .have I:j<p.length:=by omega
  have a7:L[j]'(by omega)=p[j]:=by
   have e:=kZ List.head? T;rw[p4,p4,By (by omega),By I] at e;exact kW e
  refine AT I ?_;rw[AH];refine Ah (vs:=p[j].cells) rfl (fun q u hu=>by rw[FC];exact hR.cells j (by omega) q u (by rw[a7];exact hu)) ?_;refine BQ (vs:=p[j].cells) rfl rfl (DV.one (w:=W) (x:=p[j]) rfl) fun b7 w4 b1 b2 g4 V _=>?_;have b6:g<W.heap.size:=X8 a1 hm.size;refine Ah (vs:=p[j].cells) rfl V ?_;refine hf w4 p[j] _ (hm.next g4 fun _ _ e=>e.elim) fun W5 g5=>?_;have R5:=(hR.mod g4 fun h=>h).mod g5 fun h=>h;have m5:=(hm.next g4 fun _ _ e=>e.elim).next g5 fun _ _ e=>e.elim;have et:(p.take (j+1)).filter (fun c=>!o c)=(p.take j).filter (fun c=>!o c)++if o p[j] then[] else[p[j]]:=by
   rw[No,By I,oU];cases e:o p[j]<;>simp[e]
  have Q:L.drop (j+1)=p.drop (j+1):=by have:=kZ (List.drop 1) T;simpa[oJ] using this
  cases e:o p[j] with
  |true=>
   rw[An];refine AS ?_;rw[AQ,AO (by omega)];rw[e,DN rfl,kK] at et;refine⟨⟨i,j+1,L,by omega,I,rfl,hL,R5,by rw[et];exact ht,?_,m5⟩,by rw[BD,BD];omega⟩;exact Q
  |false=>
   rw[An];refine Ak ?_;refine Ah (vs:=p[j].cells) rfl (fun q u hu=>g5.cell (V q u hu) fun h=>h) ?_;refine AT (by omega) ?_;rw[AH];refine R5.store (i:=i) (x:=p[j]) (by omega) Attr.bT (DV.one (w:=W) (x:=p[j]) rfl) fun W6 R6 m6=>?_;rw[AQ,AQ,AO (by omega),AO (by omega)];rw[e,Bq (by decide)] at et;refine⟨⟨i+1,j+1,L.set i p[j],by omega,I,rfl,by simp[hL],R6,?_,?_,m5.trans m6⟩,by rw[BD,BD];omega⟩
   .rw[et,<-ht,List.take_set,No,By (by omega),lY _ _ (by simp;omega)];simp[lA (show i<=L.length by omega)]
   .rw[qB (by omega)];exact Q
 .obtain rfl:j=p.length:=by omega
  rw[PF] at ht;refine Ae (Er (e:=79) (k:=5) (i:=Tryz.t79) (by kernel_rfl) (by kernel_rfl) (by kernel_rfl) (by omega) W) ?_;have a8:sliced (some (⟨g,0,none⟩:Addr)) i p.length c 5=.slice (some ⟨g,i*5,none⟩) (p.length-i) (c-i):=by
   unfold sliced;rw[Bq (by omega)];simp only[mo,AH]
  rw[a8];obtain⟨W2,hr,m2,h2⟩:=NQ (P:=prog) (t:=43) (e:=79) (k:=5) (i:=Tryz.t79) (zv:=.agg (⟨0,A6.zero⟩:Attr).cells.toArray) (W:=W) (g:=g) (off:=i*5) (m:=p.length-i) (c:=c-i) (by kernel_rfl) (by kernel_rfl) (by kernel_rfl) (by kernel_rfl) (by decide)
   (fun u hu=>DV.one (w:=W) (x:=⟨0,A6.zero⟩) rfl u (by simpa[Value.cells] using hu)) (by omega) fun q hq=>by
    have:=hR.live (i+q/5) (q%5) (by omega) (qI _ (by decide));rwa [show(i+q/5)*5+q%5=i*5+q by omega] at this
  refine Ae hr ?_;refine Ae (Fa (e:=79) (k:=5) (i:=Tryz.t79) (by kernel_rfl) (by kernel_rfl) (by kernel_rfl) (by omega) W2) ?_;refine⟨?_,hm.trans m2⟩;rw[<-ht];have U:(L.take i).length=i:=by simp;omega
  refine⟨_,_,by rw[U],by omega,by omega,fun m x hx=>?_⟩;obtain⟨b8,X⟩:=Ad.1 hx;rw[ny] at X;subst X;refine⟨⟨g,0,none⟩,_,rfl,rfl,rfl,fun q u hu=>?_,rfl⟩;have hq:q<5:=(Ad.1 hu).1;rw[AH,h2 _ (by omega)];exact hR.cells m (by omega) q u hu
def Ht(ks:List DKey)(b:Bool)(c:Attr):Bool:=match Bf ks c.key with|some k=>decide (k.block=b)|none=>false
def TV{D:Nat->Prop}{b:Bool}{c:Attr}(q:Ci D w sv ks)(B:w.cell? ⟨N,0,none⟩=some sv)(I:w.cell? ⟨E,0,none⟩=some (.bool b)) :
  AB prog 146 [.agg c.cells.toArray,.pointer (some ⟨N,0,none⟩),.pointer (some ⟨E,0,none⟩)] (fun v' w'=>v'=.bool (!Ht ks b c)/\Grow w w') w:=by
 apply aQ;refine DZ fun X Y J O m o _=>?_;refine AL (m.cell B fun h=>h) ?_;rw[AG];refine AL (o 0 _ rfl) ?_;refine AA (Jr (q.grow m) c.key) ?_;rintro _ w2 ⟨rfl,Q⟩;refine BO ?_;refine BQ (vs:=((Bf ks c.key).getD DKey.zero).cells) rfl rfl (Gi.one (w:=w2) (x:=(Bf ks c.key).getD DKey.zero) rfl) fun b4 Z T U V j _=>?_;have i:=(m.trans Q).trans V;rw[An];unfold Ht;cases e:Bf ks c.key with
 |none=>exact Ak ⟨rfl,i⟩
 |some k=>
  rw[e] at j;refine AS ?_;rw[AG];refine AL (j 1 _ rfl) ?_;refine AL (i.cell I fun h=>h) ?_;rw[Qw];refine⟨?_,i⟩;show Value.bool (k.block != b)=.bool (!decide (k.block=b));cases k.block<;>cases b<;>rfl
def CP(ks:List DKey)(b:Bool)(l:List Attr):List Attr:=l.filter (Ht ks b)
def Ji{D S:Nat->Prop}{b:Bool}{p:List Attr}(V:Ci D w sv ks)(hp:CR S w v p)(hl:p.length<=1099511627776) :
  AB prog 75 [sv,v,.bool b] (fun v' w'=>CR (fun x=>w.heap.size<=x) w' v' (CP ks b p)/\Grow w w') w:=by
 apply gH;have I:sv.cells=#[sv]:=by
  obtain⟨b,m,kv,l,rfl,_⟩:=V;rfl
 have J:Ci (fun x=>D x/\x<w.heap.size) w sv ks:=V.sub fun x B h=>⟨h,B⟩;refine⟨I,EU fun b3 w1 Z a1 o O _=>?_⟩;refine⟨rfl,EU fun b5 w2 a6 a7 j Q _=>?_⟩;refine AA (Nq (hp.grow (o.trans j) (by decide) fun _ _ h=>h) (by omega)) ?_;rintro v3 w3 ⟨X,T⟩;have c3:w2.cell? ⟨b3,0,none⟩=some sv:=by have:=j.cell (O 0 _ rfl) fun h=>h;rwa [AH] at this
 have c5:w2.cell? ⟨b5,0,none⟩=some (.bool b):=by have:=Q 0 _ rfl;rwa [AH] at this
 have i:∀x,v3.ownBlock=some x->w2.heap.size<=x:=fun x e=>(AE.Ax X x e).1;have q:=(o.trans j).trans T;have tl:Ri (Mod (fun x=>v3.ownBlock=some x) w3) (.func (.func 146) #[] #[.pointer (some ⟨b3,0,none⟩),.pointer (some ⟨b5,0,none⟩)]) fun c=>!Ht ks b c:=by
  intro W c K m hK;refine .inl ⟨_,[],[.pointer (some ⟨b3,0,none⟩),.pointer (some ⟨b5,0,none⟩)],rfl,by kernel_rfl,?_⟩;refine AA (TV ((J.grow q).mod m fun x _ B e=>?_) (m.cell (T.cell c3 fun h=>h) fun e=>?_) (m.cell (T.cell c5 fun h=>h) fun e=>?_)) ?_
  .have:=i _ e;have:=B.2;have:=(o.trans j).size;omega
  .have h:w2.heap.size<=b3:=i _ e;omega
  .have h:w2.heap.size<=b5:=i _ e;omega
  .rintro _ W' ⟨rfl,g⟩;exact hK W' g
 refine AA (X7 X hl tl) ?_;rintro v4 w4 ⟨Y,m4⟩;have e:(p.filter fun c=>!(!Ht ks b c))=CP ks b p:=by simp only[qs];rfl
 rw[e] at Y;refine⟨BB.sub Y (fun x _ e=>by have:=i x e;have:=(o.trans j).size;omega) (by decide) fun _ _ h=>h,?_⟩;exact q.next m4 fun x B e=>by have:=i x e;have:=(o.trans j).size;omega
def bump:List Spn->List Spn
 |[]=>[]
 |[s]=>[⟨s.n+1,s.id⟩]
 |s::t=>s::bump t
def FY(id:Int)(s:List Spn×Option Int)(r:Int):List Spn×Option Int:=
 (if r=10 then s.1++[⟨1,0⟩] else match s.2 with
  |some q=>if q=10 then s.1++[⟨1,id⟩] else bump s.1
  | none=>s.1++[⟨1,id⟩],some r)
def rowOf(id:Int)(rs:List Int):List Spn×Option Int:=rs.foldl (FY id) ([],none)
def GI(id:Int)(r:Int):Int:=if r=10 then 0 else id
def QM(l:List Spn)(s:Spn):bump (l++[s])=l++[⟨s.n+1,s.id⟩]:=by
 induction l with
 |nil=>rfl
 |cons x l i=>
  cases l with
  |nil=>rfl
  |cons y l=>rw[S7,S7,bump,<-S7,i];rfl;simp
def JJ(id:Int)(rs:List Int)(r:Int):rowOf id (rs++[r])=FY id (rowOf id rs) r:=by simp[rowOf]
def MS(id:Int)(rs:List Int):(rowOf id rs).2=rs.getLast?:=by
 rcases lK rs with rfl|⟨o,y,rfl⟩
 .rfl
 .rw[lb,JJ];simp[FY]
def MX(id:Int)(rs:List Int):(rowOf id rs).1.flatMap Spn.u=rs.map (GI id)/\(∀s∈(rowOf id rs).1,0<s.n)/\(∀q,rs.getLast?=some q->∃l n,(rowOf id rs).1=l++[⟨n,GI id q⟩]/\0<n)/\(rs=[]->(rowOf id rs).1=[])/\(rowOf id rs).1.length<=rs.length:=by
 have key:∀(n:Nat) (rs:List Int),rs.length=n->(rowOf id rs).1.flatMap Spn.u=rs.map (GI id)/\(∀s∈(rowOf id rs).1,0<s.n)/\(∀q,rs.getLast?=some q->∃l n,(rowOf id rs).1=l++[⟨n,GI id q⟩]/\0<n)/\(rs=[]->(rowOf id rs).1=[])/\(rowOf id rs).1.length<=rs.length:=by
  intro n;induction n with
  |zero=>
   intro rs h;obtain rfl:=pL.1 h;exact⟨rfl,fun s i=>(nomatch i),fun q I=>(nomatch I),fun _=>rfl,Mp _⟩
  |succ n X=>
   intro rs h;rcases lK rs with rfl|⟨o,r,rfl⟩
   .simp at h
   .rw[lb] at h ⊢;obtain⟨h1,O,Y,h4,T⟩:=X o (by simpa using h);have hp:=MS id o;have B:∀j:Int,GI id r=j->((rowOf id o).1++[(⟨1,j⟩:Spn)]).flatMap Spn.u=(o++[r]).map (GI id)/\(∀s∈(rowOf id o).1++[(⟨1,j⟩:Spn)],0<s.n)/\(∀q,(o++[r]).getLast?=some q->∃l n,(rowOf id o).1++[(⟨1,j⟩:Spn)]=l++[⟨n,GI id q⟩]/\0<n)/\(o++[r]=[]->(rowOf id o).1++[(⟨1,j⟩:Spn)]=[])/\((rowOf id o).1++[(⟨1,j⟩:Spn)]).length<=(o++[r]).length:=fun j U=>by
     refine⟨by rw[mH,h1];simp[Spn.u,U],fun s i=>?_,fun q I=>?_,fun e=>by simp at e,by simp;omega⟩
     .rcases C3.1 i with i|i
      .exact O s i
      .simp at i;subst i;exact Nat.one_pos
     .simp at I;subst I;exact⟨_,1,by rw[U],Nat.one_pos⟩
    rw[JJ,FY];by_cases hr:r=10
    .simp only[DN hr];exact B 0 (by simp[GI,hr])
    .simp only[Bq hr];rw[hp];cases Z:o.getLast? with
     |none=>exact B id (by simp[GI,hr])
     |some q=>
      by_cases I:q=10
      .simp only[DN I];exact B id (by simp[GI,hr])
      .simp only[Bq I];obtain⟨l,m,e,hm⟩:=Y q Z;have Q:GI id q=id:=by simp[GI,I]
       have V:GI id r=id:=by simp[GI,hr]
       rw[Q] at e;rw[e] at h1 O T ⊢;rw[QM];refine⟨?_,fun s i=>?_,fun q' J=>?_,fun e=>by simp at e,by simp at T ⊢;omega⟩
       .rw[mH] at h1 ⊢;rw[Ty,<-h1];simp[Spn.u,V,rL]
       .rcases C3.1 i with i|i
        .exact O s (by simp[i])
        .simp at i;subst i;exact S3 _
       .simp at J;subst J;exact⟨l,m+1,by rw[V],S3 _⟩
 exact key _ rs rfl
abbrev Uv(sv:Value)(most:Int)(r s p t:Nat):List Value:=[sv,zI most,.pointer (some ⟨r,0,none⟩),.pointer (some ⟨s,0,none⟩),.pointer (some ⟨p,0,none⟩),.pointer (some ⟨t,0,none⟩)]
section
variable {W:World}{b r s p t bt N:Nat}{sv:Value}{most:Int}{F:Nat->Prop}{l:List Ck}
def HE{i:Nat}(j:Bx W b (Uv sv most r s p t))(h:Di Az.toAvT F GJ W r bt l N)(hi:i<=(Bg l).length)(m:(Bg l).length<=1099511627776) :
  AB prog 50 [.pointer (some ⟨b,0,none⟩),zI (i:Int)] (fun v' w'=>v'=zI (BX ((Bg l).take i):Int)/\Grow W w') W:=by
 apply Ux;refine AI ?_;refine Bh (j.cells 2 _ rfl) ?_;refine AA (NU h hi m) ?_;rintro _ q ⟨rfl,o⟩;exact CL (vs:=[_,_]) (by rfl) (CL (vs:=[_,_]) (by rfl) ⟨rfl,o⟩)
def Fv(i:Bx W b (Uv sv most r s p t)):AB prog 41 [.pointer (some ⟨b,0,none⟩)] (fun v' w'=>v'=.bool true/\w'=W) W:=by
 apply dj;refine⟨_,rfl,?_⟩;refine Ak ?_;refine AI ?_;refine Bh (i.cells 2 _ rfl) ?_;exact⟨_,rfl,rfl,rfl⟩
def VS(i:Bx W b (Uv sv most r s p t))(h:Di Az.toAvT F GJ W r bt l N) :
  AB prog 17 [.pointer (some ⟨b,0,none⟩)] (fun v' w'=>v'=zI ((Bg l).length:Int)/\Grow W w') W:=by
 apply dd;refine AA (Fv i) ?_;rintro _ _ ⟨rfl,rfl⟩;rename World=>W
 rw[An];refine AS ?_;refine AI ?_;refine Bh (i.cells 2 _ rfl) ?_;exact XJ h
def V5(i:Bx W b (Uv sv most r s p t))(h:Di Az.toAvT F GJ W r bt l N) :
  AB prog 13 [.pointer (some ⟨b,0,none⟩)] (fun v' w'=>v'=zI (BX (Bg l):Int)/\Grow W w') W:=by
 apply fR;refine AA (Fv i) ?_;rintro _ _ ⟨rfl,rfl⟩;rename World=>W
 rw[An];refine AS ?_;refine AI ?_;refine Bh (i.cells 2 _ rfl) ?_;exact K3 h
def QB{k:Nat}(i:Bx W b (Uv sv most r s p t))(h:Di Az.toAvT F GJ W r bt l N)(j:(Bg l).length<=1099511627776) :
  AB prog 14 [.pointer (some ⟨b,0,none⟩),zI (k:Int)] (fun v' w'=>v'=MV (Bg l) k/\Grow W w') W:=by
 apply fM;refine AA (Fv i) ?_;rintro _ _ ⟨rfl,rfl⟩;rename World=>W
 rw[An];refine AS ?_;refine AI ?_;refine Bh (i.cells 2 _ rfl) ?_;have e:∃x y,MV (Bg l) k=.tuple #[x,y]:=by
  unfold MV;split
  .exact⟨_,_,rfl⟩
  .split
   .exact⟨_,_,rfl⟩
   .rename_i h1 B;obtain⟨q,m,_⟩:=OU (l:=Bg l) (k:=k-1) (by omega);rw[m];exact⟨_,_,rfl⟩
 obtain⟨x,y,e⟩:=e;refine AA (K6 h j) ?_;rintro v I ⟨rfl,o⟩;rw[e];exact CL (vs:=[_,_]) (by rfl) (CL (vs:=[_,_]) (by rfl) ⟨rfl,o⟩)
end
def WH{S D:Nat->Prop}{id:Int}{Kend:List Value->World->Prop}(hv:BB S 1 Bz W v rs)(hb:CR D W fr s)(hl:rs.length<=1099511627)
 (hK:∀U O w',AE W.heap.size 108 2 Dt w' U (rowOf id rs).1->AE W.heap.size 43 1 (Cw fun x=>D x/\x<W.heap.size) w' O (List.replicate (BX rs) s)->(∀g,U.ownBlock=some g->O.ownBlock≠some g)->Grow W w'->Kend [U,O,zI (rs.length:Int)] w') :
  Ap [(.slice none 0 0),(.slice none 0 0),(zI 0)] (fun vs al w5=>∀_:Env,
   BU .i64 (nth vs 2) (zI (rs.length:Int)) fun c7=>
   AD c7
   (Ao (fun a7 w6=>∀_:Env,
   AW .i64 (nth vs 2) (zI 1) fun c8=>
   al [(nth a7 0),(nth a7 1),c8] w6) (fun J=>
   BM 1 v (nth vs 2) fun c9=>
   AJ c9 (fun ca w7=>
   Cu .i32 ca (.int .i32 10) fun cc=>
   AD cc
   (Ai [(0,1),(1,1)] [(zI 0),(zI 0)] [(0,(zI 1))] fun t46=>
   Ba 108 2 1 [(zI 0),(zI 0)] [(0,t46)] (fun an w8=>
   runK prog (Builtin.append_ #[101,101] 101 [(nth vs 0),an].toArray) (fun cd w9=>
   Ba 43 1 1 [(.slice none 0 0)] [(0,fr)] (fun ch cn=>
   runK prog (Builtin.append_ #[50,50] 50 [(nth vs 1),ch].toArray) (fun cx da=>
   J [cd,cx] da) cn) w9) w8) w7)
   (Ac (nth vs 0) fun dk=>
   BR .i64 dk (zI 1) fun t55=>
   Km .i64 t55 (zI 0) fun dT=>
   AD dT
   (BR .i64 (nth vs 2) (zI 1) fun e1=>
   BM 1 v e1 fun e2=>
   AJ e2 (fun e3 bc=>
   Dp .i32 e3 (.int .i32 10) fun e4=>
   AD e4
   (BM 2 (nth vs 0) t55 fun e5=>
   AM 0 e5 fun e6=>
   AJ e6 (fun t70 e7=>
   AW .i64 t70 (zI 1) fun e8=>
   BM 2 (nth vs 0) t55 fun e9=>
   AM 0 e9 fun ea=>
   Av ea e8 (fun ec=>
   J [(nth vs 0),(nth vs 1)] ec) e7) bc)
   (Ai [(0,1),(1,1)] [(zI 0),(zI 0)] [(0,(zI 1)),(1,zI id)] fun t76=>
   Ba 108 2 1 [(zI 0),(zI 0)] [(0,t76)] (fun t77 av=>
   runK prog (Builtin.append_ #[101,101] 101 [(nth vs 0),t77].toArray) (fun ax ay=>
   J [ax,(nth vs 1)] ay) av) bc)) w7)
   (Ai [(0,1),(1,1)] [(zI 0),(zI 0)] [(0,(zI 1)),(1,zI id)] fun b0=>
   Ba 108 2 1 [(zI 0),(zI 0)] [(0,b0)] (fun b1 ed=>
   runK prog (Builtin.append_ #[101,101] 101 [(nth vs 0),b1].toArray) (fun b2 ee=>
   J [b2,(nth vs 1)] ee) ed) w7))) w5))
   (Kend vs w5)) W:=by
 obtain⟨a,c,rfl,_⟩:=hv.shape;have ef:=hv.GN (by decide);have eh:Cw (fun x=>D x/\x<W.heap.size) W [fr] s:=⟨_,rfl,hb.mono (fun x hx h=>⟨h,hx⟩) (fun _ _ _=>rfl) (by decide) fun _ _ h=>h⟩;have Gk:∀{M:Nat->Prop} {w2 w3:World} {r:List Value} {x:List Attr},Mod M w2 w3->(∀b,b<W.heap.size->¬M b)->Cw (fun b=>D b/\b<W.heap.size) w2 r x->Cw (fun b=>D b/\b<W.heap.size) w3 r x:=fun hm hn hy=>BF.BZ hy hm fun b _ hd=>hn b hd.2
 let St:List Int->Value->Value->World->Prop:=fun q U O W'=>AE W.heap.size 108 2 Dt W' U (rowOf id q).1/\AE W.heap.size 43 1 (Cw fun x=>D x/\x<W.heap.size) W' O (List.replicate (BX q) s)/\(∀g,U.ownBlock=some g->O.ownBlock≠some g)/\Grow W W'
 have ej:St (rs.take 0) (.slice none 0 0) (.slice none 0 0) W:=And.intro AE.nil (And.intro AE.nil (And.intro (fun g Q=>by simp[Value.ownBlock] at Q) (Mod.refl _ _)));refine AX (fun vs W'=>∃(i:Nat) (U O:Value),i<=rs.length/\vs=[U,O,zI i]/\St (rs.take i) U O W') (fun vs _=>rs.length-De vs 2) ⟨0,_,_,Nn _,rfl,ej⟩ ?_;rintro vs W1 ⟨i,U,O,hi,rfl,o1,o2,V,g1⟩ _;simp only[GC];have z1:=g1.size;refine Hj (fun eu=>?_) fun ew=>?_
 .have X:i<rs.length:=by omega
  have bd:rs.take (i+1)=rs.take i++[rs[i]]:=by rw[No];simp[X]
  have bk:=(MX id (rs.take i)).2.2.2.2;rw[Lc] at bk;have ek:=Dl (rs.take i);rw[Lc] at ek;have push:∀{Y:World} {j:Int} {K:Value->World->Prop},Grow W1 Y->(∀m W3,AE W.heap.size 108 2 Dt W3 m ((rowOf id (rs.take i)).1++[⟨1,j⟩])->AE W.heap.size 43 1 (Cw fun x=>D x/\x<W.heap.size) W3 O (List.replicate (BX (rs.take i)) s)->(∀g,m.ownBlock=some g->O.ownBlock≠some g)->Grow W W3->K m W3)->
    Ba 108 2 1 [(zI 0),(zI 0)] [(0,.agg (Spn.cells ⟨1,j⟩).toArray)] (fun an w8=>runK prog (Builtin.append_ #[101,101] 101 [U,an].toArray) K w8) Y:=fun{Y j K} g2 hk=>by
   have z2:=g2.size;have q1:AE W.heap.size 108 2 Dt Y U (rowOf id (rs.take i)).1:=AE.mod o1 g2 (fun _ _ h=>h) fun _ _ _ h=>h;have q2:AE W.heap.size 43 1 (Cw fun x=>D x/\x<W.heap.size) Y O (List.replicate (BX (rs.take i)) s):=AE.mod o2 g2 (fun _ _ h=>h) fun _ _ _ h=>Gk g2 (fun _ _ h=>h) h;have bn:=AE.Ax q1;have bp:=AE.Ax q2;refine Da DJ.elE q1 (by omega) (cs:=Spn.cells ⟨1,j⟩) (x:=(⟨1,j⟩:Spn)) (DC (v:=.agg (Spn.cells ⟨1,j⟩).toArray) rfl (by decide) rfl rfl) rfl rfl (fun _ _ _ h=>by have h':=h;subst h';exact Spn.one _) (fun _ _ _ _ _ _ h=>h) (by show _*16<=_;omega) (by simp only[maxLen];omega) fun m W3 o3 m3 n3=>?_;refine hk m W3 o3 (AE.mod q2 m3 (fun g Q e=>V g e Q) fun _ _ _ h=>Gk m3 (fun b hb e=>by have:=(bn b e).1;omega) h) (fun g Q e=>?_) ((g1.trans g2).next m3 fun b hb e=>by have:=(bn b e).1;omega);rcases n3 g Q with h|h
   .exact V g h e
   .have:=(bp g e).2;omega
  refine AV (fun vs W'=>∃m I,vs=[m,I]/\St (rs.take (i+1)) m I W') ?_ ?_
  .rintro _ Y ⟨m,I,rfl,s1,s2,s3,s4⟩ _;simp only[GC];rw[AQ,AO (by omega)];exact⟨⟨i+1,m,I,X,rfl,s1,s2,s3,s4⟩,by show rs.length-De [m,I,_] 2<rs.length-De [U,O,_] 2;simp only[De,Wq,Bl,Nr,List.tail_cons];omega⟩
  have rd:∀{Y:World} {q:Nat} {K:Value->World->Prop} (hq:q<rs.length),Grow W Y->K (.int .i32 rs[q]) Y->BM 1 (.slice a rs.length c) (zI (q:Int)) (fun t=>AJ t K Y):=fun{Y q K} hq g hk=>by
   obtain⟨p,r,rfl,_,hr,hc,rfl⟩:=ef.get hq;exact AT hq (AL (by have:=hc 0 _ rfl;exact g.cell this fun h=>h) hk)
  refine rd X g1 ?_;rw[Aj];have b6:BX (rs.take (i+1))=BX (rs.take i)+(if rs[i]=10 then 1 else 0):=by
   rw[bd,FD];by_cases e:rs[i]=(10:Int)<;>simp[BX,e]
  have b7:(rowOf id (rs.take (i+1))).1=(FY id (rowOf id (rs.take i)) rs[i]).1:=by rw[bd,JJ]
  have b8:=MS id (rs.take i);have inl:(FY id (rowOf id (rs.take i)) rs[i]).1=(rowOf id (rs.take i)).1++[⟨1,id⟩]->¬rs[i]=10->
    Ai [(0,1),(1,1)] [(zI 0),(zI 0)] [(0,(zI 1)),(1,zI id)] (fun t76=>
     Ba 108 2 1 [(zI 0),(zI 0)] [(0,t76)] (fun t77 av=>
     runK prog (Builtin.append_ #[101,101] 101 [U,t77].toArray) (fun ax ay=>
     (fun vs W'=>∃ m I,vs=[m,I]/\St (rs.take (i+1)) m I W') [ax,O] ay) av) W1):=fun e Z=>by
   refine⟨(Spn.cells ⟨1,id⟩).toArray,by kernel_rfl,?_⟩;refine push (j:=id) (Mod.refl _ _) fun m W3 s1 s2 s3 s4=>⟨m,O,rfl,by rw[b7,e];exact s1,by rw[b6,Bq Z,lD];exact s2,s3,s4⟩
  refine AF (fun Z=>?_) fun Z=>?_
  .have o:rs[i]=(10:Int):=Z;refine⟨(Spn.cells ⟨1,0⟩).toArray,by kernel_rfl,?_⟩;refine push (j:=0) (Mod.refl _ _) fun m W3 s1 s2 s3 s4=>?_;have zs:=s4.size;have a8:=AE.Ax s2;have bs:=AE.Ax s1;have bx:fr.cells=[fr].toArray:=by
    obtain⟨a,c,e,_⟩:=hb.shape;rw[e];rfl
   refine Da BF.elE s2 (by omega) (cs:=[fr]) (x:=s) (DC (v:=fr) rfl (by decide) bx rfl) rfl (Gk s4 (fun _ _ h=>h) eh) (fun _ _ _ h=>BF.rone h) (fun w2 w3 r y ey hm hy=>Gk hm (fun b hb e=>by
    rcases e with e|e
    .have:=(a8 b e).1;omega
    .omega) hy) (by rw [lZ];show _ * 24<=_;omega) (by rw [lZ];simp only [maxLen];omega) fun I W4 o4 m4 n4=>?_
   refine⟨m,I,rfl,?_,?_,fun g Q e=>?_,s4.next m4 fun b hb e=>by have:=(a8 b e).1;omega⟩
   .rw[b7,FY,DN o];exact AE.mod s1 m4 (fun g Q e=>s3 g Q e) fun _ _ _ h=>h
   .rw[b6,DN o,rL];exact o4
   .rcases n4 g e with h|h
    .exact s3 g Q h
    .have:=(bs g Q).2;omega
  .have o:¬rs[i]=(10:Int):=Z;obtain⟨ra,rc,en,eA,_,eB,eC⟩:=AE.shape o1;subst en;rw[AP,Aq,wrap64 (by omega) (by omega),DW];have B:(FY id (rowOf id (rs.take i)) rs[i]).1=match (rs.take i).getLast? with
     |some q=>if q=10 then(rowOf id (rs.take i)).1++[⟨1,id⟩] else bump (rowOf id (rs.take i)).1
     |none=>(rowOf id (rs.take i)).1++[⟨1,id⟩]:=by rw[FY,Bq o,b8];first | done | (cases(rs.take i).getLast?<;>rfl)
   obtain⟨f1,f2,f3,f4,f5⟩:=MX id (rs.take i);refine AF (fun ak=>?_) fun er=>?_
   .have eI:0<i:=by
     rcases Nat.eq_zero_or_pos i with e|e
     .subst e;rw[f4 (by simp)] at ak;simp at ak
     .exact e
    have a1:(rs.take i).getLast?=some rs[i-1]:=by
     rw[List.getLast?_take,Bq (by omega),By (by omega)];rfl
    rw[a1] at B;simp only at B;rw[Aq,wrap64 (by omega) (by omega),show((i:Int)-1)=((i-1:Nat):Int) by omega];refine rd (by omega) g1 ?_;rw[Bk];refine AY (fun e=>?_) fun e=>?_
    .exact inl (by rw[B,DN e]) o
    .obtain⟨L,n,eL,eN⟩:=f3 _ a1;have hq:GI id rs[i-1]=id:=by simp only[GI];exact Bq e
     rw[hq] at eL;have eR:n<=i:=by
      have:=kZ List.length f1;rw[eL] at this;simp[Spn.u] at this;omega
     have b9:(rowOf id (rs.take i)).1.length=L.length+1:=by rw[eL];simp
     have a6:=o1;rw[b9] at a6 ⊢;rw[eL] at a6;have eo:=AE.sl a6;rw[show((L.length+1:Nat):Int)-1=((L.length:Nat):Int) by omega];obtain⟨p,r,rfl,ba,hr,hc,ep⟩:=eo.get (i:=L.length) (by simp);have c4:r=Spn.cells ⟨n,id⟩:=by have h':r=_:=ep;rw[h'];simp
     subst c4;refine AT (by omega) ?_;rw[AG,Addr.add_add];refine AL (v:=zI (n:Int)) (hc 0 _ rfl) ?_;rw[AQ,wrap64 (by omega) (by omega)];refine AT (by omega) ?_;rw[AG,Addr.add_add];refine N5 (k:=2) (i:=L.length) (j:=0) (x':=(⟨n+1,id⟩:Spn)) a6 (by simp) (by decide) rfl rfl (fun _ _ _ _ h=>h) (fun _ _ r hr=>?_) fun W' o' m'=>?_
     .have h':r=_:=hr;rw[h'];simp[Spn.cells,Dt]
     .have et:(Value.slice (some p) (L.length+1) rc).ownBlock=some p.block->W.heap.size<=p.block:=fun e=>(AE.Ax a6 _ e).1;have c6:(L++[(⟨n,id⟩:Spn)]).set L.length ⟨n+1,id⟩=L++[⟨n+1,id⟩]:=by simp
      rw[c6] at o';refine⟨_,_,rfl,?_,?_,fun g Q=>V g ?_,?_⟩
      .rw[b7,B,Bq e,eL,QM];exact o'
      .rw[b6,Bq o,lD];exact AE.mod o2 m' (fun g Q e=>V g (by rw[b9,e];exact ba.2) Q) fun _ _ _ h=>Gk m' (fun b hb e=>by have:=ba.1;omega) h
      .rw[b9];exact Q
      .exact g1.next m' fun b hb e=>by have:=ba.1;omega
   .have hz:(rowOf id (rs.take i)).1.length=0:=by omega
    have bb:(rs.take i).getLast?=none:=by
     cases Q:(rs.take i).getLast? with
     |none=>rfl
     |some q=>
      obtain⟨L,n,eL,_⟩:=f3 q Q;rw[eL] at hz;simp at hz
    exact inl (by rw[B,bb]) o
 .obtain rfl:i=rs.length:=by omega
  rw[PF] at o1 o2;exact hK U O W1 o1 o2 V g1
section
open MapKept
def IE(d:TypeDesc)(w:World)(b:Nat)(f:Value->Option Value):Prop:=
 ∃j i,w.heap[b]?=some (.map j i)/\(∀x∈j.toList,IsKey d x.key)/\j.toList.Pairwise (fun x y=>x.key≠y.key)/\∀k v,IsKey d k->(f k=some v↔∃x∈j.toList,x.key=k/\x.val=v)
def IE.lt{d:TypeDesc}{b:Nat}{f:Value->Option Value}(h:IE d w b f):b<w.heap.size:=by
 obtain⟨i,c,hb,_⟩:=h;exact(mQ.1 hb).1
def IE.mod{d:TypeDesc}{b:Nat}{f:Value->Option Value}(h:IE d w b f)(hm:Mod M w w')(hb:¬M b):IE d w' b f:=by
 have hl:=h.lt;obtain⟨i,c,h1,j⟩:=h;exact⟨i,c,(hm.same b hl hb).trans h1,j⟩
def IE.make(d:TypeDesc)(w:World):IE d (w.alloc (.map #[] 0)) w.heap.size (fun _=>none):=
 ⟨#[],0,(heap_alloc w _).1,by simp,by simp,fun k v _=>by simp⟩
def QV{d:TypeDesc}{t kt et:TypeId}{z:Value}{b:Nat}{f:Value->Option Value}{k:Value}(ht:P.underlying t=some (.map kt et))(hk:P.underlying kt=some d)(hi:IsKey d k)(B:(zeroValue et).run P w=.ok z w)(h:IE d w b f) :
  (Instr.lookup t (.map (some b)) k true).run P w=.ok (.tuple #[(f k).getD z,.bool (f k).isSome]) w:=by
 obtain⟨I,i,hb,m,hp,q⟩:=h;have hc:=fun em=>nw (w:=w) hk hi em 9999;rcases findNow_spec hi I.toList 0 m with⟨h1,o⟩|⟨j,e,h1,o,J⟩
 .have h0:f k=none:=by
   cases O:f k with
   |none=>rfl
   |some v=>obtain⟨x,Q,e,_⟩:=(q k v hi).1 O;exact absurd e (o x Q)
  simp[Instr.lookup,run_underlying ht,mX hb,hc,nJ hk h1,B,Result.andThen,h0]
 .have h0:f k=some e.val:=(q k e.val hi).2 ⟨e,lS o,J,rfl⟩;simp[Instr.lookup,run_underlying ht,mX hb,hc,nJ hk h1,Result.andThen,h0]
open Classical in
def Pz{d:TypeDesc}{t kt et:TypeId}{b:Nat}{f:Value->Option Value}{k v:Value}(ht:P.underlying t=some (.map kt et))(hk:P.underlying kt=some d)(hi:IsKey d k)(h:IE d w b f)(Q:f k=none) :
  ∃w',(Instr.mapUpdate t (.map (some b)) k v).run P w=.ok () w'/\IE d w' b (fun q=>if q=k then some v else f q)/\Mod (fun x=>x=b) w w':=by
 obtain⟨T,m,hb,B,hp,U⟩:=h;have hc:=fun em=>nw (w:=w) hk hi em 9999;rcases findNow_spec hi T.toList 0 B with⟨h1,J⟩|⟨j,e,h1,J,X⟩
 .refine⟨{ w with heap:=w.heap.setIfInBounds b (.map (T.push ⟨k,v,m⟩) (m+1)) },by simp[Instr.mapUpdate,run_underlying ht,mX hb,hc,nJ hk h1,oO _ hb,Result.andThen],⟨_,_,(heap_set hb).1,?_,?_,?_⟩,⟨rfl,rfl,rfl,by simp,fun x _ i=>(heap_set hb).2 x i⟩⟩
  .intro x i;simp only[pN,C3,P9] at i;rcases i with i|rfl
   .exact B x i
   .exact hi
  .rw[pN,pj];exact⟨hp,by simp,fun x i y V=>by simp at V;subst V;exact J x i⟩
  .intro q v' O;simp only[pN,C3,P9];by_cases e:q=k
   .subst e;rw[DN rfl];constructor
    .intro e;cases e;exact⟨_,.inr rfl,rfl,rfl⟩
    .rintro⟨x,i|rfl,o,I⟩
     .exact absurd o (J x i)
     .rw[<-I]
   .rw[Bq e,U q v' O];constructor
    .rintro⟨x,i,o,I⟩;exact⟨x,.inl i,o,I⟩
    .rintro⟨x,i|rfl,o,I⟩
     .exact⟨x,i,o,I⟩
     .exact absurd o.symm e
 .rw[(U k e.val hi).2 ⟨e,lS J,X,rfl⟩] at Q;cases Q
def KY{l:List α}{x:α}:x∈l.eraseIdx j↔∃i,i≠j/\l[i]?=some x:=by
 rw[List.mem_eraseIdx_iff_getElem?]
open Classical in
def Qo{d:TypeDesc}{t kt et ty:TypeId}{b:Nat}{f:Value->Option Value}{k:Value}(ht:P.underlying t=some (.map kt et))(hk:P.underlying kt=some d)(hi:IsKey d k)(h:IE d w b f) :
  ∃w',(Builtin.delete_ #[t,kt] ty #[.map (some b),k]).run P w=.ok (.tuple #[]) w'/\IE d w' b (fun o=>if o=k then none else f o)/\Mod (fun x=>x=b) w w':=by
 obtain⟨I,q,hb,Q,hp,hf⟩:=h;have hc:=fun em=>nw (w:=w) hk hi em 9999;rcases findNow_spec hi I.toList 0 Q with⟨h1,X⟩|⟨j,e,h1,X,h3⟩
 .refine⟨{ w with heap:=w.heap.setIfInBounds b (.map I q) },by simp[Builtin.delete_,run_underlying ht,mX hb,hc,nJ hk h1,oO _ hb,Result.andThen],⟨_,_,(heap_set hb).1,Q,hp,?_⟩,⟨rfl,rfl,rfl,by simp,fun x _ m=>(heap_set hb).2 x m⟩⟩;intro o v' T;show(if o=k then none else f o)=some v'↔_;by_cases e:o=k
  .subst e;rw[DN rfl];exact⟨fun h=>(by cases h),fun⟨x,m,J,_⟩=>absurd J (X x m)⟩
  .rw[Bq e];exact hf o v' T
 .have hj:j<I.size:=by have:=(Ad.1 X).1;simpa using this
  have Y:(I.eraseIdxIfInBounds (0+j)).toList=I.toList.eraseIdx j:=by
   unfold Array.eraseIdxIfInBounds;rw[rQ (by omega)];simp
  have O:(I.eraseIdxIfInBounds (0+j)).toList.Sublist I.toList:=by rw[Y];exact List.eraseIdx_sublist _ _
  have B:∀x,x∈(I.eraseIdxIfInBounds (0+j)).toList↔x∈I.toList/\x.key≠k:=by
   intro x;rw[Y,KY];constructor
   .rintro⟨i,a6,m⟩;refine⟨lS m,fun e'=>?_⟩;have Z:=(Ad.1 m).1;have a1:=(Ad.1 X).1;have pw:=mV.1 hp;have ex:=(Ad.1 m).2;have ee:=(Ad.1 X).2;rcases qH a6 with U|U
    .exact pw i j Z a1 U (by rw[ex,ee,e',h3])
    .exact pw j i a1 Z U (by rw[ex,ee,e',h3])
   .rintro⟨m,a7⟩;obtain⟨i,V⟩:=mO.1 m;exact⟨i,fun e'=>a7 (by subst e';rw[X] at V;cases V;exact h3),V⟩
  refine⟨{ w with heap:=w.heap.setIfInBounds b (.map (I.eraseIdxIfInBounds (0+j)) q) },by simp[Builtin.delete_,run_underlying ht,mX hb,hc,nJ hk h1,oO _ hb,Result.andThen],⟨_,_,(heap_set hb).1,fun x m=>Q x (O.subset m),hp.sublist O,?_⟩,⟨rfl,rfl,rfl,by simp,fun x _ m=>(heap_set hb).2 x m⟩⟩;intro o v' T;show(if o=k then none else f o)=some v'↔_;by_cases e':o=k
  .subst e';rw[DN rfl];exact⟨fun h=>(by cases h),fun⟨x,m,J,_⟩=>absurd J ((B x).1 m).2⟩
  .rw[Bq e',hf o v' T];exact⟨fun⟨x,m,J,e2⟩=>⟨x,(B x).2 ⟨m,fun e3=>e' (J.symm.trans e3)⟩,J,e2⟩,fun⟨x,m,J,e2⟩=>⟨x,((B x).1 m).1,J,e2⟩⟩
end
section
variable {v0 v1 v2 v3 v4 v5 v6 v7 v8 v9:Value}{K:Cont}{w:World}
def fJ(h: runK prog (Instr.makeMap 143 none) (fun t4 i=>Ai [(0,1),(1,1),(2,1),(3,1),(4,1)] [(.pointer none),(.slice none 0 0),(.slice none 0 0),(.map none),(zI 0)] [(0,v0),(3,t4)] fun t5=>BP 147 t5 (fun j w2=>K j w2) i) w):AB prog 39 [v0] K w:=cO (aN aE) func39 h (by kernel_rfl)
def ZJ(h: CY v0 fun b4=>AD (.bool (!b4)) (AK v0 fun j=>AM 3 j fun m=>AJ m (fun t9 o=>runK prog (BS .neq 143 (.tmp 9) (.const (.map none)) t9 (.map none)) (fun i w2=>K i w2) o) w) (K (.bool false) w)):AB prog 124 [v0] K w:=cO (aN aE) func124 h (by kernel_rfl)
def bK(h: Ac v0 fun t7=>Ap [(.slice none 0 0),(zI 0)] (fun vs i w1=>∀_:Env,BU .i64 (nth vs 1) t7 fun t9=>AD t9 (BM 5 v0 (nth vs 1) fun j=>Aa 5 j (fun m w2=>Al 79 [(zI 0),(.int .u8 0),(zI 0),(.int .u64 0),(.string (ByteArray.mk #[]))] (fun t5 w3=>Ab 5 t5 m (fun w4=>AM 0 t5 fun o=>AJ o (fun q w5=>AB prog 210 [(nth vs 0),q] (fun B w6=>AM 1 t5 fun I=>AM 0 I fun J=>AJ J (fun O w7=>runK prog (convert 5 75 O) (fun Q w8=>AB prog 211 [B,Q] (fun T w9=>AM 1 t5 fun U=>AM 1 U fun V=>AJ V (fun t25 X=>AB prog 210 [T,t25] (fun Y Z=>AM 1 t5 fun a1=>AM 2 a1 fun a6=>AJ a6 (fun a7 a8=>AB prog 211 [Y,a7] (fun ak al=>AM 1 t5 fun an=>AM 3 an fun av=>AJ av (fun ax ay=>runK prog (convert 9 293 ax) (fun b0 b1=>AB prog 212 [ak,b0] (fun b2 b6=>AW .i64 (nth vs 1) (zI 1) fun b7=>i [b2,b7] b6) b1) ay) al) a8) Z) X) w9) w8) w7) w6) w5) w4) w3) w2) w1) (runK prog (convert 293 9 (nth vs 0)) (fun b8 b9=>K b8 b9) w1)) w):AB prog 143 [v0] K w:=cO (aN (aN (aO (aN (.node [3,8] [(3,3),(5,5),(8,38)] (aN (aO aE (aO (aN (aN (aN (aN aE)))) .nil))) .nil)) aE))) func143 h (by kernel_rfl)
def eT(h: AB prog 124 [v0] (fun O w1=>CA O fun Q=>AD Q (K (.tuple #[(zI 0),(zI 1)]) w1) (AK v0 fun T=>AM 0 T fun U=>AJ U (fun V w2=>AB prog 142 [V,v1] (fun m X=>Dp .i64 m (zI 0) fun Y=>AD Y (K (.tuple #[(zI 0),m]) X) (Ac v1 fun Z=>Cu .i64 Z (zI 0) fun a1=>AD a1 (AK v0 fun a6=>AM 4 a6 fun a7=>AJ a7 (fun a8 w4=>AW .i64 a8 (zI 1) fun ak=>AK v0 fun al=>AM 4 al fun an=>Av an ak (fun w5=>K (.tuple #[(zI 0),(zI 0)]) w5) w4) X) (AB prog 143 [v1] (fun o w6=>AK v0 fun av=>AM 3 av fun ax=>AJ ax (fun ay w7=>runK prog (Instr.lookup 143 ay o true) (fun q w8=>AR 0 q fun b0=>AR 1 q fun b1=>Ao (fun vs w9=>∀_:Env,AK v0 fun b2=>AM 1 b2 fun b6=>AJ b6 (fun t66 b7=>BR .i64 (nth vs 0) (zI 1) fun B=>BM 2 t66 B fun b8=>AM 1 b8 fun t70=>AJ t70 (fun b9 ba=>AW .i64 b9 (zI 1) fun bb=>BM 2 t66 B fun bc=>AM 1 bc fun bd=>Av bd bb (fun bk=>K (.tuple #[(nth vs 0),(zI 0)]) bk) ba) b7) w9) (fun J=>CA b1 fun bl=>AD bl (AB prog 144 [v0] (fun t46 i=>Au [7,10] [[],[0],[0,1],[0,1,2],[],[4],[],[6],[0,1,2,3,4,5,6,7],[0,1,2,3,4,5,6,7,8],[0,1,2,3,4,5,6,7,8,9]] i.drew (fun M St=>AK v0 fun bn=>AM 1 bn fun bp=>As (St 3) bp fun t50=>BR .i64 t46 (zI 1) fun bs=>AB prog 52 [v1] (fun bx j=>Mod (M 7) i.drew j/\ BM 2 t50 bs fun t55=>AM 0 t55 fun c4=>Av c4 bx (fun I=>Mod (M 10) j I/\ AK v0 fun c6=>AM 3 c6 fun c7=>AJ c7 (fun c8 c9=>runK prog (do Instr.mapUpdate 143 c8 o t46;pure undef) (fun _u ca=>J [t46] ca) c9) I) j) i.drew)) w8) (J [b0] w8))) w7) w6) X))) w2) w1)) w):AB prog 74 [v0,v1] K w:=cO (aN (aO (aN (aO aE .nil)) (aO (aN (aN (aO aE .nil))) (aO (aN (aO (aN aE) .nil)) (aN (aN (.cut [8] [(8,8),(43,62)] (aN (aO (aN (aO (.dc [7,10] [[],[0],[0,1],[0,1,2],[],[4],[],[6],(aR 8),(aR 9),(aR 10)] [[7]]) .nil)) .nil)) (aN aE)))))))) func74 h (by kernel_rfl)
def Ze(h: AK v0 fun t6=>AM 2 t6 fun t7=>AJ t7 (fun t8 w1=>Ac t8 fun t9=>BR .i64 t9 (zI 1) fun i=>Km .i64 i (zI 0) fun j=>AD j (AK v0 fun m=>AM 2 m fun o=>AJ o (fun q w2=>BM 1 q i fun B=>AJ B (fun I w3=>AK v0 fun t22=>AM 2 t22 fun J=>AJ J (fun O w4=>runK prog (Instr.sliceAt 145 O none (some i) none) (fun Q w5=>AK v0 fun T=>AM 2 T fun U=>Av U Q (fun w6=>AW .i64 I (zI 1) fun V=>K V w6) w5) w4) w3) w2) w1) (AK v0 fun X=>AM 1 X fun Y=>AJ Y (fun Z w7=>Ai [(0,1),(1,1)] [(.slice none 0 0),(zI 0)] [] fun a1=>Ba 181 2 1 [(.slice none 0 0),(zI 0)] [(0,a1)] (fun a6 w8=>runK prog (Builtin.append_ #[144,144] 144 [Z,a6].toArray) (fun a7 w9=>AK v0 fun t39=>AM 1 t39 fun a8=>Av a8 a7 (fun ak=>AK v0 fun al=>AM 1 al fun an=>AJ an (fun av ax=>Ac av fun t45=>K t45 ax) ak) w9) w8) w7) w1)) w):AB prog 144 [v0] K w:=cO (aN (aO (aN (aN (aO (aN (aN aE)) .nil))) (aN aE))) func144 h (by kernel_rfl)
def bV(h: Al 181 [(.slice none 0 0),(zI 0)] (fun t4 w1=>Ao (fun _vs w2=>∀_:Env,AK v0 fun t45=>AM 1 t45 fun t46=>AJ t46 (fun U w3=>BR .i64 v1 (zI 1) fun V=>BM 2 U V fun t50=>Aa 2 t50 (fun X w4=>Ab 2 t4 X (fun w5=>Aa 2 t4 (fun r0 w6=>K (.tuple #[r0,(zI 0)]) w6) w5) w4) w3) w2) (fun J=>AB prog 124 [v0] (fun t8 T=>CA t8 fun t9=>AD t9 (Ai [(0,1),(1,1)] [(.slice none 0 0),(zI 0)] [] fun Y=>Ab 2 t4 Y (fun w8=>Aa 2 t4 (fun m w9=>K (.tuple #[m,(zI 1)]) w9) w8) T) (Cu .i64 v1 (zI 0) fun Z=>AD Z (AK v0 fun a1=>AM 4 a1 fun a6=>AJ a6 (fun a7 a8=>Ai [(0,1),(1,1)] [(.slice none 0 0),(zI 0)] [(1,a7)] fun ak=>Ab 2 t4 ak (fun al=>Aa 2 t4 (fun o an=>K (.tuple #[o,(zI 0)]) an) al) a8) T) (BU .i64 v1 (zI 0) fun av=>AD av (Ai [(0,1),(1,1)] [(.slice none 0 0),(zI 0)] [] fun ax=>Ab 2 t4 ax (fun ay=>Aa 2 t4 (fun q b0=>K (.tuple #[q,(zI 5)]) b0) ay) T) (AK v0 fun t25=>AM 1 t25 fun b1=>AJ b1 (fun b2 B=>Ac b2 fun b6=>Eo .i64 v1 b6 fun b7=>AD b7 (Ai [(0,1),(1,1)] [(.slice none 0 0),(zI 0)] [] fun i=>Ab 2 t4 i (fun b8=>Aa 2 t4 (fun I b9=>K (.tuple #[I,(zI 5)]) b9) b8) B) (AK v0 fun ba=>AM 1 ba fun bb=>AJ bb (fun bc bd=>BR .i64 v1 (zI 1) fun bk=>BM 2 bc bk fun bl=>AM 1 bl fun t39=>AJ t39 (fun bn O=>Cu .i64 bn (zI 0) fun bp=>AD bp (Ai [(0,1),(1,1)] [(.slice none 0 0),(zI 0)] [] fun j=>Ab 2 t4 j (fun bs=>Aa 2 t4 (fun Q bx=>K (.tuple #[Q,(zI 5)]) bx) bs) O) (J [] O)) bd) B)) T)))) w1)) w):AB prog 106 [v0,v1] K w:=cO (aN (.cut [] [(5,43)] (aN (aO aE (aN (aO aE (aN (aO aE .nil)))))) aE)) func106 h (by kernel_rfl)
def aV(h: AB prog 106 [v0,v1] (fun i w1=>AR 0 i fun q=>AR 1 i fun j=>Al 181 [(.slice none 0 0),(zI 0)] (fun t5 w2=>Ab 2 t5 q (fun B=>Dp .i64 j (zI 0) fun I=>AD I (K j B) (Cu .i64 v1 (zI 0) fun J=>AD J (AK v0 fun O=>AM 4 O fun Q=>AJ Q (fun T w4=>AW .i64 T (zI 1) fun U=>AK v0 fun V=>AM 4 V fun X=>Av X U (fun w5=>K (zI 0) w5) w4) B) (AK v0 fun Y=>AM 1 Y fun Z=>AJ Z (fun m w6=>BR .i64 v1 (zI 1) fun o=>BM 2 m o fun a1=>AM 1 a1 fun a6=>AJ a6 (fun a7 w7=>AW .i64 a7 (zI 1) fun t22=>BM 2 m o fun a8=>AM 1 a8 fun ak=>Av ak t22 (fun w8=>K (zI 0) w8) w7) w6) B))) w2) w1) w):AB prog 152 [v0,v1] K w:=cO (aN (aN (aO (aN (aO aE (aN aE))) aE))) func152 h (by kernel_rfl)
def eQ(h: AB prog 106 [v0,v1] (fun i w1=>AR 0 i fun B=>AR 1 i fun j=>Al 181 [(.slice none 0 0),(zI 0)] (fun t5 w2=>Ab 2 t5 B (fun I=>Dp .i64 j (zI 0) fun J=>AD J (K j I) (Cu .i64 v1 (zI 0) fun O=>AD O (AK v0 fun Q=>AM 4 Q fun T=>AJ T (fun U w4=>BR .i64 U (zI 1) fun V=>KM .i64 V (zI 0) fun X=>AK v0 fun t39=>AM 4 t39 fun Y=>Av Y X (fun w5=>K (zI 0) w5) w4) I) (AM 1 t5 fun Z=>AJ Z (fun a1 q=>Cu .i64 a1 (zI 1) fun a6=>AD a6 (Au [6,7] [[],[0],[0,1],[0,1,2],[],[4],[4,5],[0,1,2,3,4,5,6]] q.drew (fun M St=>AK v0 fun t46=>AM 3 t46 fun a7=>As (St 3) a7 fun a8=>AM 0 t5 fun ak=>As (St 5) ak fun t50=>AB prog 143 [t50] (fun al w7=>Mod (M 6) q.drew w7/\ runK prog (Builtin.delete_ #[143,9] 0 [a8,al].toArray) (fun _u w8=>Mod (M 7) w7 w8/\ AK v0 fun t53=>AM 1 t53 fun an=>AJ an (fun t55 w9=>BR .i64 v1 (zI 1) fun av=>Ai [(0,1),(1,1)] [(.slice none 0 0),(zI 0)] [] fun ax=>BM 2 t55 av fun ay=>Ab 2 ay ax (fun b0=>AK v0 fun b1=>AM 2 b1 fun b2=>AJ b2 (fun b6 b7=>BR .i64 v1 (zI 1) fun t66=>Ba 3 1 1 [(zI 0)] [(0,t66)] (fun b8 b9=>runK prog (Builtin.append_ #[145,145] 145 [b6,b8].toArray) (fun ba bb=>AK v0 fun bc=>AM 2 bc fun t70=>Av t70 ba (fun bd=>K (zI 0) bd) bb) b9) b7) b0) w9) w8) w7) q.drew)) (AK v0 fun bk=>AM 1 bk fun bl=>AJ bl (fun m bn=>BR .i64 v1 (zI 1) fun o=>BM 2 m o fun bp=>AM 1 bp fun bs=>AJ bs (fun bx c4=>BR .i64 bx (zI 1) fun t22=>BM 2 m o fun c6=>AM 1 c6 fun c7=>Av c7 t22 (fun c8=>K (zI 0) c8) c4) bn) q)) I))) w2) w1) w):AB prog 79 [v0,v1] K w:=cO (aN (aN (aO (aN (aO aE (aN (aN (aN (aO (aO (.dc [6,7] [[],[0],[0,1],[0,1,2],[],[4],[4,5],(aR 7)] []) aE) .nil)))))) aE))) func79 h (by kernel_rfl)
def ff(h: AB prog 106 [v0,v1] (fun i Q=>AR 0 i fun m=>AR 1 i fun j=>Al 181 [(.slice none 0 0),(zI 0)] (fun J w2=>Ab 2 J m (fun O=>Dp .i64 j (zI 0) fun o=>AD o (K (.tuple #[(.slice none 0 0),j]) O) (AM 0 J fun q=>AJ q (fun B w4=>AB prog 52 [B] (fun I T=>K (.tuple #[I,(zI 0)]) T) w4) O)) w2) Q) w):AB prog 51 [v0,v1] K w:=cO (aN (aN (aO (aN (aO aE .nil)) aE))) func51 h (by kernel_rfl)
def dS(h: AB prog 124 [v0] (fun t4 J=>CA t4 fun t5=>AD t5 (K (zI 0) J) (Dg J (fun C=>AK v0 fun O=>AM 1 O fun Q=>BN C Q fun t9=>Ac t9 fun i=>AW .i64 (zI 1) i fun j=>AK v0 fun m=>AM 2 m fun o=>BN C o fun q=>Ac q fun B=>BR .i64 j B fun I=>∀w2:World,C w2->K I w2))) w):AB prog 67 [v0] K w:=cO (aN (aO (aN (aO aE .nil)) (aO .draw .nil))) func67 h (by kernel_rfl)
def ZD(h: Ac v1 fun t9=>Eo .i64 t9 (zI 64) fun U=>AD U (K (zI 3) w) (Ac v1 fun V=>Ap [(zI 0),(zI 0)] (fun vs i w1=>∀_:Env,BU .i64 (nth vs 1) V fun X=>AD X (BM 5 v1 (nth vs 1) fun Y=>Aa 5 Y (fun Z w2=>Al 79 [(zI 0),(.int .u8 0),(zI 0),(.int .u64 0),(.string (ByteArray.mk #[]))] (fun I w3=>Ab 5 I Z (fun w4=>Ao (fun O w5=>∀_:Env,AD (nth O 0) (K (zI 3) w5) (AM 0 I fun a1=>AJ a1 (fun a6 w6=>AM 1 I fun a7=>Aa 4 a7 (fun a8 w7=>AB prog 209 [v0,a6,a8] (fun ak w8=>CA ak fun t45=>AD t45 (AW .i64 (nth vs 1) (zI 1) fun t46=>i [(zI 4),t46] w8) (AW .i64 (nth vs 1) (zI 1) fun j=>i [(nth vs 0),j] w8)) w7) w6) w5)) (fun J=>Au [16] [[],[0],[0,1],[0,1,2],[0,1,2],[0,1,2,4],[0,1,2,3,4,5],[0,1,2,3,4,5,6],[0,1,2,3,4,5,6,7],[0,1,2],[0,1,2,9],[0,1,2,3,4,5,6,7,8,9,10],[0,1,2,3,4,5,6,7,8,9,10,11],[0,1,2,3,4,5,6,7,8,9,10,11,12],[0,1,2,3,4,5,6,7,8,9,10,11,12,13],[0,1,2,3,4,5,6,7,8,9,10,11,12,13,14],[0,1,2,3,4,5,6,7,8,9,10,11,12,13,14,15],[0,1,2,3,4,5,6,7,8,9,10,11,12,13,14,15,16],[0,1,2,3,4,5,6,7,8,9,10,11,12,13,14,15,16,17],[0,1,2,3,4,5,6,7,8,9,10,11,12,13,14,15,16,17,18]] w4.drew (fun M T=>Eo .i64 (nth vs 1) (zI 0) fun al=>AD al (BR .i64 (nth vs 1) (zI 1) fun an=>BM 5 v1 an fun t25=>AM 0 t25 fun av=>As (T 8) av fun ax=>AM 0 I fun ay=>As (T 10) ay fun b0=>Km .i64 ax b0 fun b1=>AD b1 (J [(.bool true)] w4.drew) (AM 1 I fun b2=>Eg (T 15) 4 b2 fun b6=>AB prog 208 [b6] (fun b7 w9=>Mod (M 16) w4.drew w9/\ CA b7 fun b8=>J [b8] w9) w4.drew)) (AM 1 I fun m=>Eg (T 15) 4 m fun o=>AB prog 208 [o] (fun q Q=>Mod (M 16) w4.drew Q/\ CA q fun B=>J [B] Q) w4.drew)))) w3) w2) w1) (K (nth vs 0) w1)) w)):AB prog 142 [v0,v1] K w:=cO (aN (aO (aN (aO aE .nil)) (aN (aO (aN (.node [5,13] [(4,7),(13,46)] (aN (aO aE (aO (aN (.cut [18] [(18,37)] (.dc [16] [[],[0],[0,1],[0,1,2],[0,1,2],[0,1,2,4],(aR 6),(aR 7),(aR 8),[0,1,2],[0,1,2,9],(aR 11),(aR 12),(aR 13),(aR 14),(aR 15),(aR 16),(aR 17),(aR 18),(aR 19)] []) (aO aE (aN aE)))) .nil))) .nil)) aE)))) func142 h (by kernel_rfl)
def Ym(h: AB prog 260 [v0] (fun T U=>Ap [T,v1] (fun vs i w2=>∀_:Env,Eo .u64 (nth vs 1) (.int .u64 127) fun V=>AD V (runK prog (convert 75 5 (nth vs 1)) (fun j X=>runK prog (BS .or 5 (.tmp 13) (.const (.int .u8 128)) j (.int .u8 128)) (fun m w4=>Ba 5 1 1 [(.int .u8 0)] [(0,m)] (fun o Y=>runK prog (Builtin.append_ #[293,293] 293 [(nth vs 0),o].toArray) (fun q Z=>runK prog (BS .shr 75 (.tmp 9) (.const (.int .u64 7)) (nth vs 1) (.int .u64 7)) (fun B w7=>i [q,B] w7) Z) Y) w4) X) w2) (runK prog (convert 75 5 (nth vs 1)) (fun I w8=>Ba 5 1 1 [(.int .u8 0)] [(0,I)] (fun J w9=>runK prog (Builtin.append_ #[293,293] 293 [(nth vs 0),J].toArray) (fun O Q=>K O Q) w9) w8) w2)) U) w):AB prog 211 [v0,v1] K w:=cO (aN (aN (aO (.node [0,1] [(0,1),(7,16)] (aO (aN aE) aE) .nil) aE))) func211 h (by kernel_rfl)
def bg(h: AB prog 259 [v1] (fun i j=>AB prog 211 [v0,i] (fun m w2=>K m w2) j) w):AB prog 210 [v0,v1] K w:=cO (aN aE) func210 h (by kernel_rfl)
def cA(h: Ac v1 fun j=>runK prog (convert 3 75 j) (fun m o=>AB prog 211 [v0,m] (fun t9 w2=>runK prog (Builtin.append_ #[293,293] 293 [t9,v1].toArray) (fun i q=>K i q) w2) o) w):AB prog 212 [v0,v1] K w:=cO (aN aE) func212 h (by kernel_rfl)
def Zy(h: runK prog (convert 2 75 v0) (fun t4 i=>runK prog (BS .shl 75 (.tmp 4) (.const (.int .u64 1)) t4 (.int .u64 1)) (fun t5 w2=>runK prog (BS .shr 2 (.tmp 6) (.const (.int .u64 63)) v0 (.int .u64 63)) (fun j m=>runK prog (convert 2 75 j) (fun o w4=>runK prog (BS .xor 75 (.tmp 5) (.tmp 8) t5 o) (fun t9 q=>K t9 q) w4) m) w2) i) w):AB prog 259 [v0] K w:=cO (aN aE) func259 h (by kernel_rfl)
def Yr(h: Gl v0 fun b4=>AD (.bool b4) (K (.slice none 0 0) w) (Ba 5 1 0 [] [] (fun t5 i=>runK prog (Builtin.append_ #[293,293] 293 [t5,v0].toArray) (fun j w2=>K j w2) i) w)):AB prog 260 [v0] K w:=cO (aN (aO (aN (aO aE .nil)) aE)) func260 h (by kernel_rfl)
end
def IM:DU prog 293 5 1 1:=⟨Tryz.t5,.int .u8 0,by kernel_rfl,by kernel_rfl,by kernel_rfl,by kernel_rfl,by kernel_rfl,by rfl,by decide⟩
def JW.one{r:List Value}{x:Int}(h:JW w r x):∀u∈r,u.oneCell'=true:=by
 subst h;intro u hu;simp at hu;subst hu;rfl
abbrev FT(B:Nat)(w:World)(v:Value)(l:List Int):Prop:=AE B 5 1 JW w v l
def eD{x:Int}(h0:0<=x)(h1:x<256):IntKind.u8.wrap x=x:=by
 have i:(2:Int) ^ IntKind.u8.bits=256:=by decide
 simp only[IntKind.wrap,i,IntKind.signed,pP];rw[Bq (by decide)];omega
def RW{x:Int}:IntKind.u8.wrap x=x%256:=by
 have i:(2:Int) ^ IntKind.u8.bits=256:=by decide
 simp only[IntKind.wrap,i,IntKind.signed,pP];rw[Bq (by decide)]
def ig:∀a:Nat,a<256->(a ||| 128)=a%128+128:=by decide +kernel
def X4{t:TypeId}{a:Int}(w:World)(h0:0<=a)(h1:a<256):(BS .or t xo yo (.int .u8 a) (.int .u8 128)).run prog w=.ok (.int .u8 (a%128+128)) w:=by
 rw[(J9 w).1];have e:((BitVec.ofInt IntKind.u8.bits a ||| BitVec.ofInt IntKind.u8.bits 128).toNat:Int)=((a.toNat ||| 128:Nat):Int):=by
  show((BitVec.ofInt 8 a ||| BitVec.ofInt 8 128).toNat:Int)=_;rw[BitVec.toNat_or,mY,mY];have e:((2 ^ 8:Nat):Int)=256:=by decide
  rw[e,nE h0 h1];rfl
 rw[e,ig _ (by omega),eD (by omega) (by omega)];congr 2
 omega
def QH{l:List Int}(h:DG S w v l)(hl:l.length<=1099511627776) :
  AB prog 260 [v] (fun v' w'=>FT w.heap.size w' v' l/\Grow w w') w:=by
 apply Yr;obtain⟨a,c,rfl,hm⟩:=h.shape;rw[Sm];cases a with
 |none=>
  have:l=[]:=by
   cases l with
   |nil=>rfl
   |cons x l=>obtain⟨p,r,e,_⟩:=h.get (i:=0) (by simp);cases e
  subst this;exact Ak ⟨AE.nil,Mod.refl _ _⟩
 |some p=>
  refine AS ?_;refine JM ?_;have m:Grow w (w.alloc (.cells #[] 5)):=Mod.alloc _ _ _;have o:FT w.heap.size (w.alloc (.cells #[] 5)) (.slice (some ⟨w.heap.size,0,none⟩) 0 0) []:=AE.made (Mp _);obtain⟨v',w',h1,q,B,I⟩:=AE.append (ty:=293) IM o (h.grow m (by decide) fun _ _ h=>h) (fun _ _=>JW.one) (by simp;omega) (by simp) (by simpa using hm) (fun _ _ _ _ h=>h);refine Ae h1 ⟨?_,m.next (Mod.of_grownBy B) ?_⟩
  .refine q.base fun g j=>?_;rcases I g j with h|h
   .cases h;exact Mp _
   .simp only[pX] at h;omega
  .intro b hb e;simp only[Value.ownBlock,i6] at e;omega
def Pk{n:Int}(h:K (.int .u8 (n%256)) w):runK prog (convert 75 5 (.int .u64 n)) K w:=by
 refine Ae (EF (k:=.u8) w (by kernel_rfl) (by kernel_rfl)) ?_;rw[RW];exact h
def Ju{l:List Int}{n:Nat}(h:DG S w v l)(hl:l.length+20<=1099511627776)(B:n<18446744073709551616) :
  AB prog 211 [v,.int .u64 n] (fun v' w'=>FT w.heap.size w' v' (l++uv n)/\Grow w w') w:=by
 apply Ym;refine AA (QH h (by omega)) ?_;rintro v1 X ⟨I,J⟩;have o:(128:Nat) ^ (9+1)=1180591620717411303424:=by decide
 refine AX (fun vs W=>∃(f m:Nat) (pre:List Int) (lv:Value),vs=[lv,.int .u64 m]/\uv n=pre++OF f m/\m<128 ^ (f+1)/\m<18446744073709551616/\pre.length+f=9/\FT w.heap.size W lv (l++pre)/\Grow w W) (fun vs _=>De vs 1)
  ⟨9,n,[],v1,rfl,rfl,by omega,B,rfl,by rw[kK];exact I,J⟩ ?_
 rintro vs W ⟨f,m,pre,lv,rfl,hu,hm,O,Y,q,g⟩ _;simp only[GC];rw[BL];refine AF (fun Q=>?_) fun T=>?_
 .cases f with
  |zero=>simp at hm;omega
  |succ f=>
   have i:OF (f+1) m=((m%128+128:Nat):Int)::OF f (m/128):=by
    simp only[OF];rw[Bq (by omega)]
   refine Pk (Ae (X4 W (by omega) (by omega)) ?_);have U:((m:Int)%256%128+128)=((m%128+128:Nat):Int):=by omega
   rw[U];refine Lt (w0:=w) IM q g (cs:=[.int .u8 ((m%128+128:Nat):Int)]) (x:=((m%128+128:Nat):Int)) (by kernel_rfl) rfl rfl (fun _ _ _=>JW.one) (fun _ _ _ _ _ _ h=>h) (by simp only[Bp];omega) (by simp only[Bp,maxLen];omega) fun v' w' o' g'=>?_;refine Ae (LP (n:=7) w' (by decide)) ?_;have V:((m:Int)).fdiv (2 ^ 7)=((m/128:Nat):Int):=by
    rw[nh _ (by decide)];show(m:Int)/128=_;omega
   rw[V];refine⟨⟨f,m/128,pre++[((m%128+128:Nat):Int)],v',rfl,by rw[hu,i];simp,?_,by omega,by simp;omega,by rw[<-Of];exact o',g'⟩,?_⟩
   .rw[rU] at hm;exact om (by omega)
   .show(((m/128:Nat):Int)).toNat<((m:Nat):Int).toNat;omega
 .have j:OF f m=[(m:Int)]:=by
   cases f with
   |zero=>rfl
   |succ f=>simp only[OF];rw[DN (by omega)]
  refine Pk ?_;rw[show((m:Int)%256)=m by omega];refine Lt (w0:=w) IM q g (cs:=[.int .u8 (m:Int)]) (x:=(m:Int)) (by kernel_rfl) rfl rfl (fun _ _ _=>JW.one) (fun _ _ _ _ _ _ h=>h) (by simp only[Bp];omega) (by simp only[Bp,maxLen];omega) fun v' w' o' g'=>?_;refine⟨?_,g'⟩;rw[hu,j,<-Of];exact o'
def TZ{t:TypeId}{a b:Int}(w:World)(ha:Ia a)(hb:Ia b):(BS .xor t xo yo (.int .u64 a) (.int .u64 b)).run prog w=.ok (.int .u64 ((a.toNat ^^^ b.toNat:Nat):Int)) w:=by
 have e0:(BS .xor t xo yo (.int .u64 a) (.int .u64 b)).run prog w=.ok (.int .u64 (IntKind.u64.wrap (BitVec.ofInt IntKind.u64.bits a ^^^ BitVec.ofInt IntKind.u64.bits b).toNat)) w:=by
  simp[BS,eqGuard,binOp,Op.intBits]
 rw[e0];have e:((BitVec.ofInt IntKind.u64.bits a ^^^ BitVec.ofInt IntKind.u64.bits b).toNat:Int)=((a.toNat ^^^ b.toNat:Nat):Int):=by
  show((BitVec.ofInt 64 a ^^^ BitVec.ofInt 64 b).toNat:Int)=_;unfold Ia at ha hb;rw[BitVec.toNat_xor,mY,mY];have e:((2 ^ 64:Nat):Int)=18446744073709551616:=by decide
  rw[e,nE ha.1 ha.2,nE hb.1 hb.2]
 have i:a.toNat ^^^ b.toNat<2 ^ 64:=Nat.xor_lt_two_pow (by unfold Ia at ha;omega) (by unfold Ia at hb;omega);rw[e,Ff ⟨by omega,by omega⟩]
def FO{x:Int}:IntKind.u64.wrap x=x%18446744073709551616:=by
 have i:(2:Int) ^ IntKind.u64.bits=18446744073709551616:=by decide
 simp only[IntKind.wrap,i,IntKind.signed,pP];rw[Bq (by decide)]
def fq{n:Int}(h0:-9223372036854775808<=n)(h1:n<=9223372036854775807) :
  AB prog 259 [zI n] (fun v' w'=>v'=.int .u64 (Hm n:Nat)/\w'=w) w:=by
 apply Zy;refine Ae (EF (k:=.u64) w (by kernel_rfl) (by kernel_rfl)) ?_;refine Ae (SY (n:=1) w (by decide)) ?_;refine Ae (LP (n:=63) w (by decide)) ?_;refine Ae (EF (k:=.u64) w (by kernel_rfl) (by kernel_rfl)) ?_;have m:Ia (IntKind.u64.wrap (IntKind.u64.wrap n*2 ^ 1)):=by
  rw[FO];exact⟨by omega,by omega⟩
 have o:Ia (IntKind.u64.wrap (n.fdiv (2 ^ 63))):=by
  rw[FO];exact⟨by omega,by omega⟩
 refine Ae (TZ w m o) ⟨?_,rfl⟩;congr 1
 rw[FO,FO,FO,nh _ (by decide)];have i:((2:Int) ^ 63)=9223372036854775808:=by decide
 have B:((2:Int) ^ 1)=2:=by decide
 rw[i,B];by_cases j:0<=n
 .have q:n/9223372036854775808=0:=by omega
  rw[q];simp only[Int.zero_emod,Int.toNat_zero,Nat.xor_zero];unfold Hm;rw[DN j];omega
 .have q:n/9223372036854775808=-1:=by omega
  rw[q];have r:((-1:Int)%18446744073709551616).toNat=2 ^ 64-1:=by decide
  rw[r,Nat.xor_comm,Lib.xor_ones64 _ (by omega)];unfold Hm;rw[Bq j];omega
def SE{l:List Int}{n:Int}(h:DG S w v l)(hl:l.length+20<=1099511627776)(h0:-9223372036854775808<=n)(h1:n<=9223372036854775807) :
  AB prog 210 [v,zI n] (fun v' w'=>FT w.heap.size w' v' (l++uv (Hm n))/\Grow w w') w:=by
 apply bg;refine AA (fq h0 h1) ?_;rintro _ _ ⟨rfl,rfl⟩;exact AA (Ju h hl (HT h0 h1)) fun _ _ h=>h
def UZ{S q:Nat->Prop}{l x:List Int}(h:DG S w v l)(j:DG q w fr x)(hl:l.length+x.length+40<=1099511627776) :
  AB prog 212 [v,fr] (fun v' w'=>FT w.heap.size w' v' (l++(uv x.length++x))/\Grow w w') w:=by
 apply cA;obtain⟨a,c,rfl,_⟩:=j.shape;rw[AP];refine Ae (EF (k:=.u64) w (by kernel_rfl) (by kernel_rfl)) ?_;rw[Ff ⟨by omega,by omega⟩];refine AA (Ju h (by omega) (by omega)) ?_;rintro v1 J ⟨m,i⟩;have B:(uv x.length).length<=10:=(GQ 9 x.length).2;obtain⟨v',w',h1,o,I,O⟩:=AE.append (ty:=293) IM m (j.grow i (by decide) fun _ _ h=>h) (fun _ _=>JW.one) (by simp only[Bp];omega) i.size (by simp only[Bp,maxLen];omega) (fun _ _ _ _ h=>h);refine Ae h1 ⟨?_,i.next (Mod.of_grownBy I) fun b hb e=>by have:=(AE.Ax m b e).1;omega⟩;rw[Of] at o;exact o
end Go.Proofs.YtmdhibffnkhcnaaGreatDoor
