/- parts of the proof, written short by a program of ours -/
import Derived.Test.YtmdhibffnkhcnaaGreatDoorZTextInvertsUpto7
set_option linter.unusedSimpArgs false
set_option linter.unusedVariables false
set_option linter.defProp false
namespace Go.Proofs.YtmdhibffnkhcnaaGreatDoor
open Go Proofs.Tryz
variable {c B N E:Nat}{w W w0:World}{F S C M:Nat->Prop}{v fr sv:Value}{most:Int}{α:Type}{a:List Dop}{s:List Attr}{ks:List DKey}{rs:List Int}{K:Cont}{P:Program}
section
variable {v0 v1 v2 v3 v4 v5 v6 v7 v8 v9:Value}{K:Cont}{w:World}
def gS(h: Ac v1 fun o=>Ap [(zI 0),(zI 0)] (fun vs i w1=>∀_:Env,BU .i64 (nth vs 1) o fun q=>AD q (BM 5 v1 (nth vs 1) fun B=>Aa 5 B (fun I w2=>Al 83 [(.int .u8 0),(zI 0),(.slice none 0 0),(.slice none 0 0),(.slice none 0 0)] (fun t7 w3=>Ab 5 t7 I (fun w4=>Aa 5 t7 (fun J w5=>AB prog 153 [v0,J] (fun j O=>Cu .i64 j (zI 3) fun Q=>AD Q (K j O) (Dp .i64 j (zI 0) fun T=>AD T (AW .i64 (nth vs 1) (zI 1) fun U=>i [j,U] O) (AW .i64 (nth vs 1) (zI 1) fun m=>i [(nth vs 0),m] O))) w5) w4) w3) w2) w1) (AB prog 81 [v1] (fun V w7=>Eo .i64 V (zI 536870912) fun X=>AD X (K (zI 3) w7) (AB prog 84 [v1] (fun Y w8=>Eo .i64 Y (zI 536870912) fun Z=>AD Z (K (zI 3) w8) (K (nth vs 0) w8)) w7)) w1)) w):AB prog 80 [v0,v1] K w:=cO (aN (aN (aO (aN (.node [5,11] [(4,5),(7,8),(11,26)] (aN (aO aE (aO (aN (aN (aN (aO aE (aN aE))))) .nil))) .nil)) (aO (aN (aO aE .nil)) aE)))) func80 h (by kernel_rfl)
def ZC(h: BP 83 v1 (fun t3 w1=>Ao (fun _vs w2=>∀_:Env,AM 3 t3 fun m=>AJ m (fun o w3=>AB prog 142 [v0,o] (fun t22 w4=>Dp .i64 t22 (zI 0) fun q=>AD q (K t22 w4) (AM 4 t3 fun B=>AJ B (fun I w5=>AB prog 240 [v0,I] (fun O w6=>K O w6) w5) w4)) w3) w2) (fun J=>Aa 5 t3 (fun t6 w7=>AB prog 239 [t6] (fun t7 w8=>CA t7 fun t8=>AD t8 (K (zI 3) w8) (Aa 5 t3 (fun Q w9=>AB prog 155 [Q] (fun T i=>BU .i64 T (zI 1) fun U=>AD U (K (zI 3) i) (Aa 5 t3 (fun V X=>AB prog 155 [V] (fun Y j=>Eo .i64 Y (zI 536870912) fun Z=>AD Z (K (zI 3) j) (J [] j)) X) i)) w9) w8)) w7) w1)) w):AB prog 153 [v0,v1] K w:=cO (aN (.cut [] [(4,4),(6,18)] (aN (aO aE .nil)) (aO (aN (aN (aO aE .nil))) aE))) func153 h (by kernel_rfl)
def Zn(h: BP 83 v0 (fun i w1=>Ao (fun vs w2=>∀_:Env,AM 0 i fun o=>AJ o (fun j m=>Cu .u8 j (.int .u8 1) fun q=>AD q (CA (nth vs 0) fun B=>K B m) (Cu .u8 j (.int .u8 3) fun I=>AD I (CA (nth vs 0) fun O=>AD O (AM 4 i fun t25=>AJ t25 (fun Q w4=>Ac Q fun T=>Cu .i64 T (zI 0) fun U=>K U w4) m) (K (.bool false) m)) (Cu .u8 j (.int .u8 2) fun V=>AD V (AM 1 i fun X=>AJ X (fun Y w5=>Cu .i64 Y (zI 0) fun Z=>AD Z (AM 4 i fun a1=>AJ a1 (fun a6 w6=>Ac a6 fun a7=>Cu .i64 a7 (zI 0) fun t39=>AD t39 (AM 2 i fun a8=>AJ a8 (fun ak w7=>AB prog 224 [ak,(.func (.func 280) #[] #[])] (fun al w8=>CA al fun t45=>K t45 w8) w7) w6) (K (.bool false) w6)) w5) (K (.bool false) w5)) m) (K (.bool false) m)))) w2) (fun J=>AM 2 i fun t4=>AJ t4 (fun t5 w9=>Ac t5 fun t6=>Eo .i64 t6 (zI 0) fun t7=>AD t7 (J [(.bool true)] w9) (AM 3 i fun t9=>AJ t9 (fun an av=>Ac an fun ax=>Eo .i64 ax (zI 0) fun ay=>J [ay] av) w9)) w1)) w):AB prog 239 [v0] K w:=cO (aN (.cut [3] [(3,13)] .nil (aO (aN (aN (aO aE (aN (aO aE (aN (aO aE .nil))))))) aE))) func239 h (by kernel_rfl)
def Zk(h: AB prog 194 [v0] (fun t4 i=>CA t4 fun t5=>K t5 i) w):AB prog 280 [v0] K w:=cO (aN aE) func280 h (by kernel_rfl)
def Y1(h: BP 83 v0 (fun i m=>AM 0 i fun t3=>AJ t3 (fun t4 w2=>Cu .u8 t4 (.int .u8 2) fun t5=>AD t5 (AM 2 i fun o=>AJ o (fun q B=>Ac q fun I=>K I B) w2) (AM 1 i fun t9=>AJ t9 (fun j w4=>K j w4) w2)) m) w):AB prog 155 [v0] K w:=cO (aN (aO (aN (aO aE .nil)) aE)) func155 h (by kernel_rfl)
def gG(h: Ac v0 fun X=>Ap [(zI 0),(zI 0)] (fun vs i U=>∀_:Env,BU .i64 (nth vs 1) X fun t9=>AD t9 (BM 5 v0 (nth vs 1) fun m=>Aa 5 m (fun o w2=>Al 83 [(.int .u8 0),(zI 0),(.slice none 0 0),(.slice none 0 0),(.slice none 0 0)] (fun t5 Y=>Ab 5 t5 o (fun w4=>AM 0 t5 fun q=>AJ q (fun B V=>Dp .u8 B (.int .u8 2) fun I=>AD I (AM 1 t5 fun J=>AJ J (fun O Z=>AW .i64 (nth vs 0) O fun Q=>AW .i64 (nth vs 1) (zI 1) fun T=>i [Q,T] Z) V) (AW .i64 (nth vs 1) (zI 1) fun j=>i [(nth vs 0),j] V)) w4) Y) w2) U) (K (nth vs 0) U)) w):AB prog 81 [v0] K w:=cO (aN (aN (aO (aN (.node [3,8] [(3,3),(5,5),(8,19)] (aN (aO aE (aO (aN (aN aE)) .nil))) .nil)) aE))) func81 h (by kernel_rfl)
def iD(h: Ac v0 fun X=>Ap [(zI 0),(zI 0)] (fun vs i U=>∀_:Env,BU .i64 (nth vs 1) X fun t9=>AD t9 (BM 5 v0 (nth vs 1) fun m=>Aa 5 m (fun o w2=>Al 83 [(.int .u8 0),(zI 0),(.slice none 0 0),(.slice none 0 0),(.slice none 0 0)] (fun t5 Y=>Ab 5 t5 o (fun w4=>AM 0 t5 fun q=>AJ q (fun B V=>Dp .u8 B (.int .u8 3) fun I=>AD I (Aa 5 t5 (fun J Z=>AB prog 155 [J] (fun O w7=>AW .i64 (nth vs 0) O fun Q=>AW .i64 (nth vs 1) (zI 1) fun T=>i [Q,T] w7) Z) V) (AW .i64 (nth vs 1) (zI 1) fun j=>i [(nth vs 0),j] V)) w4) Y) w2) U) (K (nth vs 0) U)) w):AB prog 84 [v0] K w:=cO (aN (aN (aO (aN (.node [3,8] [(3,3),(5,5),(8,19)] (aN (aO aE (aO (aN (aN aE)) .nil))) .nil)) aE))) func84 h (by kernel_rfl)
def bP(h: AB prog 249 [v0] (fun t4 i=>K t4 i) w):AB prog 194 [v0] K w:=cO (aN aE) func194 h (by kernel_rfl)
def ZK(h: SZ .i32 (.int .i32 0) v0 fun t5=>AD t5 (BU .i32 v0 (.int .i32 55296) fun q=>AD q (K (.bool true) w) (BU .i32 (.int .i32 57343) v0 fun m=>AD m (SZ .i32 v0 (.int .i32 1114111) fun o=>AD o (K (.bool true) w) (K (.bool false) w)) (K (.bool false) w))) (BU .i32 (.int .i32 57343) v0 fun i=>AD i (SZ .i32 v0 (.int .i32 1114111) fun j=>AD j (K (.bool true) w) (K (.bool false) w)) (K (.bool false) w))):AB prog 249 [v0] K w:=cO (aN (aO (aN (aO aE (aN (aO aE .nil)))) aE)) func249 h (by kernel_rfl)
def Sw(h: AB prog 265 [v0,v1] (fun i j=>Km .i64 i (zI 0) fun m=>K m j) w):AB prog 224 [v0,v1] K w:=cO (aN aE) func224 h (by kernel_rfl)
def Sa(h: Ac v0 fun J=>Ap [(zI 0)] (fun vs i B=>∀_:Env,BU .i64 (nth vs 0) J fun t9=>AD t9 (BM 1 v0 (nth vs 0) fun j=>AJ j (fun m w2=>Bi prog Cq v1 [m] (fun o I=>AD o (K (nth vs 0) I) (AW .i64 (nth vs 0) (zI 1) fun q=>i [q] I)) w2) B) (K (zI (-1)) B)) w):AB prog 265 [v0,v1] K w:=cO (aN (aO (aN (.node [8] [(4,5),(8,18)] (aN (aO aE (aO (aN (aN (aO aE .nil))) .nil))) .nil)) aE)) func265 h (by kernel_rfl)
def aB(h: Ac v1 fun b1=>Eo .i64 b1 (zI 64) fun b2=>AD b2 (K (zI 3) w) (Ac v1 fun b6=>Ap [(zI 0),(zI 0)] (fun vs o w1=>∀_:Env,BU .i64 (nth vs 1) b6 fun b7=>AD b7 (Ao (fun X w2=>∀_:Env,AW .i64 (nth vs 1) (zI 1) fun b8=>o [(nth X 0),b8] w2) (fun J=>BM 6 v1 (nth vs 1) fun b9=>Aa 6 b9 (fun ba w3=>Al 133 [(zI 0),(.bool false),(.int .u8 0),(zI 0),(.int .u64 0),(.string (ByteArray.mk #[]))] (fun j w4=>Ab 6 j ba (fun w5=>AM 0 j fun t22=>AJ t22 (fun bb w6=>AB prog 131 [v0,bb] (fun Y w7=>AR 0 Y fun t25=>AR 1 Y fun bc=>Al 65 [(zI 0),(.bool false),(.int .u8 0),(.bool false),(.bool false),(zI 0)] (fun t8 w8=>Ab 6 t8 t25 (fun w9=>Ao (fun Z q=>∀_:Env,AD (nth Z 0) (K (zI 3) q) (CA bc fun bd=>AD bd (J [(zI 4)] q) (AM 1 j fun bk=>AJ bk (fun bl a1=>CA bl fun bn=>AD bn (AM 0 j fun bp=>AJ bp (fun bs bx=>AM 2 j fun c4=>Aa 4 c4 (fun t70 c6=>AB prog 209 [v0,bs,t70] (fun c7 a6=>CA c7 fun c8=>AD c8 (J [(zI 4)] a6) (J [(nth vs 0)] a6)) c6) bx) a1) (J [(nth vs 0)] a1)) q))) (fun i=>Ao (fun m a7=>∀_:Env,AD (nth m 0) (i [(nth m 0)] a7) (AM 1 j fun c9=>AJ c9 (fun ca a8=>AD ca (AM 2 j fun cc=>Aa 4 cc (fun t45 cd=>Ai [(0,1),(1,1),(2,1),(3,1)] [(.int .u8 0),(zI 0),(.int .u64 0),(.string (ByteArray.mk #[]))] [] fun t46=>runK prog (BS .neq 77 (.tmp 45) (.tmp 46) t45 t46) (fun ak al=>AD ak (i [ak] al) (AM 1 j fun ch=>AJ ch (fun t50 an=>CA t50 fun cn=>AD cn (AM 2 j fun t53=>Aa 4 t53 (fun cv cx=>AB prog 208 [cv] (fun t55 da=>CA t55 fun dk=>i [dk] da) cx) an) (i [(.bool false)] an)) al)) cd) a8) (AM 1 j fun B=>AJ B (fun I av=>CA I fun O=>AD O (AM 2 j fun Q=>Aa 4 Q (fun T dT=>AB prog 208 [T] (fun U e1=>CA U fun V=>i [V] e1) dT) av) (i [(.bool false)] av)) a8)) a7)) (fun ax=>Dg w9 (fun C=>Eo .i64 (nth vs 1) (zI 0) fun e2=>AD e2 (BR .i64 (nth vs 1) (zI 1) fun e3=>BM 6 v1 e3 fun e4=>AM 0 e4 fun e5=>BN C e5 fun e6=>AM 0 j fun e7=>BN C e7 fun e8=>Km .i64 e6 e8 fun t39=>∀ay:World,C ay->ax [t39] ay) (∀ b0:World,C b0->ax [(.bool false)] b0))))) w8) w7) w6) w5) w4) w3) w1)) (K (nth vs 0) w1)) w)):AB prog 240 [v0,v1] K w:=cO (aN (aO (aN (aO aE .nil)) (aN (aO (aN (.node [5,15] [(4,9),(15,75)] (aN (aO aE (.cut [5] [(4,9),(17,74)] (aN (aN (.cut [27] [(27,57)] (.cut [27] [(27,40)] .draw (aN (aN aE))) (aO aE (aN aE))))) .nil))) .nil)) aE)))) func240 h (by kernel_rfl)
def Yi(h: Ac v1 fun V=>Ap [(.slice none 0 0),(zI 0),(zI 0)] (fun vs B w1=>∀_:Env,BU .i64 (nth vs 2) V fun X=>AD X (Ao (fun q w2=>∀_:Env,AW .i64 (nth vs 2) (zI 1) fun t70=>B [(nth q 0),(nth q 1),t70] w2) (fun J=>BM 6 v1 (nth vs 2) fun Y=>Aa 6 Y (fun Z w3=>Al 133 [(zI 0),(.bool false),(.int .u8 0),(zI 0),(.int .u64 0),(.string (ByteArray.mk #[]))] (fun o w4=>Ab 6 o Z (fun w5=>Ap [(nth vs 0),(nth vs 1)] (fun i m w6=>∀_:Env,Ac v0 fun a1=>BU .i64 (nth i 1) a1 fun a6=>AD a6 (Ao (fun j w7=>∀_:Env,AM 1 o fun a7=>AJ a7 (fun a8 w8=>CA a8 fun t50=>AD t50 (AM 0 o fun ak=>AJ ak (fun t53 w9=>AM 2 o fun al=>Aa 4 al (fun t55 an=>Ai [(0,1),(1,4)] [(zI 0),(.int .u8 0),(zI 0),(.int .u64 0),(.string (ByteArray.mk #[]))] [(0,t53),(1,t55)] fun av=>Ba 79 5 1 [(zI 0),(.int .u8 0),(zI 0),(.int .u64 0),(.string (ByteArray.mk #[]))] [(0,av)] (fun ax ay=>runK prog (Builtin.append_ #[43,43] 43 [(nth j 0),ax].toArray) (fun b0 b1=>J [b0,(nth j 1)] b1) ay) an) w9) w8) (J [(nth j 0),(nth j 1)] w8)) w7) (fun T=>Dg w6 (fun C=>BM 5 v0 (nth i 1) fun b2=>AM 0 b2 fun t25=>BN C t25 fun b6=>AM 0 o fun b7=>BN C b7 fun b8=>BU .i64 b6 b8 fun b9=>∀I:World,C I->AD b9 (BM 5 v0 (nth i 1) fun ba=>Aa 5 ba (fun bb bc=>Ba 79 5 1 [(zI 0),(.int .u8 0),(zI 0),(.int .u64 0),(.string (ByteArray.mk #[]))] [(0,bb)] (fun bd bk=>runK prog (Builtin.append_ #[43,43] 43 [(nth i 0),bd].toArray) (fun bl bn=>AW .i64 (nth i 1) (zI 1) fun bp=>m [bl,bp] bn) bk) bc) I) (Dg I (fun O=>BM 5 v0 (nth i 1) fun bs=>AM 0 bs fun bx=>BN O bx fun c4=>AM 0 o fun c6=>BN O c6 fun c7=>Cu .i64 c4 c7 fun t45=>∀Q:World,O Q->AD t45 (AW .i64 (nth i 1) (zI 1) fun c8=>T [(nth i 0),c8] Q) (T [(nth i 0),(nth i 1)] Q)))))) (AM 1 o fun c9=>AJ c9 (fun ca U=>CA ca fun cc=>AD cc (AM 0 o fun cd=>AJ cd (fun ch cn=>AM 2 o fun cv=>Aa 4 cv (fun t66 cx=>Ai [(0,1),(1,4)] [(zI 0),(.int .u8 0),(zI 0),(.int .u64 0),(.string (ByteArray.mk #[]))] [(0,ch),(1,t66)] fun da=>Ba 79 5 1 [(zI 0),(.int .u8 0),(zI 0),(.int .u64 0),(.string (ByteArray.mk #[]))] [(0,da)] (fun dk dT=>runK prog (Builtin.append_ #[43,43] 43 [(nth i 0),dk].toArray) (fun e1 e2=>J [e1,(nth i 1)] e2) dT) cx) cn) U) (J [(nth i 0),(nth i 1)] U)) w6)) w5) w4) w3) w1)) (runK prog (Instr.sliceAt 43 v0 (some (nth vs 1)) none none) (fun e3 e4=>runK prog (Builtin.append_ #[43,43] 43 [(nth vs 0),e3].toArray) (fun e5 e6=>K e5 e6) e4) w1)) w):AB prog 156 [v0,v1] K w:=cO (aN (aN (aN (aN (aO (aN (.node [5,6,11] [(5,6),(8,8),(11,70)] (aN (aO aE (.cut [5,6] [(5,6),(8,8),(13,69)] (aN (aO (.node [5,6] [(5,6),(15,58)] (aO (aN aE) (aO (.cut [5,6] [(5,6),(21,47)] (aO .draw (aO aE (aO .draw aE))) (aO (aN aE) .nil)) .nil)) .nil) (aN aE))) .nil))) .nil)) aE))))) func156 h (by kernel_rfl)
def eY(h: Ec 24 v0 (fun t3 j=>Ec 4 v2 (fun t5 w2=>AB prog 129 [v1] (fun m o=>AB prog 128 [m,(.func (.func 130) #[] #[t3,t5])] (fun i w4=>K i w4) o) w2) j) w):AB prog 70 [v0,v1,v2] K w:=cO (aN aE) func70 h (by kernel_rfl)
def aX(h: BP 133 v0 (fun t3 T=>AJ v1 (fun U w2=>AM 0 t3 fun t9=>AJ t9 (fun j V=>AB prog 131 [U,j] (fun i w4=>AR 0 i fun m=>AR 1 i fun o=>Al 65 [(zI 0),(.bool false),(.int .u8 0),(.bool false),(.bool false),(zI 0)] (fun t5 X=>Ab 6 t5 m (fun Q=>CA o fun q=>AD q (K (.bool true) Q) (AM 1 t5 fun B=>AJ B (fun I Y=>AJ v2 (fun J Z=>VH I J fun O=>K O Z) Y) Q)) X) w4) V) w2) T) w):AB prog 130 [v0,v1,v2] K w:=cO (aN (aN aE)) func130 h (by kernel_rfl)
def YT(h: AB prog 202 [v0,v1] (fun j w1=>Cu .i64 j (zI (-1)) fun o=>AD o (K v0 w1) (AW .i64 j (zI 1) fun q=>Ap [j,q] (fun vs i w2=>∀_:Env,Ac v0 fun B=>BU .i64 (nth vs 1) B fun I=>AD I (BM 6 v0 (nth vs 1) fun J=>Aa 6 J (fun t25 w3=>Al 133 [(zI 0),(.bool false),(.int .u8 0),(zI 0),(.int .u64 0),(.string (ByteArray.mk #[]))] (fun O w4=>Ab 6 O t25 (fun w5=>Aa 6 O (fun Q w6=>Bi prog Cq v1 [Q] (fun T w7=>CA T fun U=>AD U (Aa 6 O (fun V w8=>BM 6 v0 (nth vs 0) fun X=>Ab 6 X V (fun w9=>AW .i64 (nth vs 0) (zI 1) fun Y=>AW .i64 (nth vs 1) (zI 1) fun Z=>i [Y,Z] w9) w8) w7) (AW .i64 (nth vs 1) (zI 1) fun m=>i [(nth vs 0),m] w7)) w6) w5) w4) w3) w2) (runK prog (Instr.sliceAt 81 v0 (some (nth vs 0)) none none) (fun a1 a6=>runK prog (Builtin.clear_ #[81] 0 [a1].toArray) (fun _u a7=>runK prog (Instr.sliceAt 81 v0 none (some (nth vs 0)) none) (fun a8 ak=>K a8 ak) a7) a6) w2)) w1)) w):AB prog 128 [v0,v1] K w:=cO (aN (aN (aO (aN (aO aE .nil)) (aO (aN (.node [5,6] [(5,7),(16,35)] (aO (aN aE) (aO (aN (aN (aO aE .nil))) .nil)) .nil)) (aN aE))))) func128 h (by kernel_rfl)
def aW(h: Ac v0 fun J=>Ap [(zI 0)] (fun vs i B=>∀_:Env,BU .i64 (nth vs 0) J fun t9=>AD t9 (BM 6 v0 (nth vs 0) fun j=>Aa 6 j (fun m w2=>Bi prog Cq v1 [m] (fun o I=>AD o (K (nth vs 0) I) (AW .i64 (nth vs 0) (zI 1) fun q=>i [q] I)) w2) B) (K (zI (-1)) B)) w):AB prog 202 [v0,v1] K w:=cO (aN (aO (aN (.node [8] [(4,5),(8,18)] (aN (aO aE (aO (aN (aN (aO aE .nil))) .nil))) .nil)) aE)) func202 h (by kernel_rfl)
def Zi(h: BP 45 v1 (fun t4 U=>Al 45 [(.int .i32 0),(.slice none 0 0)] (fun Q w2=>Au [9,10,12] [[],[0],[],[2],[],[],[],[6],[6,7],[4,5,6,7,8],[2,3,4,5,6,7,8,9],[0,1,2,3,4,5,6,7,8,9,10],[0,1,2,3,4,5,6,7,8,9,10,11]] w2.drew (fun M i=>AM 0 t4 fun V=>As (i 1) V fun X=>AM 1 t4 fun t9=>As (i 3) t9 fun j=>AM 0 t4 fun m=>As (i 7) m fun o=>Cu .i32 o (.int .i32 10) fun q=>AB prog 70 [v0,v2,q] (fun B I=>Mod (M 9) w2.drew I/\ AB prog 156 [j,B] (fun J w4=>Mod (M 10) I w4/\ Ai [(0,1),(1,1)] [(.int .i32 0),(.slice none 0 0)] [(0,X),(1,J)] fun O=>Ab 2 Q O (fun T=>Mod (M 12) w4 T/\ Aa 2 Q (fun Y Z=>K Y Z) T) w4) I) w2.drew)) U) w):AB prog 199 [v0,v1,v2] K w:=cO (aN (aO (.dc [9,10,12] [[],[0],[],[2],[],[],[],[6],[6,7],[4,5,6,7,8],[2,3,4,5,6,7,8,9],(aR 11),(aR 12)] [[9,10]]) .nil)) func199 h (by kernel_rfl)
end
def RC{t e k:Nat}{i:TypeInfo}{a:Option Addr}{n c l h m:Nat}(ht:P.underlying t=some (.slice e))(hi:P.info? e=some i)(hk:i.size=k)(h1:l<=h)(o:h<=m)(q:m<=c)(w:World) :
  (Instr.sliceAt t (.slice a n c) (some (zI l)) (some (zI h)) (some (zI m))).run P w=.ok (sliced a l h m k) w:=by
 have j:P.elem t=e:=by simp[Program.elem,ht]
 rw[nS _ _ _ _ _ _ (by rw[j];exact ht),run_slice_lhm _ _ _ _ _ (by rw[j];exact ht) _ _ _ _ _ _ (by omega) (by omega) (by omega) (by omega),j];simp[sizeOf,typeInfo,hi,hk]
def jq(i:Value)(k:Nat):Value:=match i with
 |.slice a n _=>sliced a (32*k) (min (32*k+32) n) (min (32*k+32) n) 1
 |_=>undef
def gX{o:Value}{l:List Int}{k:Nat}(h:BB S 1 Bz W o l)(hk:32*k<l.length):BB S 1 Bz W (jq o k) ((l.drop (32*k)).take 32):=by
 obtain⟨a,c,rfl,h1,J,q⟩:=h;have i:((l.drop (32*k)).take 32).length=min (32*k+32) l.length-32*k:=by rw[Lc,I3];omega
 refine⟨_,_,by rw[i];rfl,by rw[i];omega,by omega,fun m x j=>?_⟩;rw[mE] at j;split at j
 .rw[ly] at j;obtain⟨p,r,rfl,B,hr,hc,I⟩:=q _ x j;rw[Bq (by omega)];refine⟨p.add (32*k*1),r,rfl,by rw[BJ];exact B,hr,fun y u hu=>?_,I⟩;rw[Addr.add_add,<-mL,<-lO];exact hc y u hu
 .cases j
def Zg{B:Value}{l:List Int}(h1:Bx W N [B])(I:Bx W E [zI 32])(ho:BB S 1 Bz W B l)(hl:l.length<=1099511627776) :
  Jy True prog 223 [.pointer (some ⟨N,0,none⟩),.pointer (some ⟨E,0,none⟩)] (fun k=>[jq B k]) ((l.length+31)/32) (fun b=>b=N\/b=E) W:=by
 intro yl J Jx w1 hg h0 O V Ir j;apply Ye;obtain⟨a,c,rfl,q1,q2,q3⟩:=ho;have l1:=h1.lt (S3 _);have l2:=I.lt (S3 _);have ht:=underlying80;obtain⟨ti,hi,X⟩:∃i,prog.info? 21=some i/\i.size=1:=⟨Tryz.t21,by kernel_rfl,by rfl⟩;refine AX (fun vs o=>∃k:Nat,k<=(l.length+31)/32/\vs=[zI ((32*k:Nat):Int)]/\J k (fun _=>False) o) (fun vs _=>l.length+32-De vs 0) ⟨0,Nn _,rfl,h0⟩ ?_;rintro vs o ⟨k,hk,rfl,hJ⟩ _;rw[Bl,Nr];have cell:∀{Y:World} {k:Nat} {b:Nat} {v:Value},J k (fun _=>False) Y->(b=N\/b=E)->W.cell? ⟨b,0,none⟩=some v->Y.cell? ⟨b,0,none⟩=some v:=fun Q hb hc=>by
  rw[<-hc];exact lz (Ir _ _ _ Q _ (by rcases hb with rfl|rfl<;>omega) hb)
 refine AL (cell hJ (.inl rfl) (h1.cells 0 _ rfl)) ?_;rw[AP,Am];refine AF (fun a1=>?_) fun a6=>?_;rotate_left
 .obtain rfl:k=(l.length+31)/32:=by omega
  exact⟨_,.inl hJ⟩
 have Z:32*k<l.length:=by omega
 have gd:Grow o o.drew:=Mod.drew _ _;have m:J k (fun _=>False) o.drew:=O k _ _ _ _ hJ (gd.mono fun _ _ h=>h.elim) fun b hb=>hb.elim;refine Af (fun _ _=>False) ?_;refine AU ⟨cell m (.inr rfl) (I.cells 0 _ rfl),fun _ _ e=>e⟩ ?_;refine AU ⟨cell m (.inl rfl) (h1.cells 0 _ rfl),fun _ _ e=>e⟩ ?_;refine Ae (Er ht hi X (by omega) _) ⟨Mod.refl _ _,?_⟩;unfold sliced;rw[AP,HU];have e1:(if((l.length-32*k:Nat):Int)<(32:Int) then((l.length-32*k:Nat):Int) else(32:Int))=((min 32 (l.length-32*k):Nat):Int):=by split<;>omega
 rw[e1];refine AL (cell m (.inl rfl) (h1.cells 0 _ rfl)) ?_;refine CJ (by omega) (CJ (by omega) ?_);refine Ae (RC ht hi X (by omega) (Mp _) (by omega) _) ?_;refine .inr ⟨yl,rfl,?_⟩;have T:=j k _ o.drew (by omega) m;have e2:32*k+min 32 (l.length-32*k)=min (32*k+32) l.length:=by omega
 rw[e2];refine FJ T ?_;rintro vv W3 ⟨a7,U,_,⟨rfl,q⟩|⟨rfl,O0⟩⟩
 .rw[An];refine AS ?_;refine AL (cell q (.inr rfl) (I.cells 0 _ rfl)) ?_;rw[AQ,wrap64 (by omega) (by omega)];refine⟨⟨k+1,by omega,?_,q⟩,?_⟩
  .congr 2
  .rw[CH,CH];omega
 .rw[An];exact Ak ⟨_,.inr O0⟩
def YM{r:Int}(h:Dz r):AB prog 226 [.int .i32 r] (fun v' w'=>v'=.bool true/\w'=w) w:=by
 apply az;unfold Dz at h;rw[DW];refine AF (fun _=>?_) fun e=>by omega
 rw[IG];refine AF (fun _=>?_) fun e=>by omega
 rw[Am];refine AF (fun _=>⟨rfl,rfl⟩) fun e=>?_;rw[BL];exact⟨by rw[lH (by omega)],rfl⟩
def bw{l:List Int}(h:BB S 1 Bz w v l)(hm:∀r∈l,Dz r) :
  AB prog 224 [v,.func (.func 225) #[] #[]] (fun v' w'=>v'=.bool false/\w'=w) w:=by
 apply Sw;refine AA (K:=fun v' w'=>v'=zI (-1)/\w'=w) ?_ ?_
 .apply Sa;obtain⟨a,c,rfl,m⟩:=h.shape;simp only[maxLen] at m;rw[AP];refine AX (fun vs W=>∃i:Nat,i<=l.length/\vs=[zI i]/\W=w) (fun vs _=>l.length-De vs 0) ⟨0,Nn _,rfl,rfl⟩ ?_;rintro vs _ ⟨i,hi,rfl,rfl⟩ _;rename World=>w
  rw[Bl,Nr,Am];refine AF (fun o=>?_) fun B=>⟨rfl,rfl⟩;have j:i<l.length:=by omega
  obtain⟨q,r,rfl,_,hr,hc,rfl⟩:=h.get j;refine AT j (AL (by have:=hc 0 _ rfl;exact this) ?_);refine Gu (by kernel_rfl) ?_;apply YR;refine AA (YM (hm _ (WJ j))) ?_;rintro _ _ ⟨rfl,rfl⟩;rename World=>w
  rw[An];refine AS ?_;rw[AQ,AO (by omega)];exact⟨⟨i+1,j,rfl,rfl⟩,by rw[CH,CH];omega⟩
 .rintro _ _ ⟨rfl,rfl⟩;rw[DW];exact⟨rfl,rfl⟩
def iS{l:List Int}(h:BB S 1 Bz w v l)(hl:l.length<=32)(hm:∀r∈l,Dz r) :
  AB prog 149 [v] (fun v' w'=>v'=.tuple #[.agg (Ck.cells ⟨l,hl⟩).toArray,zI 0]/\Grow w w') w:=by
 apply ZT;refine Bx.zero fun Y w1 ax Z B2=>?_;have h1:=h.grow Z (by decide) fun _ _ h=>h;refine AA (bw h1 hm) ?_;rintro _ _ ⟨rfl,rfl⟩;rename World=>w1
 refine AS ?_;obtain⟨a,c,rfl,hx⟩:=h1.shape;rw[AP,BL];refine AF (fun e=>by omega) fun _=>?_;refine Bx.zero fun b4 o ay V B4=>?_;have C2:Bx o Y Ck.nil.cells:=B2.grow V;have C4:Bx o b4 Ck.nil.cells:=B4;have l2:=C2.lt (by rw[Ck.len];omega);have l4:=C4.lt (by rw[Ck.len];omega);have z1:=Z.size;have z7:=V.size;have av:=B2.lt (by decide);have hu:=underlying80;have hs:(prog.info? 21).map (·.size)=some 1:=by kernel_rfl
 have h7:=h1.grow V (by decide) fun _ _ h=>h;rw[AG,AH];refine Mj ?_;have fin:∀B,Bx B b4 (I7 Ck.nil.cells 0 (l.map (Value.int .i32)))->Mod (fun x=>x=b4) o B->(AM 32 (.pointer (some ⟨b4,0,none⟩)) fun a1=>Av a1 (zI (l.length:Int)) (fun I=>Aa 33 (.pointer (some ⟨b4,0,none⟩)) (fun a6 a7=>Ab 33 (.pointer (some ⟨Y,0,none⟩)) a6 (fun J=>Aa 33 (.pointer (some ⟨Y,0,none⟩)) (fun O a8=>(fun(v':Value) (w':World)=>v'=Value.tuple #[.agg (Ck.cells ⟨l,hl⟩).toArray,zI 0]/\Grow w w') (Value.tuple #[O,(zI 0)]) a8) J) a7) I) B):=fun B D4 X=>by
  rw[AG,AH];refine D4.st (q:=32) (by rw[LS,Ck.len];omega) rfl rfl fun I E4 Q=>?_;rw[Ck.WK hl] at E4;refine E4.E0 (Ck.len _) ?_;refine((C2.mod X fun e=>by omega).mod Q fun e=>by omega).over (Ck.len _) (Ck.len _) (Ck.one _) fun J F2 ak=>?_;refine F2.E0 (Ck.len _) ⟨rfl,?_⟩;exact(((Z.trans V).next X fun y hy e=>by omega).next Q fun y hy e=>by omega).next ak fun y hy e=>by omega
 have T:(l.map (Value.int .i32)).length=min l.length 32:=by rw[Iq];omega
 by_cases m:l=[]
 .have hn:=run_copy_none o 80 80 3 21 (some ⟨b4,0,none⟩) a 32 32 l.length c hu hs (by rw[m];rfl);have al:Bx o b4 (I7 Ck.nil.cells 0 (l.map (Value.int .i32))):=by rw[m];exact C4
  have e0:(goInt 0:Value)=zI (l.length:Int):=by rw[m];rfl
  rw[e0] at hn;exact Ae hn (fin o al (Mod.refl _ _))
 .have U:0<l.length:=lh.2 m;obtain⟨p,r',rfl,_,_,_,_⟩:=h7.get (i:=0) U;refine C4.copy hu hs (us:=l.map (Value.int .i32)) T (.inr (by rw[Iq,Ck.len];omega)) (fun j v hv=>?_) (PT _) fun B D4 X=>?_
  .obtain⟨hj,rfl⟩:=Ad.1 hv;rw[Iq] at hj;obtain⟨p',r2,ep,_,b0,an,rfl⟩:=h7.get hj;cases ep;have:=an 0 _ rfl;rw[mS];simpa using this
  .rw[Iq];exact fin B D4 X
def piece(rs:List Int)(k:Nat):Ck:=⟨(rs.drop (32*k)).take 32,by rw[Lc];omega⟩
def pieces(rs:List Int):List Ck:=(List.range ((rs.length+31)/32)).map (piece rs)
def Mo(rs:List Int):(pieces rs).length=(rs.length+31)/32:=by simp[pieces]
def Q3(rs:List Int){k:Nat}(h:k<(pieces rs).length):(pieces rs)[k]=piece rs k:=by simp[pieces]
def Q6(rs:List Int):Bg (pieces rs)=rs:=by
 have key:∀n,Bg ((List.range n).map (piece rs))=rs.take (32*n):=by
  intro n;induction n with
  |zero=>simp[Bg]
  |succ n i=>
   rw[List.range_succ,Ty,Bg,mH];have j:List.flatMap Ck.l ((List.range n).map (piece rs))=rs.take (32*n):=i;rw[j];have m:List.flatMap Ck.l ([n].map (piece rs))=(rs.drop (32*n)).take 32:=by simp[piece]
   rw[m,show 32*(n+1)=32*n+32 by omega,List.take_add]
 rw[pieces,key,mJ (by omega)]
def UT{b bt N i:Nat}{l:List Ck}(h:Di Az.toAvT F GJ W b bt l N)(hN:N<=100000000000)(hi:i<=(Bg l).length)(hs:(Bg l).length+rs.length<=536870912)(hv:BB S 1 Bz W v rs)(hm:∀r∈rs,Dz r) :
  AB prog 77 [.pointer (some ⟨b,0,none⟩),zI (i:Int),v] (fun v' w'=>v'=zI 0/\∃F' l',(∀x,F x->F' x)/\(∀x,F' x->F x\/W.heap.size<=x)/\Di Az.toAvT F' GJ w' b bt l' (N+(pieces rs).length+4)/\Bg l'=(Bg l).take i++rs++(Bg l).drop i/\Mod F W w') W:=by
 apply iC;have hF:=h.lt;refine Bx.zero fun c6 w1 cx g1 B6=>?_;refine DS (AS ?_);refine Bx.zero fun T w4 da g4 B7=>?_;have l6:=B6.lt (by decide);have l7:=B7.lt (by decide);have z1:=g1.size;have z4:=g4.size;have b8:=hv.GN (by decide);refine AA (K:=fun v' w'=>∃d1 d2,v'=.func (.func 223) #[] #[.pointer (some ⟨d1,0,none⟩),.pointer (some ⟨d2,0,none⟩)]/\w4.heap.size<=d1/\w4.heap.size<=d2/\Bx w' d1 [v]/\Bx w' d2 [zI 32]/\Grow w4 w') ?_ ?_
 .apply bY;obtain⟨a,c,rfl,o⟩:=hv.shape;refine D8 rfl fun d1 B ba g5 D1=>?_;refine D8 rfl fun d2 w6 bb g6 D2=>?_;have z5:=g5.size;refine AL (D2.cells 0 _ rfl) ?_;rw[Am];refine AF (fun e=>by omega) fun _=>?_;exact⟨d1,d2,rfl,by omega,by omega,D1.grow g6,D2,g5.trans g6⟩
 rintro _ B ⟨d1,d2,rfl,ba,bb,D1,D2,g5⟩;have z5:=g5.size;have a1:=(g1.trans g4).trans g5;have av:=b8.grow a1 (by decide) fun _ _ h=>h;have dk:=D1.lt (S3 _);have dT:=D2.lt (S3 _);have C7:=B7.grow g5;have bc:=Mo rs;refine Hr ⟨True,_,[.pointer (some ⟨d1,0,none⟩),.pointer (some ⟨d2,0,none⟩)],_,_,_,rfl,by kernel_rfl,Zg D1 D2 av (by omega),fun k _=>rfl,?_⟩;refine⟨fun k U W'=>∃out,XM 162 33 (fun _ r x=>r=Ck.cells x) B.heap.size T B.heap.size U W' out ((pieces rs).take k)/\Mod (fun x=>x=T) B W'/\k<=(pieces rs).length,fun _ _ _=>False,⟨_,⟨C7,AE.nil,fun g O=>nomatch O⟩,Mod.refl _ _,Nn _⟩,?_,fun x U bd W W' h=>h.elim,?_,?_,?_,fun x U W h=>h.elim⟩
 .rintro k U bd W' e1 ⟨out,q,m,hk⟩ hm J;have hn:∀x,x<B.heap.size->¬((¬True/\U x)\/x=B.heap.size\/x=B.heap.size+1):=fun x o=>by rintro(⟨h,_⟩|h|h);exact h trivial;all_goals omega
  refine⟨out,⟨q.box.mod hm (hn T (by omega)),AE.mod q.row hm (fun g O=>?_) fun _ _ _ h=>h,fun g O=>?_⟩,m.next hm fun x o=>?_,hk⟩
  .obtain⟨_,h2,h3,_⟩:=q.hc g O;rintro(⟨h,_⟩|h|h)
   .exact h trivial
   .exact h2 h
   .exact h3 h
  .obtain⟨h1,h2,h3,h4⟩:=q.hc g O;refine⟨h1,h2,h3,fun h=>?_⟩;rcases(J g h).1 with h|h
   .exact h4 h
   .have:=(AE.Ax q.row g O).2;omega
  .intro e;exact absurd e (hn x o)
 .rintro k U W' ⟨out,q,m,hk⟩ b hb hr;exact m.same b hb fun e=>by rcases hr with hr|hr<;>omega
 .rintro k U W' hk ⟨out,q,m,e2⟩ hz J;have ax:32*k<rs.length:=by omega
  have V:k<(pieces rs).length:=by omega
  refine KV (Mod.refl (fun _=>False) _) hz J (fun _ _ h=>h.elim) fun W6 Q=>?_;have e3:=Q.size;have cv:=q.box.lt (S3 _);have C6:=q.box.mod Q (by omega);have o6:AE B.heap.size 162 33 (fun _ r x=>r=Ck.cells x) W6 out ((pieces rs).take k):=AE.mod q.row Q (fun g O=>(q.hc g O).2.2.1) fun _ _ _ h=>h;have ay:BB (fun b=>S b/\b<W.heap.size) 1 Bz W' v rs:=BB.mono av (fun _ _ h=>h) (fun b hb hS=>m.same b hb fun e=>by have:=hS.2;omega) (by decide) fun _ _ h=>h;have bk:BB (fun b=>S b/\b<W.heap.size) 1 Bz W6 v rs:=BB.mono ay (fun _ _ h=>h) (fun b hb hS=>Q.same b hb fun e=>by have:=hS.2;omega) (by decide) fun _ _ h=>h;refine AA (iS (gX bk ax) (piece rs k).le fun r hr=>hm r (iV (i7 hr))) ?_;rintro _ w8 ⟨rfl,g8⟩;refine BO ?_;have z8:=g8.size;show Al _ _ (fun t9 w9=>Ab 33 t9 (.agg (piece rs k).cells.toArray) _ w9) w8;refine Bx.new (vs:=(piece rs k).cells) (Ck.len _) rfl (Ck.one _) fun b9 W9 e4 g9 B9=>?_;have z9:=g9.size;refine Nh ?_;have C9:=(C6.grow g8).grow g9;have o9:AE B.heap.size 162 33 (fun _ r x=>r=Ck.cells x) W9 out ((pieces rs).take k):=AE.mod (AE.mod (R':=fun _ r x=>r=Ck.cells x) o6 g8 (fun _ _ h=>h) fun _ _ _ h=>h) g9 (fun _ _ h=>h) fun _ _ _ h=>h;have bl:=B9.lt (by rw[Ck.len];omega);refine AL (C9.cells 0 _ rfl) ?_;refine B9.E0 (Ck.len _) ?_;have e5:((pieces rs).take k).length<=rs.length:=by rw[Lc];omega
  refine Da Az.elE o9 (by omega) (cs:=(piece rs k).cells) (x:=piece rs k) (DC (v:=.agg (piece rs k).cells.toArray) rfl (by decide) rfl (Ck.len _)) (Ck.len _) rfl (fun _ _ _ h=>by subst h;exact Ck.one _) (fun _ _ _ _ _ _ h=>h) (by show _*136<=_;omega) (by simp only[maxLen];omega) fun b0 e6 b1 a6 b2=>?_;have e7:=a6.size;have e8:=AE.Ax o9;have bn:=C9.mod a6 fun e=>(q.hc T e).1 rfl;obtain⟨bp,bs⟩:=b1.one;refine bn.st (q:=0) (show 0<1 by decide) bp bs fun bx c4 a7=>?_;have e9:=a7.size;have X:Mod (fun x=>x=T\/out.ownBlock=some x) W6 bx:=(((g8.trans g9).mono fun _ _ h=>h.elim).trans (a6.mono fun _ _ e=>.inr e)).trans (a7.mono fun _ _ e=>.inl e);refine⟨NZ X (by omega) (fun b hb=>by have:=(J b hb).1;omega) (fun b _ e=>?_),b0,⟨c4,?_,fun g O=>?_⟩,?_,by omega⟩
  .rcases e with rfl|e
   .exact⟨fun h=>by have:=(J b h).2;omega,by omega,by omega⟩
   .obtain⟨h1,h2,h3,h4⟩:=q.hc b e;exact⟨h4,h2,h3⟩
  .have c8:(pieces rs).take (k+1)=(pieces rs).take k++[piece rs k]:=by rw[No,By V,Q3 rs V];rfl
   rw [c8];exact AE.mod b1 a7 (fun g O e=>by
    rcases b2 g O with h|h
    .exact(q.hc g h).1 e
    .omega) fun _ _ _ h=>h
  .rcases b2 g O with h|h
   .exact q.hc g h
   .refine⟨by omega,by omega,by omega,fun hI=>by have:=(J g hI).1;omega⟩
  .refine(m.next Q fun x o e=>by omega).next X fun x o e=>?_;rcases e with e|e
   .exact e
   .have:=(AE.Ax q.row x e).1;omega
 .rintro U W' ⟨out,q,m,hk⟩ _ hz hd;rw[<-bc,PF] at q;have gW:Mod (fun x=>x=T) B W':=m;have Y:¬F T:=fun e=>by have:=hF T (.inl e);omega
  have h5:Di Az.toAvT F GJ W' b bt l N:=(h.grow a1).mod m fun x o e=>by
   rcases o with o|o
   .exact Y (e▸o)
   .exact o
  have zW:=m.size;refine AA (Jg Em h5) ?_;rintro _ ea ⟨rfl,b6⟩;rw[show Tr.sz Az.toAvT.k.μ l=(Bg l).length from Gf l,JS (Mp _) hi,Bk];refine AY (fun _=>?_) fun e=>(e rfl).elim;obtain⟨a,c,rfl,o⟩:=hv.shape;rw[AP];refine AA (XJ (h5.grow b6)) ?_;rintro _ a8 ⟨rfl,c9⟩;rw[Aq,wrap64 (by omega) (by omega),BL];refine AF (fun e=>by omega) fun _=>?_;have gd:Grow a8 a8.drew:=Mod.drew _ _;have I:=(b6.trans c9).trans gd;have hO:=h5.grow I;have q2:=q.box.grow I;have o2:AE B.heap.size 162 33 (fun _ r x=>r=Ck.cells x) a8.drew out (pieces rs):=AE.mod q.row I (fun _ _ h=>h) fun _ _ _ h=>h;have zd:=I.size;refine Af (fun k y=>k=5/\F y) ?_;refine AA (ER Em hO) ?_;rintro _ ec ⟨rfl,ca⟩;subst ca;refine⟨Mod.refl _ _,AU ⟨q2.cells 0 _ rfl,fun j hj e=>Y e.2⟩ ?_⟩;have er:=PQ l (pieces rs) (Mp i);have ep:=NS l (pieces rs) i i;rw[Q6] at er ep;have cc:(Bg (Ck.kd.CB l i i (pieces rs))).length<=1099511627776:=by rw[er];simp only[Bp,Lc,I3];omega
  refine AA (Iz (Xn (g:=Az)) (L:=pieces rs) hO (by omega) o2.sl (fun x o cd=>by have:=hF x (.inl cd);have:=o.1;omega) (Mp i) (by omega) (ND (by omega)) (ND (l:=Ck.kd.CB l i i (pieces rs)) cc) (ND (l:=(Ck.kd.split l i).1.getLast?.toList++pieces rs++(Ck.kd.split (Ck.kd.split l i).2 (i-i)).2.head?.toList) (by omega))) ?_;rintro _ ch ⟨F',k1,k2,k3,k4⟩;refine⟨k4.mono fun _ _ e=>⟨rfl,e⟩,?_⟩;have ed:=k4.size;have Z:¬F c6:=fun e=>by have:=hF c6 (.inl e);omega
  have D6:Bx ch c6 [zI 0]:=((((B6.grow g4).grow g5).mod m (by omega)).grow I).mod k4 Z;refine D6.st (q:=0) (show 0<1 by decide) rfl rfl fun b7 E6 ak=>?_;have al:¬F' c6:=fun e=>by
   rcases k2 c6 e with h|h
   .exact Z h
   .omega
  have cn:∀x,B.heap.size<=x->x<B.heap.size+1->¬F' x:=fun x o ee e=>by
   rcases k2 x e with h|h
   .have:=hF x (.inl h);omega
   .omega
  refine⟨?_,?_⟩
  .rw[ak.same _ (by omega) (by omega),k4.same _ (by omega) fun e=>by have:=hF _ (.inl e);omega,I.same _ (by omega) fun h=>h];exact hd
  have an:Mod (fun b=>b=B.heap.size) b7 (b7.putObj B.heap.size (.deferred none)):=Mod.putObj _ _ _ rfl;refine AL ((E6.mod an (by omega)).cells 0 _ rfl) ⟨rfl,F',_,k1,fun x o=>(k2 x o).imp (fun h=>h) fun h=>by omega,((k3.mod ak fun x o e=>by
    rcases o with o|o
    .exact al (e▸o)
    .exact o).mod an fun x o e=>by
    rcases o with o|o
    .exact cn x (by omega) (by omega) o
    .exact o),er,?_⟩
  exact((((a1.next m fun x o e=>by omega).trans I).mono fun _ _ h=>h.elim).trans k4 |>.next ak fun x o e=>by omega).next an fun x o e=>by omega
def LW:Kd Nat where
 μ:=fun _=>(1,0)
 cut:=fun x _=>(x,x)
 meld:=fun _ _=>none
def Lp(q:Nat)(l:List Nat)(i j:Nat):LW.over (q::l) i j=(if i<min j 1 then[q] else[])++LW.over l (i-1) (j-1):=by
 have e:∀p,LW.part q i p=q:=fun p=>by unfold Kd.part LW;simp only;split<;>split<;>rfl
 simp only[Kd.over,e];rfl
def Sl(W:World)(b E i:Nat):Value:=match W.cell? ⟨b,3,none⟩ with
 |some (.pointer (some c))=>match W.cell? c with
  |some (.slice (some p) _ _)=>(W.cell? (p.add (i*(E+6)))).getD undef
  |_=>undef
 |_=>undef
section
variable {α:Type}{g:AvT α}
def RG{b i:Nat}{A:ArS α}{n:Nd α}(h:Dj g F C W b most A)(hi:A.f i=some n) :
  ∃(c:Nat) (p:Addr) (m k:Nat),W.cell? ⟨b,3,none⟩=some (.pointer (some ⟨c,0,none⟩))/\W.cell? ⟨c,0,none⟩=some (.slice (some p) m k)/\F b/\F c/\F p.block/\(∃r,g.R C W r n.x/\∀j u,(r++(BV n++[.bool true]))[j]?=some u->W.cell? (p.add (i*(g.E+6)+j))=some u):=by
 obtain⟨c,pl,fr,B⟩:=h;obtain⟨Q,hp⟩:=ArS.Iu hi;have T:=(Ad.1 hp).2;obtain⟨Y,Z,I,_⟩:=B.ar.GH.sl.shape;have J:=B.ar.GH.sl;rw[I] at J;obtain⟨q,r,rfl,V,hr,hc,O⟩:=J.get Q;rw[T] at O;obtain⟨x,rfl,X⟩:=O;have o:=B.ar.cells 0 pl rfl;rw[I] at o;exact⟨c,q,_,_,B.box.cells 3 _ rfl,o,B.fb.1,B.ar.fc.1,(B.ar.pF q.block (by rw[I];exact V.2)).1.1,x,X,hc⟩
def eZ{b i:Nat}{o:Int}{A:ArS α}{n:Nd α}(h:Dj g F C w b o A)(hi:A.f i=some n)(j:∀x,F x\/C x->W.heap[x]?=w.heap[x]?):Sl W b g.E i=Sl w b g.E i:=by
 obtain⟨c,p,m,k,h1,q,B,I,J,_⟩:=RG h hi;have O:W.cell? ⟨b,3,none⟩=w.cell? ⟨b,3,none⟩:=lz (j b (.inl B));have Q:W.cell? ⟨c,0,none⟩=w.cell? ⟨c,0,none⟩:=lz (j c (.inl I));have T:W.cell? (p.add (i*(g.E+6)))=w.cell? (p.add (i*(g.E+6))):=lz (by rw[BJ];exact j _ (.inl J));simp only[Sl,O,h1,Q,q,T]
end
section
variable {α:Type}{g:Av1 α}
def aG{b i:Nat}{A:ArS α}{n:Nd α}{K:Value->World->Prop}(h:Dj g.toAvT F C W b most A)(hi:A.f i=some n)
 (hK:∀r O w',Grow W w'->W.heap.size<=O->Bx w' O (r++BV n)->g.R C w' r n.x->r=[Sl W b g.E i]->K (.pointer (some ⟨O,0,none⟩)) w') :
  AB prog g.fat [.pointer (some ⟨b,0,none⟩),zI i] (fun Q Z=>Al g.tn g.toAvK.zN (fun t7 w2=>Ab (g.E+5) t7 Q (fun w3=>K t7 w3) w2) Z) W:=by
 have key:AB prog g.fat [.pointer (some ⟨b,0,none⟩),zI i] (fun v' w'=>∃r,v'=.agg (r++BV n).toArray/\g.R C w' r n.x/\Grow W w'/\r=[Sl W b g.E i]) W:=by
  apply g.ok.at_;unfold jh;refine Bx.zero fun b4 Z a1 q B4=>?_;obtain⟨c,pl,fr,j⟩:=h;have B:=j.mod q fun _ _ h=>h;refine AI ?_;refine Bh (B.box.cells 3 _ rfl) ?_;refine AA (SR B.ar hi) ?_;rintro _ w2 ⟨r,rfl,hr,g2,p,m,k,I,o⟩;refine BO ?_;have hl:=BI n hr;have ho:=HX n hr;refine Bx.new hl H9 ho fun b5 w3 a6 T B5=>?_;refine B5.E0 hl ?_;have U:=(B4.grow g2).grow T;refine U.over hl (H9) ho fun w4 J m4=>?_;refine J.E0 hl ?_;have V:Grow W w4:=((q.trans g2).trans T).next m4 fun y hy e=>by omega
  refine⟨r,rfl,g.BZ (g.BZ hr T fun _ _ _ h=>h) m4 fun y _ hy e=>by have:=j.ar.lt y (.inr hy);omega,V,?_⟩;have er:=WS hr;generalize g.toAvK.enc r=a at er;subst er;have e1:=j.box.cells 3 _ rfl;have X:=j.ar.cells 0 pl rfl;rw[I] at X;have e3:=o a rfl;obtain⟨c',p',m',k',q1,q2,f1,f2,f3,_⟩:=RG (g:=g.toAvT) ⟨c,pl,fr,j⟩ hi;rw[e1] at q1;cases q1;rw[X] at q2;cases q2;have e4:W.cell? (p.add (i*(g.E+6)))=some a:=by
   have Y:p.block<W.heap.size:=j.ar.lt _ (.inl (j.ar.pF _ (by rw[I];rfl)).1);rw[<-e3];exact(lz (by rw[BJ];exact q.same _ Y fun h=>h)).symm
  simp only[Sl,e1,X,e4];rfl
 refine AA key ?_;rintro _ w4 ⟨r,rfl,hr,q,hv⟩;refine Bx.new (BI n hr) H9 (HX n hr) fun b7 w5 a7 g7 B7=>?_;exact hK r b7 w5 (q.trans g7) (by have:=q.size;omega) B7 (g.BZ hr g7 fun _ _ _ h=>h) hv
def fQ(t:Tr α):Tr.sz LW.μ t.idx=Tr.sz g.k.μ t.toL:=by
 induction t with
 |nil=>rfl
 |node l i x r h1 j=>rw[Tr.idx,Tr.toL,Tr.CT,Tr.CT,Tr.Bb,Tr.Bb,h1,j,g.μ1];rfl
set_option maxRecDepth 4000 in
def Tp{b l N:Nat}{A:ArS α}{J:Nat->(Nat->Prop)->World->Prop}{Jx:(Nat->Prop)->World->Prop}{V:Nat->List Value}(hw:Dj g.toAvT F C w b most A)(hs:A.ps.length<=109951162777)(H:PH prog l J Jx w (fun x=>F x\/C x) V N) :
  ∀(t:Tr α) (i j Y:Nat) (O:Nat->Prop) (W:World),Tr.Holds g.k.μ A.f t->Dy g.toAvT t.toL->i<=1099511627776->j<=1099511627776->J Y O W->w.heap.size<=W.heap.size->(∀x,O x->x<W.heap.size)->Y+(LW.over t.idx i j).length<=N->(∀m (hm:m<(LW.over t.idx i j).length),V (Y+m)=[Sl w b g.E (LW.over t.idx i j)[m]])->
   AB prog g.fover [.pointer (some ⟨b,0,none⟩),zI t.root,zI (i:Int),zI (j:Int),.func (.yield l) #[] #[]] (P5 J Jx (Y+(LW.over t.idx i j).length) O W) W:=by
 intro t;induction t with
 |nil=>
  intro i j Y O W _ _ _ _ hJ hz an _ _;apply g.ok1.over;unfold Ru;simp only[Tr.root];refine AV (fun _ _=>False) (fun _ _ h=>h.elim) ?_;rw[Aj];refine AF (fun _=>?_) fun e=>(e rfl).elim;exact⟨Mp _,fun _ _=>rfl,⟨rfl,rfl,rfl⟩,O,fun _ h=>h,an,.inl ⟨rfl,hJ⟩⟩
 |node lt q x a8 e5 e6=>
  intro i j Y O W hh hb hi hj hJ hz an hN Q;obtain⟨hl,hr,hq⟩:=id hh;have eL:(Tr.node lt q x a8).toL=lt.toL++x::a8.toL:=rfl;have eI:(Tr.node lt q x a8).idx=lt.idx++q::a8.idx:=rfl;rw[eL] at hb;rw[eI] at hN Q ⊢;have c6:(g.k.μ x).1=1:=by rw[g.μ1]
  have c7:Tr.sz LW.μ lt.idx=Tr.sz g.k.μ lt.toL:=fQ lt;have e7:=hb.1;simp only[Tr.CT,Tr.Bb] at e7;rw[LW.Qj,c7] at hN Q ⊢;apply g.ok1.over;unfold Ru;simp only[Tr.root];refine AV (fun _ W'=>W'=W/\i<j) ?_ ?_;rotate_left
  .rw[Aj];refine AF (fun e=>by omega) fun _=>?_;rw[DW];refine AF (fun e=>?_) fun e=>⟨rfl,by omega⟩;rw[LW.Eb _ (by omega:j<=i),LW.Eb _ (by omega:j-Tr.sz g.k.μ lt.toL<=i-Tr.sz g.k.μ lt.toL)];exact⟨Mp _,fun _ _=>rfl,⟨rfl,rfl,rfl⟩,O,fun _ h=>h,an,.inl ⟨rfl,hJ⟩⟩
  rintro _ W' ⟨rfl,ee⟩ _;rename World=>W
  have EH:∀{k O W'},J k O W'->w.heap.size<=W'.heap.size->Dj g.toAvT F C W' b most A:=fun{k O W'} h1 h2=>hw.heap (fun y o=>H.Ir k O W' h1 y (hw.lt y o) o) h2;refine aG (EH hJ hz) hq fun rc T w4 g4 ec B b8 c8=>?_;have b1:=g.rlen b8;rw[eZ hw hq fun y o=>H.Ir Y O W hJ y (hw.lt y o) o] at c8;have e8:=(EH hJ hz).grow g4;refine Bh (B.cells (g.E+0) _ (by rw[AZ b1];rfl)) ?_;refine AA (CE e8 hl) ?_;rintro _ w6 ⟨rfl,g6⟩;refine Kj ?_;have b9:Grow w6 w6.drew:=Mod.drew _ _;have c9:=(g4.trans g6).trans b9;obtain⟨c,pl,fr,hT⟩:=(EH hJ hz).grow c9;have B6:=(B.grow g6).grow b9;refine Af (fun _ _=>False) ?_;refine AI ?_;rw[AG,AH,AG,AH];refine AU ⟨hT.box.cells 0 _ rfl,fun _ _ e=>e⟩ ?_;rw[AG,AH];refine JK (g:=g.toAvT) (r:=rc) b1 (fun j v hv=>⟨B6.cells j v (by rw[Q0 (Ad.1 hv).1];exact hv),fun _ _ e=>e⟩) ?_;refine Aw (g.meas (C:=C) (x:=x) (g.BZ b8 (g6.trans b9) fun _ _ _ h=>h)) ?_;rintro _ w7 ⟨rfl,g7⟩;refine⟨g7.mono fun _ _ h=>h.elim,?_⟩;refine BO ?_;have ak:=c9.trans g7;have B7:=B6.grow g7;have e4:=B7.lt (by rw[BI _ b8];omega);have ef:=ak.size;have av:∀y,(O y\/y=T)->(O y\/W.heap.size<=y)/\y<w7.heap.size:=fun y o=>by
   rcases o with o|o
   .have:=an y o;exact⟨.inl o,by omega⟩
   .exact⟨.inr (by omega),by omega⟩
  have ca:=H.hJ Y O (fun y=>O y\/y=T) W w7 hJ ak av;have e9:∀y,O y->w7.heap[y]?=W.heap[y]?:=fun y o=>ak.same y (an y o) fun h=>h;obtain⟨Z,ba⟩:∃X,X=LW.over lt.idx i j:=⟨_,rfl⟩;obtain⟨i',bb⟩:∃i',i'=i-Tr.sz g.k.μ lt.toL:=⟨_,rfl⟩;obtain⟨j',b2⟩:∃j',j'=j-Tr.sz g.k.μ lt.toL:=⟨_,rfl⟩;obtain⟨X2,bc⟩:∃X,X=(if i'<min j' (g.k.μ x).1 then[q] else[]):=⟨_,rfl⟩;obtain⟨X3,al⟩:∃X,X=LW.over a8.idx (i'-(g.k.μ x).1) (j'-(g.k.μ x).1):=⟨_,rfl⟩;have eX:LW.over lt.idx i j++LW.over (q::a8.idx) (i-Tr.sz g.k.μ lt.toL) (j-Tr.sz g.k.μ lt.toL)=Z++(X2++X3):=by rw[ba,bc,al,bb,b2,c6,Lp]
  rw[eX] at hN Q ⊢;simp only[Bp] at hN;have bd:∀m (hm:m<Z.length),V (Y+m)=[Sl w b g.E Z[m]]:=fun m hm=>by
   rw[Q m (by simp;omega)];simp[mw hm]
  have bk:∀m (hm:m<X2.length),V (Y+Z.length+m)=[Sl w b g.E X2[m]]:=fun m hm=>by
   have:=Q (Z.length+m) (by simp;omega);rw[mL,this];simp[mU,mw hm]
  have bl:∀m (hm:m<X3.length),V (Y+Z.length+X2.length+m)=[Sl w b g.E X3[m]]:=fun m hm=>by
   have:=Q (Z.length+(X2.length+m)) (by simp;omega);rw[show Y+Z.length+X2.length+m=Y+(Z.length+(X2.length+m)) by omega,this];simp[mU]
  let St:Nat->World->Prop:=fun k W'=>∃I,(∀y,O y->I y)/\I T/\(∀y,I y->y<W'.heap.size)/\J k I W'/\(w7.heap.size<=W'.heap.size/\Quiet w7 W')/\(∀y,O y\/y=T->W'.heap[y]?=w7.heap[y]?)
  have done:∀{k W'} (v:Value) (I:Nat->Prop),(∀y,O y->I y)->(∀y,I y->y<W'.heap.size)->w7.heap.size<=W'.heap.size/\Quiet w7 W'->(∀y,O y->W'.heap[y]?=w7.heap[y]?)->((v=.bool true/\J k I W')\/(v=.bool false/\Jx I W'))->P5 J Jx k O W v W':=fun v I h1 h2 h3 h4 h5=>
   ⟨by omega,fun y o=>(h4 y o).trans (e9 y o),Quiet.trans ⟨ak.os,ak.tape,ak.output⟩ h3.2,I,h1,h2,h5⟩
  refine AV (fun _ W'=>St (Y+Z.length) W') ?_ ?_;rotate_left
  .refine Hj (fun cc=>?_) fun cd=>?_
   .refine Bh (B7.cells (g.E+0) _ (by rw[AZ b1];rfl)) ?_;rw[HU];have em:(if((Tr.sz g.k.μ lt.toL:Nat):Int)<(j:Int) then((Tr.sz g.k.μ lt.toL:Nat):Int) else(j:Int))=((min j (Tr.sz g.k.μ lt.toL):Nat):Int):=by split<;>omega
    rw[em];have a7:LW.over lt.idx i (min j (Tr.sz g.k.μ lt.toL))=Z:=by rw[ba,<-c7,LW.MW]
    refine AA (e5 i (min j (Tr.sz g.k.μ lt.toL)) Y (fun y=>O y\/y=T) w7 hl hb.app.1 hi (by omega) ca (by omega) (fun y o=>(av y o).2) (by rw[a7];omega) (fun m hm=>?_)) ?_
    .have bn:m<Z.length:=by rw[<-a7];exact hm
     rw[bd m bn];simp only[a7]
    rw[a7];rintro v W2 ⟨z1,z2,zq,I,q1,q2,q3⟩;rcases q3 with⟨rfl,bp⟩|⟨rfl,bp⟩
    .rw[An];exact AS ⟨I,fun y o=>q1 y (.inl o),q1 T (.inr rfl),q2,bp,⟨z1,zq⟩,z2⟩
    .rw[An];exact Ak (done (.bool false) I (fun y o=>q1 y (.inl o)) q2 ⟨z1,zq⟩ (fun y o=>z2 y (.inl o)) (.inr ⟨rfl,bp⟩))
   .have e0:Z=[]:=by rw[ba];exact Na LW lt.idx j (by omega)
    rw[e0];exact⟨fun y=>O y\/y=T,fun y o=>.inl o,.inr rfl,fun y o=>(av y o).2,ca,⟨Mp _,rfl,rfl,rfl⟩,fun _ _=>rfl⟩
  rintro _ W8 ⟨ax,a1,a2,a3,ch,z8,U⟩ _;have B8:=B7.heap (U T (.inr rfl));rw[Aq,wrap64 (by omega) (by omega),Gj];have ea:(if(0:Int)>(i:Int)-((Tr.sz g.k.μ lt.toL:Nat):Int) then(0:Int) else(i:Int)-((Tr.sz g.k.μ lt.toL:Nat):Int))=(i':Int):=by rw[bb];split<;>omega
  rw[ea,Aq,wrap64 (by omega) (by omega),HU];obtain⟨to,bs⟩:∃to:Int,to=(if(((g.k.μ x).1:Nat):Int)<(j:Int)-((Tr.sz g.k.μ lt.toL:Nat):Int) then(((g.k.μ x).1:Nat):Int) else(j:Int)-((Tr.sz g.k.μ lt.toL:Nat):Int)):=⟨_,rfl⟩;rw[<-bs];have b6:(i':Int)<to↔i'<min j' (g.k.μ x).1:=by rw[bs,b2];split<;>omega
  have cn:i'<min j' (g.k.μ x).1->to=((min j' (g.k.μ x).1:Nat):Int):=fun h=>by rw[bs,b2];split<;>omega
  refine AV (fun _ W'=>St (Y+Z.length+X2.length) W') ?_ ?_
  .rintro _ W9 ⟨cv,c1,c2,c3,cx,z9,a6⟩ _;refine CJ (by omega) ?_;rw[IG];refine AF (fun eh=>?_) fun ej=>?_
   .have e3:X3=[]:=by rw[al];exact LW.Eb _ (by omega)
    rw[e3];simp only[kK,Bp];exact done (.bool true) cv c1 c3 z9 (fun y o=>a6 y (.inl o)) (.inl ⟨rfl,by rw[<-mL];exact cx⟩)
   .have B9:=B7.heap (a6 T (.inr rfl));refine Bh (B9.cells (g.E+1) _ (by rw[AZ b1];rfl)) ?_;rw[Aq,wrap64 (by omega) (by omega),Aq,wrap64 (by omega) (by omega),Gj];have e1:(if(0:Int)>(i:Int)-((Tr.sz g.k.μ lt.toL:Nat):Int)-(((g.k.μ x).1:Nat):Int) then(0:Int) else(i:Int)-((Tr.sz g.k.μ lt.toL:Nat):Int)-(((g.k.μ x).1:Nat):Int))=((i'-(g.k.μ x).1:Nat):Int):=by rw[bb];split<;>omega
    rw[e1,Aq,wrap64 (by omega) (by omega),Aq,wrap64 (by omega) (by omega)];have e2:(j:Int)-((Tr.sz g.k.μ lt.toL:Nat):Int)-(((g.k.μ x).1:Nat):Int)=((j'-(g.k.μ x).1:Nat):Int):=by rw[b2];omega
    rw[e2];refine AA (e6 (i'-(g.k.μ x).1) (j'-(g.k.μ x).1) (Y+Z.length+X2.length) cv W9 hr hb.app.2.cons.1 (by omega) (by omega) cx (by omega) c3 (by rw[<-al];omega) (fun m hm=>?_)) ?_
    .have bn:m<X3.length:=by rw[al];exact hm
     rw[bl m bn];simp only[al]
    rw[<-al];rintro v W2 ⟨u1,u2,uq,I,q1,q2,q3⟩;refine done v I (fun y o=>q1 y (c1 y o)) q2 ⟨by omega,z9.2.trans uq⟩ (fun y o=>(u2 y (c1 y o)).trans (a6 y (.inl o))) ?_;simp only[Bp];rwa [<-mL,<-mL]
  .refine Hj (fun cc=>?_) fun cd=>?_;rotate_left
   .have e2:X2=[]:=by rw[bc,Bq fun e=>cd (b6.2 e)]
    rw[e2];exact⟨ax,a1,a2,a3,ch,z8,U⟩
   have b7:=b6.1 cc;have ek:=cn b7;have e2:X2=[q]:=by rw[bc,DN b7]
   have en:i'=0:=by omega
   have ed:to=1:=by omega
   rw[c8] at B8;refine Bh (B8.cells 0 _ rfl) ?_;refine AV (fun vs W'=>vs=[Sl w b g.E q]/\W'=W8) ?_ ?_;rotate_left
   .rw[Am];exact AF (fun e=>by omega) fun _=>⟨rfl,rfl⟩
   rintro _ _ ⟨rfl,rfl⟩ _;rename World=>W8
   refine AV (fun vs W'=>vs=[Sl w b g.E q]/\W'=W8) ?_ ?_;rotate_left
   .rw[BL];exact AF (fun e=>by omega) fun _=>⟨rfl,rfl⟩
   rintro _ bx ⟨rfl,rfl⟩ _;rename World=>bx
   simp only[Bl,Nr];have eo:=z8.1;refine .inr ⟨l,rfl,?_⟩;have da:X2.length=1:=by rw[e2];rfl
   have ay:=bk 0 (by omega);simp only[lD,e2,qp] at ay;rw[<-ay];refine FJ (H.Z8 _ ax bx (by omega) ch) ?_;rintro v dk ⟨y1,y2,yq,y3⟩;have b0:∀y,ax y->dk.heap[y]?=bx.heap[y]?:=fun y o=>y2 y o;have dT:Quiet w7 dk:=z8.2.trans yq;rcases y3 with⟨rfl,c4⟩|⟨rfl,c4⟩
   .rw[An];refine AS ⟨ax,a1,a2,fun y o=>by have:=a3 y o;omega,by rw[da];exact c4,⟨by omega,dT⟩,fun y o=>?_⟩;exact(b0 y (by rcases o with o|rfl;exact a1 y o;exact a2)).trans (U y o)
   .rw[An];exact Ak (done (.bool false) ax a1 (fun y o=>by have:=a3 y o;omega) ⟨by omega,dT⟩ (fun y o=>(b0 y (a1 y o)).trans (U y (.inl o))) (.inr ⟨rfl,c4⟩))
def Tb:Tr α->List (Nat×α)
 |.nil=>[]
 |.node l i x r=>Tb l++(i,x)::Tb r
def ZO(t:Tr α):(Tb t).map (·.1)=t.idx:=by
 induction t with
 |nil=>rfl
 |node l i x r h1 j=>simp only[Tb,Tr.idx,Ty,kN,h1,j]
def ZY(t:Tr α):(Tb t).map (·.2)=t.toL:=by
 induction t with
 |nil=>rfl
 |node l i x r h1 j=>simp only[Tb,Tr.toL,Ty,kN,h1,j]
def TO{f:Nat->Option (Nd α)}{μ:α->Nat×Nat}{t:Tr α}(h:Tr.Holds μ f t):∀p∈Tb t,∃n,f p.1=some n/\n.x=p.2:=by
 induction t with
 |nil=>intro p hp;simp[Tb] at hp
 |node l i x r h1 j=>
  obtain⟨a,b,c⟩:=h;intro p hp;simp only[Tb,C3,K8] at hp;rcases hp with hp|rfl|hp
  .exact h1 a p hp
  .exact⟨_,c,rfl⟩
  .exact j b p hp
def UD{β:Type}:List β->Nat->Nat->List β
 |[],_,_=>[]
 |x::t,i,j=>(if i<min j 1 then[x] else[])++UD t (i-1) (j-1)
def SN{β m:Type}(f:β->m)(l:List β)(i j:Nat):UD (l.map f) i j=(UD l i j).map f:=by
 induction l generalizing i j with
 |nil=>rfl
 |cons x l o=>simp only[kN,UD,o,Ty];split<;>rfl
def aq(l:List α)(i j:Nat):∀x∈UD l i j,x∈l:=by
 induction l generalizing i j with
 |nil=>intro x m;exact m
 |cons y l o=>
  intro x m;simp only[UD,C3] at m;rcases m with m|m
  .split at m
   .simp at m;simp[m]
   .simp at m
  .exact gi _ (o _ _ x m)
def iO(l:List Nat)(i j:Nat):LW.over l i j=UD l i j:=by
 induction l generalizing i j with
 |nil=>rfl
 |cons x l m=>rw[Lp,m];rfl
def ix(l:List α)(i j:Nat):g.k.over l i j=UD l i j:=by
 induction l generalizing i j with
 |nil=>rfl
 |cons x l m=>
  simp only[Kd.over,UD,m,g.μ1];congr 1
  split
  .rename_i h;have e:g.k.part x i (min j 1)=x:=by unfold Kd.part;rw[g.μ1,Bq (by omega),Bq (by simp only;omega)]
   rw[e]
  .rfl
def bI:VK g.toAvT:=by
 intro F C W b i j A T h hs V hu hb hi hj;apply g.ok.over;unfold Wf;refine D8 rfl fun b3 w1 a1 X Y=>?_;refine D8 rfl fun b4 w2 a6 I Z=>?_;refine D8 rfl fun b5 O a7 B B5=>?_;have o:=(X.trans I).trans B;have q:=h.grow o;have s1:=X.size;have s2:=I.size;have q3:=Y.lt (S3 _);have q4:=Z.lt (S3 _);have q5:=B5.lt (S3 _);have s3:=B.size;have Q:g.k.over T.toL i j=(UD (Tb T) i j).map (·.2):=by rw[ix,<-ZY,SN]
 have eI:LW.over T.idx i j=(UD (Tb T) i j).map (·.1):=by rw[iO,<-ZO,SN]
 refine⟨[.pointer (some ⟨b3,0,none⟩),.pointer (some ⟨b4,0,none⟩),.pointer (some ⟨b5,0,none⟩)],(LW.over T.idx i j).map (Sl O b g.E),_,rfl,o,by rw[Iq,eI,Q,Iq,Iq],fun m m1 m2=>?_,fun x U=>?_,N4 q ((Y.grow I).grow B) (Z.grow B) B5 fun l J Jx w4 g4 H hJ hz=>?_⟩
 .have hm:m<(UD (Tb T) i j).length:=by rw[Q,Iq] at m2;exact m2
  obtain⟨n,hn,U⟩:=TO V _ (aq _ i j _ (WJ hm));obtain⟨c,p,m',k',e1,e2,_,_,_,r,hr,hc⟩:=RG q hn;have er:=WS hr;refine⟨r,?_,?_⟩
  .simp only[mS,eI];have e3:O.cell? (p.add ((UD (Tb T) i j)[m].1*(g.E+6)))=some (g.toAvK.enc r):=by
    have:=hc 0 (g.toAvK.enc r) (by rw[Q0 (by rw[g.rlen hr];exact g.Epos),er];unfold AvK.enc;rw[g.one1];rfl);rwa [lD] at this
   simp only[Sl,e1,e2,e3];rfl
  .simp only[Q,mS,<-U];exact hr
 .rcases U with e|e|e|e|e
  .exact⟨.inl e,q.lt x (.inl e)⟩
  .exact⟨.inr (.inl e),q.lt x (.inr e)⟩
  .exact⟨.inr (.inr (by omega)),by omega⟩
  .exact⟨.inr (.inr (by omega)),by omega⟩
  .exact⟨.inr (.inr (by omega)),by omega⟩
 .have H':PH prog l J Jx O (fun x=>F x\/C x) _ _:=⟨H.hJ,H.O0,fun k It W hJ b hb hr=>H.Ir k It W hJ b hb (hr.elim .inl fun h=>.inr (.inl h)),H.Z8⟩;have key:=Tp q hs H' T i j 0 (fun _=>False) w4 V hb hi hj hJ hz (fun _ h=>h.elim) (by rw[Iq];omega) (fun m hm=>?_)
  .rw[Iq];rw[mG] at key;exact key
  .simp[List.getD,hm]
end
def Se{W0 q:World}{g c:Nat}{L M:List (List Attr)}{call:Value->Cont->World->Prop}{Kend:World->Prop}(a1:M.length=L.length)(hL:L.length<=109951162777)(hg:W0.heap.size<=g)(g1:Grow W0 q)
 (o:AE W0.heap.size 43 1 (Cw F) q (.slice (some ⟨g,0,none⟩) L.length c) L)(a6:∀b,F b->b≠g)
 (O:∀(j:Nat) (h1:j<L.length) (h2:j<M.length) (sv:Value) (W':World) (K:Cont),Mod (fun b=>b=g) q W'->CR F W' sv L[j]->(∀v' w',HY W'.heap.size w' v' M[j]->Grow W' w'->K v' w')->call sv K W')
 (hK:∀w',AE W0.heap.size 43 1 (Cw (fun b=>W0.heap.size<=b/\b≠g)) w' (.slice (some ⟨g,0,none⟩) L.length c) M->Mod (fun b=>b=g) q w'->Kend w') :
  Ap [(zI 0)] (fun vs Q w2=>∀_:Env,
   BU .i64 (nth vs 0) (zI (L.length:Int)) fun a7=>
   AD a7
   (BM 1 (.slice (some ⟨g,0,none⟩) L.length c) (nth vs 0) fun a8=>
   AJ a8 (fun ak w3=>
   call ak (fun al w4=>
   BM 1 (.slice (some ⟨g,0,none⟩) L.length c) (nth vs 0) fun an=>
   Av an al (fun w5=>
   AW .i64 (nth vs 0) (zI 1) fun av=>
   Q [av] w5) w4) w3) w2)
   (Kend w2)) q:=by
 have z1:=g1.size
 let Inv:Nat->World->Prop:=fun i W'=>AE W0.heap.size 43 1 (fun _ _ _=>True) W' (.slice (some ⟨g,0,none⟩) L.length c) L/\Mod (fun b=>b=g) q W'/\
  ∀j (h1:j<L.length) (h2:j<M.length),∃sv,W'.cell? ⟨g,j,none⟩=some sv/\Live W' ⟨g,j,none⟩/\(j<i->CR (fun b=>W0.heap.size<=b/\b≠g) W' sv M[j])/\(i<=j->CR F W' sv L[j])
 have U:Inv 0 q:=by
  refine⟨o.any,Mod.refl _ _,fun j h1 h2=>?_⟩;obtain⟨r,hr,ax,⟨sv,rfl,hs⟩,T⟩:=AE.cellsOf o h1;have e:∀x,j*1+x=j+x:=fun x=>by omega
  refine⟨sv,by have:=ax 0 sv rfl;rwa [e,lD] at this,by have:=T 0 (by decide);rwa [e,lD] at this,fun h=>by omega,fun _=>hs⟩
 refine AX (fun vs W'=>∃i:Nat,i<=L.length/\vs=[zI i]/\Inv i W') (fun vs _=>L.length-De vs 0) ⟨0,Nn _,rfl,U⟩ ?_;rintro vs w2 ⟨i,hi,rfl,oA,mA,rows⟩ _;rw[Bl,Nr,Am];have z2:=mA.size;have bb:g<q.heap.size:=(AE.Ax o g rfl).2;refine AF (fun bc=>?_) fun bd=>?_
 .have m:i<L.length:=by omega
  obtain⟨sv,hc,T,_,ay⟩:=rows i m (by omega);refine AT m ?_;rw[AH,ns];refine AL hc ?_;refine O i m (by omega) sv w2 _ mA (ay (Mp _)) fun v' w4 oS B=>?_;have z4:=B.size;obtain⟨V,b0⟩:=oS.one;refine AT m ?_;rw[AH,ns];refine Live.st (T.mod B fun h=>h) V b0 ?_;have b1:AE W0.heap.size 43 1 (fun _ _ _=>True) w4 (.slice (some ⟨g,0,none⟩) L.length c) L:=AE.mod oA B (fun _ _ h=>h) fun _ _ _ _=>trivial;have X:=AE.Ki b1 m (j:=0) (by decide) V;rw[ns,lD] at X;have m5:=LG w4 g i v';rw[AQ,AO (by omega)];refine⟨⟨i+1,m,rfl,X,(mA.next B fun _ _ h=>h.elim).next m5 fun _ _ e=>e,fun j h1 h2=>?_⟩,by rw[CH,CH];omega⟩;obtain⟨b2,b6,Y,b7,Z⟩:=rows j h1 h2;have I:=B.cell b6 fun h=>h;have J:Live w4 ⟨g,j,none⟩:=Y.mod B fun h=>h;by_cases e:j=i
  .subst e;refine⟨v',kQ w4 _ v' I,J.set _ _,fun _=>?_,fun h=>by omega⟩;refine BB.mono oS.sl (fun b hb h=>⟨by have:=h.1;omega,fun e=>by have:=h.1;omega⟩) (fun b hb h=>m5.same b hb fun e=>by have:=h.1;omega) (by decide) fun r x hx=>hx
  .refine⟨b2,by rw[S4 w4 _ _ v' (by intro e2;simp only[Addr.mk.injEq] at e2;omega)];exact I,J.set _ _,fun h=>?_,fun h=>?_⟩
   .refine BB.mono (b7 (by omega)) (fun b hb h=>h) (fun b hb h=>?_) (by decide) fun r x hx=>hx;exact(m5.same b (by omega) fun e=>h.2 e).trans (B.same b hb fun h=>h)
   .refine BB.mono (Z (by omega)) (fun b hb h=>h) (fun b hb h=>?_) (by decide) fun r x hx=>hx;exact(m5.same b (by omega) fun e=>a6 b h e).trans (B.same b hb fun h=>h)
 .have b8:i=L.length:=by omega
  subst b8;refine hK w2 ?_ mA;refine AE.conv (AE.len oA M a1) fun j hj r b9 Z ba=>?_;obtain⟨sv,hc,_,hd,_⟩:=rows j (by omega) hj;obtain⟨u,rfl⟩:∃u,r=[u]:=List.length_eq_one_iff.1 b9;have:=ba 0 u rfl;rw[ns,lD,hc] at this;cases this;exact⟨_,rfl,hd (by omega)⟩
def Qy{L:List (List Attr)}(h:BB S 1 (Cw C) w v L)(hl:L.length*24<=140737488355328) :
  AB prog 176 [v] (fun v' w'=>AE w.heap.size 43 1 (Cw fun b=>C b/\b<w.heap.size) w' v' L/\Grow w w') w:=by
 apply ZG;have m:BB S 1 (Cw fun b=>C b/\b<w.heap.size) w v L:=BB.mono h (fun _ _ h=>h) (fun _ _ _=>rfl) (by decide) fun r x i=>BF.rsub i fun y j hc=>⟨hc,j⟩;exact IN BF.elE m hl (fun _ _ _ i=>BF.rone i) (fun B w2 r y I hm j=>BF.BZ j hm fun b hb o J=>by have:=o.2;omega) fun v' w' h1 q=>And.intro h1 q
def KL{L:List (List Attr)}(h:BB S 1 (Cw C) w v L)(hl:L.length<=5497558138)(O:∀x∈L,x.length*48<=140737488355328) :
  AB prog 102 [v] (fun v' w'=>AE w.heap.size 43 1 (Cw fun b=>w.heap.size<=b/\v'.ownBlock≠some b) w' v' L/\Grow w w') w:=by
 apply Zh;refine AA (Qy h (by omega)) ?_;rintro v1 J ⟨i,o⟩;obtain⟨Q,c1,rfl,T,U,hp,V⟩:=AE.shape i;rw[AP];cases Q with
 |none=>
  have:=V rfl;subst this;refine AX (fun vs w2=>vs=[zI 0]/\w2=J) (fun _ _=>0) ⟨rfl,rfl⟩ ?_;rintro vs _ ⟨rfl,rfl⟩ _;rename World=>J
  rw[Bl,Nr,Am];exact AF (fun h=>by simp at h) fun _=>⟨AE.mod i (Mod.refl (fun _=>False) _) (fun _ _ h=>h) fun r y q=>by simp at q,o⟩
 |some p1=>
  obtain⟨g,rfl,B,X,_⟩:=hp _ rfl;refine Se (call:=fun sv K W'=>AB prog 52 [sv] K W') (Kend:=fun w2=>AE w.heap.size 43 1 (Cw fun b=>w.heap.size<=b/\(Value.slice (some ⟨g,0,none⟩) L.length c1).ownBlock≠some b) w2 (.slice (some ⟨g,0,none⟩) L.length c1) L/\Grow w w2) (M:=L) rfl (by omega) B o i (fun b hb e=>by have:=hb.2;omega) (fun j Y q2 sv W' K hm I Z=>?_) fun w' oM m=>⟨?_,o.next m fun b hb e=>by omega⟩
  .refine AA (Ej I (O _ (WJ Y))) ?_;rintro v' w' ⟨k1,k2⟩;exact Z v' w' k1 k2
  .refine AE.mod oM (Mod.refl (fun _=>False) _) (fun _ _ h=>h) fun r y _ q=>BF.rsub q fun b hb h=>⟨h.1,fun e=>?_⟩;simp only[Value.ownBlock,i6] at e;exact h.2 e.symm
def QK{V vals:List Value}{Rd C:Nat->Prop}{X:List (List Attr)}(hs:Jy True prog N V (fun k=>[vals.getD k undef]) vals.length Rd W)(al:Cq N=true)(hv:vals.length=X.length)(O:∀m (h1:m<vals.length) (Y:m<X.length),CR C W vals[m] X[m])(Ir:∀x,Rd x->x<W.heap.size)(hl:X.length<=5497558138) :
  AB prog 103 [.func (.func N) #[] V.toArray] (fun v' w'=>AE W.heap.size 43 1 (Cw fun b=>C b/\b<W.heap.size) w' v' X/\Grow W w') W:=by
 apply aJ;apply ah;refine D8 rfl fun c I hc g1 B=>?_;have b7:=B.lt (S3 _);have z1:=g1.size;have Gk:∀{M:Nat->Prop} {w2 w3:World} {r:List Value} {x:List Attr},Mod M w2 w3->(∀b,b<W.heap.size->¬M b)->Cw (fun b=>C b/\b<W.heap.size) w2 r x->Cw (fun b=>C b/\b<W.heap.size) w3 r x:=fun hm hn hy=>BF.BZ hy hm fun b _ hd=>hn b hd.2;have an:∀m (h1:m<vals.length) (Y:m<X.length),Cw (fun b=>C b/\b<W.heap.size) I [vals[m]] X[m]:=fun m q1 q2=>Gk (w2:=W) g1 (fun _ _ h=>h) ⟨_,rfl,(O m q1 q2).mono (fun b hb h=>⟨h,hb⟩) (fun _ _ _=>rfl) (by decide) fun _ _ h=>h⟩;refine Hr ⟨True,N,V,_,_,_,rfl,al,hs.grow g1,fun k _=>rfl,?_⟩;refine⟨fun k Q W'=>∃out,XM 43 1 (Cw fun b=>C b/\b<W.heap.size) I.heap.size c I.heap.size Q W' out (X.take k)/\Mod (fun x=>x=c) I W'/\k<=X.length,fun _ _ _=>False,⟨_,⟨B,AE.nil,fun g i=>nomatch i⟩,Mod.refl _ _,Nn _⟩,?_,fun x Q av W W' h=>h.elim,?_,?_,?_,fun x Q W h=>h.elim⟩
 .rintro k Q av W' b8 ⟨out,q,m,hk⟩ hm j;have a7:=q.box.lt (S3 _);have hn:∀x,x<I.heap.size->¬((¬True/\Q x)\/x=I.heap.size\/x=I.heap.size+1):=fun x O=>by rintro(⟨h,_⟩|h|h);exact h trivial;all_goals omega
  refine⟨out,⟨q.box.mod hm (hn c (by omega)),AE.mod q.row hm (fun g i=>?_) fun _ _ _ h=>Gk hm (fun b hb=>hn b (by omega)) h,fun g i=>?_⟩,m.next hm fun x O=>?_,hk⟩
  .obtain⟨_,Y,h3,_⟩:=q.hc g i;rintro(⟨h,_⟩|h|h)
   .exact h trivial
   .exact Y h
   .exact h3 h
  .obtain⟨h1,Y,h3,h4⟩:=q.hc g i;refine⟨h1,Y,h3,fun h=>?_⟩;rcases(j g h).1 with h|h
   .exact h4 h
   .have:=(AE.Ax q.row g i).2;omega
  .intro e;exact absurd e (hn x O)
 .rintro k Q W' ⟨out,q,m,hk⟩ b hb hr;exact m.same b hb fun e=>by have:=Ir b hr;omega
 .rintro k Q W' hk ⟨out,q,m,b9⟩ hz j;have T:k<X.length:=by omega
  have Z:(nth [vals.getD k undef] 0)=vals[k]:=by
   show vals.getD k undef=_;rw[lj,By hk,oq]
  rw[Z];refine KV (Mod.refl (fun _=>False) _) hz j (fun _ _ h=>h.elim) fun W6 o=>?_;have z6:=o.size;have zm:=m.size;have a7:=q.box.lt (S3 _);have B6:=q.box.mod o (by omega);have o6:AE I.heap.size 43 1 (Cw fun b=>C b/\b<W.heap.size) W6 out (X.take k):=AE.mod q.row o (fun g i=>(q.hc g i).2.2.1) fun _ _ _ h=>Gk o (fun b hb e=>by omega) h;have a8:=Gk o (fun b hb e=>by omega) (Gk m (fun b hb e=>by omega) (an k hk T));refine AL (B6.cells 0 _ rfl) ?_;have ba:(X.take k).length<=X.length:=by simp;omega
  have a1:(vals[k]).cells=[vals[k]].toArray:=by
   obtain⟨sv,e,ax⟩:=a8;cases e;obtain⟨a,c,e,_⟩:=ax.shape;rw[e];rfl
  refine Da BF.elE o6 (by omega) (cs:=[vals[k]]) (x:=X[k]) (DC (v:=vals[k]) rfl (by decide) a1 rfl) rfl a8 (fun _ _ _ h=>BF.rone h) (fun w2 w3 r y bb hm hy=>Gk hm (fun b hb e=>?_) hy) (by show _*24<=_;omega) (by simp only[maxLen];omega) fun ak W9 o9 m9 n9=>?_
  .rcases e with e|e
   .have:=(AE.Ax o6 b e).1;omega
   .omega
  have z9:=m9.size;have bc:=AE.Ax o6;have B9:=B6.mod m9 fun e=>(q.hc c e).1 rfl;obtain⟨ay,b0⟩:=o9.one;refine B9.st (q:=0) (show 0<1 by decide) ay b0 fun b1 b2 J=>?_;have bd:=J.size;have U:Mod (fun x=>x=c\/out.ownBlock=some x) W6 b1:=(m9.mono fun _ _ e=>.inr e).trans (J.mono fun _ _ e=>.inl e);refine⟨NZ U (by omega) (fun b hb=>by have:=(j b hb).1;omega) (fun b _ e=>?_),ak,⟨b2,?_,fun g i=>?_⟩,?_,by omega⟩
  .rcases e with rfl|e
   .exact⟨fun h=>by have:=(j b h).2;omega,by omega,by omega⟩
   .obtain⟨h1,Y,h3,h4⟩:=q.hc b e;exact⟨h4,Y,h3⟩
  .have b6:X.take (k+1)=X.take k++[X[k]]:=by rw[No];simp[T]
   rw [b6];exact AE.mod o9 J (fun g i e=>by
    rcases n9 g i with h|h
    .exact(q.hc g h).1 e
    .omega) fun _ _ _ h=>Gk J (fun b hb e=>by omega) h
  .rcases n9 g i with h|h
   .exact q.hc g h
   .refine⟨by omega,by omega,by omega,fun hI=>by have:=(j g hI).1;omega⟩
  .refine(m.next o fun x O e=>by omega).next U fun x O e=>?_;rcases e with e|e
   .exact e
   .have:=(AE.Ax q.row x e).1;omega
 .rintro Q W' ⟨out,q,m,hk⟩ _ _ hd;refine AL (q.box.cells 0 _ rfl) ⟨hd,?_⟩;have a6:Mod (fun b=>b=I.heap.size) W' (W'.putObj I.heap.size (.deferred none)):=Mod.putObj _ _ _ rfl;rw[hv,PF] at q;refine⟨AE.base (AE.mod q.row a6 (fun g i=>(q.hc g i).2.1) fun _ _ _ h=>Gk a6 (fun b hb e=>by omega) h) fun g i=>?_,?_⟩
  .have:=(AE.Ax q.row g i).1;omega
  exact(g1.next m fun x O e=>by omega).next a6 fun x O e=>by omega
def Lq(l:List (List Attr)):Tr.sz GX.μ l=l.length:=by
 induction l with
 |nil=>rfl
 |cons x l i=>rw[Tr.Bb,i,S5];show 1+l.length=_;omega
def fp(l:List (List Attr)):Tr.mk GX.μ l=0:=by
 induction l with
 |nil=>rfl
 |cons x l i=>rw[Tr.Cy,i];rfl
def KX{l:List (List Attr)}(h:l.length<=1099511627776):Dy BF.toAvT l:=⟨by show Tr.sz GX.μ l<=_;rw[Lq];exact h,by show Tr.mk GX.μ l<=_;rw[fp];omega⟩
def N3:GX.FP (fun x:List Attr=>[x]) where
 size:=fun _=>rfl
 cut1:=fun _ p h0 h1=>by simp at h1;omega
 melds:=fun a b c h=>by cases h
def Pc(l:List (List Attr)):l.flatMap (fun x=>[x])=l:=by simp
def XL(l:List (List Attr))(i j:Nat):GX.over l i j=(l.take j).drop i:=by
 have:=N3.over l i j;rwa [Pc,Pc] at this
def Jb(t l:List (List Attr)){i j:Nat}(m:i<=j):GX.CB t i j l=t.take i++l++t.drop j:=by
 have:=N3.CB t l m;rwa [Pc,Pc,Pc] at this
def Dj.sub{g:AvT α}{F C i:Nat->Prop}{b:Nat}{o:Int}{A:ArS α}(h:Dj g F C W b o A)(hC:∀x,C x->i x)(q:∀x,F x->¬i x)(m:∀x,i x->x<W.heap.size):Dj g F i W b o A:=by
 obtain⟨c,pl,fr,j⟩:=h;exact⟨c,pl,fr,j.box,j.ar.sub hC (fun x B=>q x B.1) m,j.fb.1,q b j.fb.1⟩
def Di.sub{g:AvT α}{F C i:Nat->Prop}{b bt N:Nat}{l:List α}(h:Di g F C W b bt l N)(hC:∀x,C x->i x)(m:∀x,F x->¬i x)(j:∀x,i x->x<W.heap.size):Di g F i W b bt l N:=by
 obtain⟨A,T,h1,r⟩:=h.EH;exact⟨h.box,⟨A,T,h1.sub hC (fun x o=>m x o.1) j,r⟩,h.fb.1,m b h.fb.1⟩
def toList_le(o:Option α):o.toList.length<=1:=by cases o<;>simp
section
variable {F C:Nat->Prop}{W:World}{b bt N:Nat}{L:List (List Attr)}
def SX{k m:Nat}(h:Di BF.toAvT F C W b bt L N)(hN:N<=109951162000)(q:k<=m)(hm:m<=L.length)(hl:L.length<=536870912)(hs:∀x∈L,x.length*48<=140737488355328) :
  AB prog 49 [.pointer (some ⟨b,0,none⟩),zI (k:Int),zI (m:Int)] (fun v' w'=>∃(j:Value) (W0:World),v'=.tuple #[j,zI 0]/\Grow W W0/\Grow W0 w'/\AE W0.heap.size 43 1 (Cw fun b=>W0.heap.size<=b/\j.ownBlock≠some b) w' j ((L.take m).drop k)) W:=by
 apply dL;refine AA (Jg FR h) ?_;rintro _ w1 ⟨rfl,B⟩;rw[show Tr.sz BF.toAvT.k.μ L=L.length from Lq L,JS q hm,Bk];refine AY (fun _=>?_) fun e=>(e rfl).elim;have V:=h.grow B;refine AA (ER FR V) ?_;rintro _ _ ⟨rfl,rfl⟩;rename World=>w1
 obtain⟨A,T,t1,t2,t3,rfl,t5⟩:=V.EH;refine AA (bI (g:=BF) t1 (by omega) t2 t3 (KX (by omega)) (by omega) (by omega)) ?_;rintro _ w3 ⟨a1,vals,Rd,rfl,Y,I,J,Ir,i⟩;have O:GX.over T.toL k m=(T.toL.take m).drop k:=XL _ _ _;have a6:(GX.over T.toL k m).length<=536870912:=by rw[O,I3,Lc];omega
 refine AA (QK (C:=C) (X:=GX.over T.toL k m) i (by kernel_rfl) I (fun p q1 q2=>?_) (fun x o=>(Ir x o).2) (by omega)) ?_
 .obtain⟨r,e1,e2⟩:=J p q1 q2;obtain⟨sv,rfl,Q⟩:Cw C w3 r (GX.over T.toL k m)[p]:=e2;rw[e1];exact Q
 rintro j w4 ⟨o4,Z⟩;refine AA (KL (AE.sl o4) (by omega) fun x o=>hs x ?_) ?_
 .rw[O] at o;exact i7 (iV o)
 rintro U w5 ⟨o5,g5⟩;have z1:=B.size;have z3:=Y.size;have z4:=Z.size;rw[O] at o5;exact⟨U,w4,rfl,(B.trans Y).trans Z,g5,o5⟩
def TX{S D:Nat->Prop}{k:Nat}{R:List (List Attr)}(h:Di BF.toAvT F C W b bt L N)(hN:N<=100000000000)(hk:k<=L.length)(hl:L.length+R.length<=536870912)(Y:BB S 1 (Cw D) W v R)(hs:∀x∈R,x.length*48<=140737488355328) :
  AB prog 76 [.pointer (some ⟨b,0,none⟩),zI (k:Int),v] (fun v' w'=>v'=zI 0/\∃F' m,(∀x,F x->F' x)/\(∀x,C x->m x)/\(∀x,F' x->F x\/W.heap.size<=x)/\(∀x,m x->C x\/W.heap.size<=x)/\Di BF.toAvT F' m w' b bt (L.take k++R++L.drop k) (N+R.length+4)/\Mod F W w') W:=by
 apply Ut;refine AA (Jg FR h) ?_;rintro _ w1 ⟨rfl,B⟩;have o:∀M:List (List Attr),Tr.sz BF.toAvT.k.μ M=M.length:=Lq;rw[o,JS (Mp _) hk,Bk];refine AY (fun _=>?_) fun e=>(e rfl).elim;obtain⟨a,c,rfl,_⟩:=Y.shape;rw[AP];refine AA (Me FR (h.grow B)) ?_;rintro _ w2 ⟨rfl,Z⟩;rw[o,Aq,wrap64 (by omega) (by omega),BL];refine AF (fun e=>by omega) fun _=>?_;have h2:=(h.grow B).grow Z;refine AA (ER FR h2) ?_;rintro _ w3 ⟨rfl,e3⟩;subst e3;rename World=>w2
 have j:=B.trans Z;have I:BB (fun b=>S b/\b<W.heap.size) 1 (Cw fun b=>D b/\b<W.heap.size) w2 (.slice a R.length c) R:=BB.mono (Y.GN (by decide)) (fun _ _ h=>h) (fun b hb _=>j.same b hb fun h=>h) (by decide) fun r x i=>BF.BZ (BF.rsub i fun y J q=>⟨q,J⟩) j fun _ _ _ h=>h;refine AA (KL I (by omega) hs) ?_;rintro v4 w4 ⟨o4,O⟩;have a1:=j.size;have z4:=O.size;have Q:=h.lt
 let m:Nat->Prop:=fun x=>C x\/(w2.heap.size<=x/\x<w4.heap.size/\v4.ownBlock≠some x)
 have h4:Di BF.toAvT F m w4 b bt L N:=(h2.grow O).sub (fun x i=>.inl i) (fun x i e=>by
   rcases e with e|e
   .exact h.Iw x i e
   .have:=Q x (.inl i);omega) fun x e=>by
   rcases e with e|e
   .have:=Q x (.inr e);omega
   .exact e.2.1
 have T:AE w2.heap.size 43 1 (Cw m) w4 v4 R:=AE.mod o4 (Mod.refl (fun _=>False) _) (fun _ _ h=>h) fun r y _ J=>BF.rsub J fun x i q=>.inr ⟨q.1,i,q.2⟩;have er:=Jb L R (Mp k);have U:(GX.CB L k k R).length<=1099511627776:=by rw[er];simp only[Bp,Lc,I3];omega
 refine AA (Iz (SU (g:=BF)) (L:=R) h4 (by omega) T.sl (fun x i V=>by have:=Q x (.inl V);have:=i.1;omega) (Mp k) (by omega) (KX (by omega)) (KX (l:=GX.CB L k k R) U) (KX (l:=(GX.split L k).1.getLast?.toList++R++(GX.split (GX.split L k).2 (k - k)).2.head?.toList) (by
  have q1:=toList_le (GX.split L k).1.getLast?;have q2:=toList_le (GX.split (GX.split L k).2 (k - k)).2.head?;simp only [Bp];omega))) ?_
 rintro _ w5 ⟨F',k1,k2,k3,k4⟩;have X:BF.toAvT.k.CB L k k R=L.take k++R++L.drop k:=er;rw[X] at k3;refine⟨rfl,F',m,k1,fun x i=>.inl i,fun x i=>(k2 x i).imp (fun h=>h) fun h=>by omega,fun x i=>i.imp (fun h=>h) fun h=>by omega,k3,((j.trans O).mono fun _ _ h=>h.elim).trans k4⟩
def UY{k m:Nat}(h:Di BF.toAvT F C W b bt L N)(V:N<=100000000000)(i:k<=m)(hm:m<=L.length)(hl:L.length<=536870912) :
  AB prog 87 [.pointer (some ⟨b,0,none⟩),zI (k:Int),zI (m:Int)] (fun v' w'=>v'=zI 0/\∃F',(∀x,F x->F' x)/\(∀x,F' x->F x\/W.heap.size<=x)/\Di BF.toAvT F' C w' b bt (L.take k++L.drop m) (N+4)/\Mod F W w') W:=by
 apply dw;refine AA (Jg FR h) ?_;rintro _ O ⟨rfl,j⟩;rw[show Tr.sz BF.toAvT.k.μ L=L.length from Lq L,JS i hm,Bk];refine AY (fun _=>?_) fun e=>(e rfl).elim;have I:=h.grow j;refine AA (ER FR I) ?_;rintro _ _ ⟨rfl,rfl⟩;rename World=>O
 have o:=Jb L [] i;rw[kK] at o;have q:(GX.CB L k m []).length<=1099511627776:=by rw[o];simp only[Bp,Lc,I3];omega
 refine AA (Iz (SU (g:=BF)) (L:=[]) (S:=fun _=>False) I (by simp only [lG];omega) BB.nil (fun _ h=>h.elim) i (by omega) (KX (by omega)) (KX (l:=GX.CB L k m []) q) (KX (l:=(GX.split L k).1.getLast?.toList++[]++(GX.split (GX.split L k).2 (m - k)).2.head?.toList) (by
  have X:=toList_le (GX.split L k).1.getLast?;have Y:=toList_le (GX.split (GX.split L k).2 (m - k)).2.head?;simp only [Bp,lG];omega))) ?_
 rintro _ Q ⟨F',k1,k2,J,T⟩;have Z:=j.size;have B:BF.toAvT.k.CB L k m []=L.take k++L.drop m:=o;rw[B] at J;exact⟨rfl,F',k1,fun x U=>(k2 x U).imp (fun h=>h) fun h=>by omega,J,(j.mono fun _ _ h=>h.elim).trans T⟩
end
abbrev LL(l:List Chg):Prop:=l.Pairwise fun a b=>a.key<b.key
abbrev Fx(l:List Attr):Prop:=l.Pairwise fun a b=>a.key<b.key
def Jj(c:Chg):List Attr->List Attr
 |[]=>[]
 |a::s=>if a.key<c.key then a::Jj c s else[]
def Eu(c:Chg):List Attr->List Attr
 |[]=>[]
 |a::s=>if a.key<c.key then Eu c s else if a.key=c.key then s else a::s
def MI(c:Chg):List Attr:=if c.gone then[] else[⟨c.key,c.val⟩]
def Bs:List Attr->List Chg->List Attr
 |s,[]=>s
 |s,c::p=>Jj c s++MI c++Bs (Eu c s) p
def G7{c:Chg}{p:List Attr}{x:Attr}(h:x∈Jj c p):x∈p/\x.key<c.key:=by
 induction p with
 |nil=>simp[Jj] at h
 |cons a p i=>
  simp only[Jj] at h;split at h
  .rcases K8.1 h with rfl|h
   .exact⟨by simp,by assumption⟩
   .exact⟨by simp[(i h).1],(i h).2⟩
  .simp at h
def Ue{c:Chg}{p:List Attr}{x:Attr}(h:x∈Eu c p):x∈p:=by
 induction p with
 |nil=>simp[Eu] at h
 |cons a p i=>
  simp only[Eu] at h;split at h
  .simp[i h]
  .split at h
   .simp[h]
   .exact h
def L4{c:Chg}{p:List Attr}(hp:Fx p){x:Attr}(h:x∈Eu c p):c.key<x.key:=by
 induction p with
 |nil=>simp[Eu] at h
 |cons a p i=>
  rw[Fx,mF] at hp;simp only[Eu] at h;split at h
  .exact i hp.2 h
  .split at h
   .have:=hp.1 x h;omega
   .rcases K8.1 h with rfl|h
    .omega
    .have:=hp.1 x h;omega
def XN{c:Chg}{p:List Attr}(hp:Fx p):Fx (Jj c p):=by
 induction p with
 |nil=>exact List.Pairwise.nil
 |cons a p i=>
  rw[Fx,mF] at hp;simp only[Jj];split
  .exact mF.2 ⟨fun x j=>hp.1 x (G7 j).1,i hp.2⟩
  .exact List.Pairwise.nil
def Nu{c:Chg}{p:List Attr}(hp:Fx p):Fx (Eu c p):=by
 induction p with
 |nil=>exact List.Pairwise.nil
 |cons a p j=>
  have i:=hp;rw[Fx,mF] at hp;simp only[Eu];split
  .exact j hp.2
  .split
   .exact hp.2
   .exact i
def Lm{c:Chg}{x:Attr}(h:x∈MI c):c.gone=false/\x=⟨c.key,c.val⟩:=by
 unfold MI at h;split at h
 .simp at h
 .rename_i i;exact⟨by simpa using i,by simpa using h⟩
def KC{p:List Chg}{x:Attr}(h:x∈Bs s p):x∈s\/∃c∈p,c.gone=false/\x=⟨c.key,c.val⟩:=by
 induction p generalizing s with
 |nil=>exact .inl h
 |cons c p i=>
  simp only[Bs] at h;rcases C3.1 h with h|h
  .rcases C3.1 h with h|h
   .exact .inl (G7 h).1
   .exact .inr ⟨c,by simp,Lm h⟩
  .rcases i h with h|⟨d,j,h⟩
   .exact .inl (Ue h)
   .exact .inr ⟨d,by simp[j],h⟩
def Jf{p:List Chg}(i:Fx s)(hp:LL p):Fx (Bs s p):=by
 induction p generalizing s with
 |nil=>exact i
 |cons c p j=>
  rw[LL,mF] at hp;simp only[Bs];have m:∀x∈Bs (Eu c s) p,c.key<x.key:=fun x o=>by
   rcases KC o with h|⟨d,q,_,rfl⟩
   .exact L4 i h
   .exact hp.1 d q
  refine pj.2 ⟨pj.2 ⟨XN i,?_,fun a ha b hb=>?_⟩,j (Nu i) hp.2,fun a ha b hb=>?_⟩
  .unfold MI;split
   .exact List.Pairwise.nil
   .exact List.pairwise_singleton _ _
  .obtain⟨_,rfl⟩:=Lm hb;exact(G7 ha).2
  .have B:=m b hb;rcases C3.1 ha with h|h
   .have:=(G7 h).2;omega
   .obtain⟨_,rfl⟩:=Lm h;exact B
def kD{key:α->Int}{l:List α}{ids:List Int}(h:l.Pairwise fun a b=>key a<key b)(hm:∀x∈l,key x∈ids):l.length<=ids.length:=by
 induction l generalizing ids with
 |nil=>simp
 |cons a l j=>
  rw[mF] at h;have ha:=hm a (by simp);have:=j (ids:=ids.erase (key a)) h.2 fun x i=>by
   rw[rG]
   .exact hm x (by simp[i])
   .have:=h.1 x i;omega
  rw[qZ ha] at this;have:0<ids.length:=pO ha;simp only[S5];omega
def VQ{key:α->Int}{l:List α}(h:∀i,1<=i->i<l.length->∀a b,l[i-1]?=some a->l[i]?=some b->key a<key b):l.Pairwise fun a b=>key a<key b:=by
 rw[mV];intro i j hi m o;obtain⟨d,rfl⟩:∃d,j=i+1+d:=⟨j-i-1,by omega⟩;clear o;induction d with
 |zero=>exact h (i+1) (by omega) m _ _ (by simp) (By m)
 |succ d q=>
  have:=q (by omega);have:=h (i+1+d+1) (by omega) m (l[i+1+d]'(by omega)) _ (by simp) (By m);simp only[mL] at *;omega
def Xt{key:α->Int}{l:List α}(h:l.Pairwise fun a b=>key a<key b):∀i,1<=i->i<l.length->∀a b,l[i-1]?=some a->l[i]?=some b->key a<key b:=by
 intro i h1 j a b ha hb;rw[mV] at h;have:=h (i-1) i (by omega) j (by omega);rw[By (by omega)] at ha;rw[By j] at hb;cases ha;cases hb;exact this
def Bv(o:Dop):Nat:=if o.kind=2 then o.Ag.length else o.n.toNat
def Mb{x:Int}(h0:0<=x)(h1:x<=1099511627776):IntKind.i64.wrap x=x:=by
 simp only[IntKind.wrap,IntKind.bits,IntKind.signed];simp;omega
def total(x:List Dop):Nat:=(x.map Bv).sum
section
variable {one:Dop->Dop->List Dop}
end
def CW(ks:List DKey)(b:Bool)(p:List Chg):List Chg:=p.filter fun c=>match Bf ks c.key with|some k=>decide (k.block=b)|none=>false
def MP(ks:List DKey)(set:List Attr)(p:List Chg)(r:Int):List Attr:=Bs set (CW ks (decide (r=10)) p)
def Good(PS:List Attr->Prop)(PP:List Chg->Prop)(o:Dop):Prop:=(o.kind=1/\o.Ag=[]/\o.set=[]/\1<=o.n/\PP o.patch)\/(o.kind=3/\o.Ag=[]/\o.set=[]/\o.patch=[]/\1<=o.n)\/
 (o.kind=2/\(∀r∈o.Ag,Dz r)/\o.n=0/\o.patch=[]/\o.Ag≠[]/\PS o.set)
def DD(x y:List Dop):total (x++y)=total x+total y:=by simp[total]
def Ea(o:Dop):total [o]=Bv o:=by simp[total]
def Np{x:List Dop}{o:Dop}(h:o∈x):Bv o<=total x:=by
 induction x with
 |nil=>simp at h
 |cons a x i=>
  simp only[total,kN,mM] at *;rcases K8.1 h with rfl|h
  .omega
  .have:=i h;omega
def Ss(i:List Dop)(b o:Dop):(i++[b]).set ((i++[b]).length-1) o=i++[o]:=by
 rw[lY _ _ (by simp)];simp
section
variable {PS:List Attr->Prop}{PP:List Chg->Prop}
def Qe{g:Int}(h:∀o∈a,Good PS PP o/\o.kind=2):∀o∈BH a g,Good PS PP o:=by
 intro o i;unfold BH at i;split at i
 .rcases C3.1 i with j|j
  .exact(h o j).1
  .simp at j;subst j;exact .inr (.inl ⟨rfl,rfl,rfl,rfl,by simp only;omega⟩)
 .exact(h o i).1
def N6(ins:List Dop)(g:Int):total (BH ins g)=total ins+g.toNat:=by
 unfold BH;split
 .rw[DD,Ea];simp[Bv]
 .omega
structure Qk (PS:List Attr->Prop) (PP:List Chg->Prop) (s:Gt) (t:Nat):Prop where
 done:∀o∈s.done,Good PS PP o
 ins:∀o∈s.ins,Good PS PP o/\o.kind=2
 gone:0<=s.gone
 EB:total s.done+total s.ins+s.gone.toNat<=t
def TJ{s:Gt}{t:Nat}{o:Dop}(h:Qk PS PP s t)(j:Good PS PP o)(ht:t+Bv o<=1099511627776):Qk PS PP (CI s o) (t+Bv o):=by
 obtain⟨done,ins,gone⟩:=s;obtain⟨h1,T,h3,h4⟩:=h;simp only at h1 T h3 h4;obtain⟨k,n,rs,set,p⟩:=o;rcases j with⟨J,B,O,Q,m⟩|⟨J,B,O,Q,m⟩|⟨J,B,O,Q,m,e6⟩
 .simp only at J B O Q m;subst J;subst B;subst O;simp only[Bv,show ¬(1:Int)=2 by decide,lE] at ht ⊢;simp only[CI,lT,Mk,Bq (show ¬n<1 by omega)];have Z:∀o∈done++BH ins gone,Good PS PP o:=fun o j=>by
   rcases C3.1 j with h|h
   .exact h1 o h
   .exact Qe T o h
  have U:total (done++BH ins gone)<=t:=by rw[DD,N6];omega
  generalize done++BH ins gone=d at Z U ⊢;have new:Qk PS PP ⟨d++[⟨1,n,[],[],p⟩],[],0⟩ (t+n.toNat):=by
   refine⟨fun o j=>?_,by simp,by simp,?_⟩
   .rcases C3.1 j with h|h
    .exact Z o h
    .simp at h;subst h;exact .inl ⟨rfl,rfl,rfl,Q,m⟩
   .simp only[DD,Ea,Bv,show ¬(1:Int)=2 by decide,lE];simp[total];simp[total] at U;omega
  unfold FN;rcases lK d with rfl|⟨i,q,rfl⟩
  .exact new
  .simp only[lb,WL,gC,lM] at *;by_cases e:q.kind=1/\q.patch=p
   .rw[DN e];have V:=Z q (by simp);obtain⟨kq,nq,rq,sq,pq⟩:=q;simp only at e;obtain⟨rfl,rfl⟩:=e;rcases V with⟨I,X,Y,f4,f5⟩|⟨I,_⟩|⟨I,_⟩
    .simp only at X Y f4;subst X;subst Y;rw[DD,Ea] at U;simp only[Bv,show ¬(1:Int)=2 by decide,lE] at U;dsimp only;rw[Mb (by omega) (by omega),Ss];refine⟨fun o j=>?_,by simp,by simp,?_⟩
     .rcases C3.1 j with h|h
      .exact Z o (by simp[h])
      .simp at h;subst h;exact .inl ⟨rfl,rfl,rfl,by simp only;omega,m⟩
     .simp only[DD,Ea,Bv,show ¬(1:Int)=2 by decide,lE];simp[total];simp[total] at U;omega
    .simp at I
    .simp at I
   .rw[Bq e];exact new
 .simp only at J B O Q m;subst J;subst B;subst O;subst Q;simp only[Bv,show ¬(3:Int)=2 by decide,lE] at ht ⊢;simp only[CI,show ¬(3:Int)=1 by decide,show ¬(3:Int)=2 by decide,lE,Ql];have:J1 n 0=n:=by unfold J1;rw[Bq (by omega)]
  rw[this,Mb (by omega) (by omega)];exact⟨h1,T,by simp only;omega,by simp only;omega⟩
 .simp only at J B O Q m e6;subst J;subst O;subst Q;simp only[Bv,lT] at ht ⊢;simp only[CI,show ¬(2:Int)=1 by decide,lT,lE,Mr,Bq m];have new:Qk PS PP ⟨done,ins++[⟨2,0,rs,set,[]⟩],gone⟩ (t+rs.length):=by
   refine⟨h1,fun o j=>?_,h3,?_⟩
   .rcases C3.1 j with h|h
    .exact T o h
    .simp at h;subst h;exact⟨.inr (.inr ⟨rfl,B,rfl,rfl,m,e6⟩),rfl⟩
   .simp only[DD,Ea,Bv,lT];omega
  unfold FX;rcases lK ins with rfl|⟨i,q,rfl⟩
  .exact new
  .simp only[lb,WL,gC,lM] at *;by_cases e:q.set=set
   .rw[DN e];have V:=T q (by simp);obtain⟨kq,nq,rq,sq,pq⟩:=q;simp only at e;subst e;obtain⟨V,hk⟩:=V;simp only at hk;subst hk;rcases V with⟨I,_⟩|⟨I,_⟩|⟨I,X,Y,f4,f5,f6⟩
    .simp at I
    .simp at I
    .simp only at X Y f4 f5 f6;subst Y;subst f4;rw[Ss];refine⟨h1,fun o j=>?_,h3,?_⟩
     .rcases C3.1 j with h|h
      .exact T o (by simp[h])
      .simp at h;subst h;exact⟨.inr (.inr ⟨rfl,fun r hr=>by rcases C3.1 hr with h|h;exact X r h;exact B r h,rfl,rfl,by simp[m],f6⟩),rfl⟩
     .simp only[DD,Ea,Bv,lT,Bp] at h4 ⊢;omega
   .rw[Bq e];exact new
def WQ(x:List Dop)(h:∀o∈x,Good PS PP o)(hb:total x<=1099511627776):Qk PS PP (Be x) (total x):=by
 induction x using IX with
 |h0=>exact⟨by simp[Be,Gt.z],by simp[Be,Gt.z],by simp[Be,Gt.z],by simp[Be,Gt.z,total]⟩
 |h1 x o i=>
  rw[DD,Ea] at hb ⊢;have:=TJ (i (fun o j=>h o (by simp[j])) (by omega)) (h o (by simp)) hb;simpa[Be] using this
def UI(x:List Dop)(h:∀o∈x,Good PS PP o)(hb:total x<=1099511627776):(∀o∈Br x,Good PS PP o)/\total (Br x)<=total x:=by
 obtain⟨h1,I,J,O⟩:=WQ x h hb;have j:∀o∈(Be x).done++BH (Be x).ins (Be x).gone,Good PS PP o:=fun o B=>by
  rcases C3.1 B with h|h
  .exact h1 o h
  .exact Qe I o h
 have m:total ((Be x).done++BH (Be x).ins (Be x).gone)<=total x:=by rw[DD,N6];omega
 unfold Br RH;generalize (Be x).done++BH (Be x).ins (Be x).gone=d at j m;unfold EG;rcases lK d with rfl|⟨i,q,rfl⟩
 .exact⟨j,m⟩
 .simp only[lb,WL,gC,lM,l9] at *;split
  .rw[DD] at m;exact⟨fun o B=>j o (by simp[B]),by omega⟩
  .exact⟨j,m⟩
end
section
variable {ks:List DKey}
def Io(ks:List DKey)(l:List Attr):Prop:=Fx l/\l.length<=64/\∀a∈l,DH a.val/\Gm ks a.key a.val
def J0(ks:List DKey)(p:List Chg):Prop:=LL p/\p.length<=64/\∀c∈p,(c.gone=true->c.val=A6.zero)/\(c.gone=false->DH c.val/\Gm ks c.key c.val)/\Bf ks c.key≠none
def EN{l:List Attr}:Bm ks l=0↔Io ks l:=by
 unfold Bm;constructor
 .intro h;split at h
  .cases h
  .split at h
   .cases h
   .rename_i h1 j;refine⟨kS fun i=>h1 (.inl fun hr=>i (VQ hr)),kS fun i=>h1 (.inr (.inl (by omega))),fun a ha=>⟨kS fun i=>h1 (.inr (.inr ⟨a,ha,i⟩)),kS fun i=>j ⟨a,ha,i⟩⟩⟩
 .rintro⟨h1,j,m⟩;rw[Bq,Bq]
  .rintro⟨a,ha,i⟩;exact i (m a ha).2
  .rintro(i|i|⟨a,ha,i⟩)
   .exact i (Xt h1)
   .omega
   .exact i (m a ha).1
def Gn{l:List Chg}:Db ks l=0↔J0 ks l:=by
 unfold Db;constructor
 .intro h;split at h
  .cases h
  .split at h
   .cases h
   .rename_i h1 o;refine⟨kS fun i=>h1 (.inl fun hr=>i (VQ hr)),kS fun i=>h1 (.inr (.inl (by omega))),fun a ha=>⟨fun j=>kS fun i=>h1 (.inr (.inr ⟨a,ha,.inl ⟨j,i⟩⟩)),fun j=>⟨kS fun i=>h1 (.inr (.inr ⟨a,ha,.inr ⟨j,i⟩⟩)),kS fun i=>o ⟨a,ha,.inr ⟨j,i⟩⟩⟩,fun i=>o ⟨a,ha,.inl i⟩⟩⟩
 .rintro⟨h1,o,m⟩;rw[Bq,Bq]
  .rintro⟨a,ha,i|⟨j,i⟩⟩
   .exact(m a ha).2.2 i
   .exact i ((m a ha).2.1 j).2
  .rintro(i|i|⟨a,ha,⟨j,i⟩|⟨j,i⟩⟩)
   .exact i (Xt h1)
   .omega
   .exact i ((m a ha).1 j)
   .exact i ((m a ha).2.1 j).1
def IH:Io ks []:=⟨List.Pairwise.nil,by simp,by simp⟩
def IJ:J0 ks []:=⟨List.Pairwise.nil,by simp,by simp⟩
def SA{id:Int}{k:DKey}(h:Bf ks id=some k):id∈ks.map DKey.id:=by
 have h1:=pz h;simp at h1;exact kT.2 ⟨k,oz h,h1⟩
def PD{id:Int}(h:Bf ks id≠none):id∈ks.map DKey.id:=by
 cases e:Bf ks id with
 |none=>exact(h e).elim
 |some k=>exact SA e
def XE(m:ks.length<=64){p:List Chg}(j:Io ks s)(hp:LL p)(i:∀c∈p,c.gone=false->DH c.val/\Gm ks c.key c.val):Io ks (Bs s p):=by
 have hm:∀a∈Bs s p,DH a.val/\Gm ks a.key a.val:=fun a ha=>by
  rcases KC ha with h|⟨c,hc,o,rfl⟩
  .exact j.2.2 a h
  .exact i c hc o
 have hr:=Jf j.1 hp;refine⟨hr,?_,hm⟩;have:=kD (key:=Attr.key) (ids:=ks.map DKey.id) hr fun a ha=>by
  obtain⟨k,hk,_⟩:=(hm a ha).2;exact SA hk
 rw[Iq] at this;omega
abbrev BY(ks:List DKey)(o:Dop):Prop:=Good (Io ks) (J0 ks) o
def BY.form{o:Dop}(h:BY ks o)(hl:Bv o<=536870912):FV o/\Io ks o.set/\J0 ks o.patch:=by
 rcases h with⟨h1,m,i,j,q⟩|⟨h1,m,i,j,q⟩|⟨h1,m,i,j,q,B⟩
 .simp only[Bv,h1,show ¬(1:Int)=2 by decide,lE] at hl;exact⟨.inl ⟨h1,m,i,j,by omega⟩,by rw[i];exact IH,q⟩
 .simp only[Bv,h1,show ¬(3:Int)=2 by decide,lE] at hl;exact⟨.inr (.inl ⟨h1,m,i,j,q,by omega⟩),by rw[i];exact IH,by rw[j];exact IJ⟩
 .simp only[Bv,h1,lT] at hl;exact⟨.inr (.inr ⟨h1,m,i,j,lh.2 q,hl⟩),B,by rw[j];exact IJ⟩
def FV.FM{o:Dop}(h:FV o)(I:Io ks o.set)(hp:J0 ks o.patch):BY ks o/\Bv o<=536870912:=by
 rcases h with⟨h1,i,j,m,q⟩|⟨h1,i,j,m,q,B⟩|⟨h1,i,j,m,q,B⟩
 .exact⟨.inl ⟨h1,i,j,m,hp⟩,by simp only[Bv,h1,show ¬(1:Int)=2 by decide,lE];omega⟩
 .exact⟨.inr (.inl ⟨h1,i,j,m,q⟩),by simp only[Bv,h1,show ¬(3:Int)=2 by decide,lE];omega⟩
 .exact⟨.inr (.inr ⟨h1,i,j,m,by intro e;rw[e] at q;simp at q,I⟩),by simp only[Bv,h1,lT];exact B⟩
def Jp{x:List Dop}(h:Cs ks x=0):∀o∈x,BY ks o/\Bv o<=536870912:=by
 unfold Cs at h;split at h
 .cases h
 .split at h
  .cases h
  .rename_i h1 m;intro o j;refine FV.FM (kS fun i=>h1 (.inl ⟨o,j,.inl i⟩)) (EN.1 (kS fun i=>m ⟨o,j,.inl i⟩)) (Gn.1 (kS fun i=>m ⟨o,j,.inr i⟩))
def Mg{f:Dop->Int}(x:List Dop)(h:∀o∈x,0<=f o/\f o<=Bv o)(hb:total x<=1099511627776):0<=Cj f x/\Cj f x<=total x:=by
 induction x using IX with
 |h0=>exact⟨by simp[Cj],by simp[Cj]⟩
 |h1 x o i=>
  rw[DD,Ea] at hb ⊢;have m:=i (fun o j=>h o (by simp[j])) (by omega);have q:=h o (by simp);have e:Cj f (x++[o])=IntKind.i64.wrap (Cj f x+f o):=by simp[Cj]
  rw[e,Mb (by omega) (by omega)];omega
def MB{x:List Dop}(h:∀o∈x,BY ks o)(hb:total x<=536870912):Cs ks x=0:=by
 have m:∀o∈x,FV o/\Io ks o.set/\J0 ks o.patch:=fun o j=>BY.form (h o j) (by have:=Np j;omega);have i:∀o∈x,0<=o.n:=fun o j=>by
  rcases h o j with⟨_,_,_,q,_⟩|⟨_,_,_,_,q⟩|⟨_,_,q,_⟩<;>omega
 have ht:=Mg (f:=Bt) x (fun o j=>by
  have:=i o j;unfold Bt Bv;split <;> omega) (by omega)
 have hm:=Mg (f:=CD) x (fun o j=>by
  have:=i o j;unfold CD Bv L5;split
  .split<;>omega
  .split <;> omega) (by omega)
 unfold Cs;rw[Bq,Bq]
 .rintro⟨o,j,i|i⟩
  .exact i (EN.2 (m o j).2.1)
  .exact i (Gn.2 (m o j).2.2)
 .rintro(⟨o,j,i|i|i⟩|i|i)
  .exact i (m o j).1
  .rw[EN.2 (m o j).2.1] at i;cases i
  .rw[Gn.2 (m o j).2.2] at i;cases i
  .omega
  .omega
end
def jP{t e k bytes:Nat}{R:World->List Value->α->Prop}{v x:Value}{l m:List α}(B:DU P t e k bytes)(h:AE w0.heap.size e k R w v l)(q:Grow w0 w)(I:BB S k R w x m)
 (i:∀r y,R w r y->∀u∈r,u.oneCell'=true)(J:∀O w2 r y,R O r y->R w2 r y)(j:(l.length+m.length)*bytes<=140737488355328)(o:l.length+m.length<=maxLen)
 (Q:∀v' w',AE w0.heap.size e k R w' v' (l++m)->Grow w0 w'->K v' w'):runK P (Builtin.append_ #[t,t] t [v,x].toArray) K w:=by
 obtain⟨v',w',h1,T,U,_⟩:=AE.append (ty:=t) B h I i j q.size o fun w' _ r y V=>J _ _ _ _ V;exact Ae h1 (Q v' w' T (q.next (Mod.of_grownBy U) fun b hb e=>by have:=(AE.Ax h b e).1;omega))
def Gr(Qq:Value)(w4 W:World)(ov:Value):Prop:=Mod (fun b=>Qq.ownBlock=some b) w4 W/\∀b,ov.ownBlock=some b->Qq.ownBlock=some b\/w4.heap.size<=b
section
variable {Qq ov v':Value}{w w4 W W':World}
def Gr.start:Gr ov w4 w4 ov:=⟨Mod.refl _ _,fun _ h=>.inl h⟩
def Gr.grow(h:Gr Qq w4 W ov)(g:Grow W W'):Gr Qq w4 W' ov:=⟨h.1.next g fun _ _ e=>e.elim,h.2⟩
def Gr.push(h:Gr Qq w4 W ov)(m:Mod (fun b=>ov.ownBlock=some b) W W')(i:∀g,v'.ownBlock=some g->ov.ownBlock=some g\/W.heap.size<=g):Gr Qq w4 W' v':=
 ⟨h.1.next m fun b hb e=>by rcases h.2 b e with e | e;exact e;omega,fun b hb=>by
  rcases i b hb with e|e
  .exact h.2 b e
  .exact .inr (lV h.1.size e)⟩
def Gr.g(h:Gr Qq w4 W ov)(g:Grow w w4)(i:∀b,Qq.ownBlock=some b->w.heap.size<=b):Grow w W:=g.next h.1 fun b hb e=>by have:=i b e;omega
end
def drop_cons{l:List α}{i:Nat}(h:i<l.length):l.drop i=l[i]::l.drop (i+1):=lX h
set_option maxRecDepth 20000 in
def Ow{p:List Chg}(hs:CR S w sv s)(hp:Ey F w v p)(hb:s.length+p.length<=1099511627776) :
  AB prog 156 [sv,v] (fun v' w'=>HY w.heap.size w' v' (Bs s p)/\Grow w w') w:=by
 apply Yi;obtain⟨sa,sc,rfl,_⟩:=hs.shape;obtain⟨pa,pc,rfl,_⟩:=hp.shape;rw[AP];refine AX (fun vs W=>∃(k i:Nat) (ov:Value) (out:List Attr),k<=p.length/\i<=s.length/\vs=[ov,zI i,zI k]/\HY w.heap.size W ov out/\Grow w W/\out.length+(s.length-i)+(p.length-k)<=s.length+p.length/\out++Bs (s.drop i) (p.drop k)=Bs s p) (fun vs _=>p.length-De vs 2) ⟨0,0,_,[],by omega,by omega,rfl,AE.nil,Mod.refl _ _,by simp,rfl⟩ ?_;rintro vs W ⟨k,i,Qq,out,hk,hi,rfl,B,g,m,he⟩ _;simp only[GC];refine Hj (fun X=>?_) fun an=>?_
 .have I:k<p.length:=by omega
  rw[drop_cons I] at he;simp only[Bs] at he;refine AV (fun vs W=>∃(i:Nat) (ov:Value) (out:List Attr),i<=s.length/\vs=[ov,zI i]/\HY w.heap.size W ov out/\Grow w W/\out.length+(s.length-i)+(p.length-(k+1))<=s.length+p.length/\out++Bs (s.drop i) (p.drop (k+1))=Bs s p) ?_ ?_
  .rintro vs W ⟨i,ov,out,hi,rfl,B,U,m,he⟩ _;simp only[GC];rw[AQ,AO (by omega)];refine⟨⟨k+1,i,ov,out,I,hi,rfl,B,U,m,he⟩,?_⟩;show p.length-((k+1:Nat):Int).toNat<p.length-(k:Int).toNat;omega
  obtain⟨a,r,rfl,_,hr,hc,rfl⟩:=(hp.grow g (by decide) fun _ _ h=>h).get I;refine AT I (Ah hr (fun j u hu=>by rw[Addr.add_add];exact hc j u hu) ?_);refine BQ (vs:=p[k].cells) rfl rfl (Eh.one (w:=W) (x:=p[k]) rfl) fun Y w4 bk bl g4 a6 _=>?_;have a7:=g.trans g4;have hB:∀b,Qq.ownBlock=some b->w.heap.size<=b:=fun b e=>(AE.Ax B b e).1;have h8:Qq.ownBlock≠some Y:=fun e=>by have:=(AE.Ax B Y e).2;omega
  have a8:HY w.heap.size w4 Qq out:=AE.mod B g4 (fun _ _ h=>h) fun _ _ _ h=>h;have put:∀(i:Nat) (ov:Value) (out:List Attr) (V:World),HY w.heap.size V ov out->Gr Qq w4 V ov->i<=s.length->out.length+(s.length-i)+(p.length-k)<=s.length+p.length->out++MI p[k]++Bs (s.drop i) (p.drop (k+1))=Bs s p->
    (AM 1 (.pointer (some ⟨Y,0,none⟩)) fun av=>AJ av (fun ax w8=>CA ax fun t50=>AD t50
     (AM 0 (.pointer (some ⟨Y,0,none⟩)) fun ay=>AJ ay (fun t53 w9=>AM 2 (.pointer (some ⟨Y,0,none⟩)) fun b0=>Aa 4 b0 (fun t55 b1=>
      Ai [(0,1),(1,4)] [(zI 0),(.int .u8 0),(zI 0),(.int .u64 0),(.string (ByteArray.mk #[]))] [(0,t53),(1,t55)] fun b2=>
      Ba 79 5 1 [(zI 0),(.int .u8 0),(zI 0),(.int .u64 0),(.string (ByteArray.mk #[]))] [(0,b2)] (fun b6 b7=>
      runK prog (Builtin.append_ #[43,43] 43 [ov,b6].toArray) (fun b9 ak=>
       ∃ (J:Nat) (O:Value) (o:List Attr),J<=s.length/\[b9,zI (i:Int)]=[O,zI (J:Int)]/\HY w.heap.size ak O o/\Grow w ak/\o.length+(s.length - J)+(p.length - (k+1))<=s.length+p.length/\o++Bs (s.drop J) (p.drop (k+1))=Bs s p) b7) b1) w9) w8)
     (∃ (J:Nat) (O:Value) (o:List Attr),J<=s.length/\[ov,zI (i:Int)]=[O,zI (J:Int)]/\HY w.heap.size w8 O o/\Grow w w8/\o.length+(s.length - J)+(p.length - (k+1))<=s.length+p.length/\o++Bs (s.drop J) (p.drop (k+1))=Bs s p)) V):=by
   intro i ov out V B U hi m he;have c8:∀j u,p[k].cells[j]?=some u->V.cell? ((⟨Y,0,none⟩:Addr).add j)=some u:=fun j u hu=>U.1.cell (a6 j u hu) (by rw[BJ];exact h8);rw[AG];refine AL (c8 1 _ rfl) ?_;rw[An];have Q:=U.g a7 hB;cases hg:p[k].gone with
   |true=>
    refine AS ?_;rw[MI,hg,DN rfl,kK] at he;exact⟨i,ov,out,hi,rfl,B,Q,by omega,he⟩
   |false=>
    refine Ak ?_;rw[MI,hg,Bq (by decide)] at he;rw[AG];refine AL (c8 0 _ rfl) ?_;rw[AG];refine Ah (vs:=p[k].val.cells) rfl (fun j u hu=>by rw[Addr.add_add];exact c8 (2+j) u (by rw[pQ];exact hu)) ?_;refine⟨(⟨p[k].key,p[k].val⟩:Attr).cells.toArray,by kernel_rfl,?_⟩;refine Lt (w0:=w) IY B Q (cs:=(⟨p[k].key,p[k].val⟩:Attr).cells) (x:=⟨p[k].key,p[k].val⟩) (by kernel_rfl) rfl rfl (fun _ _ _=>DV.one) (fun _ _ _ _ _ _ h=>h) (by omega) (by simp only[maxLen];omega) fun v' w' o' g'=>?_;exact⟨i,v',_,hi,rfl,o',g',by simp only[Bp,S5,lG];omega,he⟩
  refine AX (fun vs W=>∃(i:Nat) (ov:Value) (out:List Attr),i<=s.length/\vs=[ov,zI i]/\HY w.heap.size W ov out/\Gr Qq w4 W ov/\out.length+(s.length-i)+(p.length-k)<=s.length+p.length/\out++(Jj p[k] (s.drop i)++MI p[k]++Bs (Eu p[k] (s.drop i)) (p.drop (k+1)))=Bs s p) (fun vs _=>s.length-De vs 1) ⟨i,Qq,out,hi,rfl,a8,Gr.start,m,he⟩ ?_;clear B a8 m he hi;rintro vs V ⟨i,ov,out,hi,rfl,B,U,m,he⟩ _;have Q:=U.g a7 hB;have c8:V.cell? ((⟨Y,0,none⟩:Addr).add 0)=some (zI p[k].key):=U.1.cell (a6 0 _ rfl) (by rw[BJ];exact h8);simp only[GC];rw[AP,Am];refine AF (fun hl=>?_) fun an=>?_
  .have q:i<s.length:=by omega
   rw[drop_cons q] at he;simp only[Jj,Eu] at he;refine AV (fun vs W=>∃(i:Nat),i<=s.length/\vs=[ov,zI i]/\Grow V W/\out.length+(s.length-i)+(p.length-k)<=s.length+p.length/\out++MI p[k]++Bs (s.drop i) (p.drop (k+1))=Bs s p) ?_ ?_
   .rintro vs W2 ⟨J,ba,rfl,T,Z,bb⟩ _;simp only[GC];exact put J ov out W2 (AE.mod B T (fun _ _ h=>h) fun _ _ _ h=>h) (U.grow T) ba Z bb
   obtain⟨a,r,e,_,hr,hc,hx⟩:=(hs.grow Q (by decide) fun _ _ h=>h).get q;subst hx;cases e;refine Cx (fun W=>Grow V W) (Mod.drew _ _) ?_;refine AT q ?_;rw[AG,Addr.add_add];refine Ay (fun W hW=>hW.cell (hc 0 _ rfl) fun h=>h) ?_;rw[AG];refine Ay (fun W hW=>hW.cell c8 fun h=>h) ?_;rw[Am];intro W2 T;have bc:HY w.heap.size W2 ov out:=AE.mod B T (fun _ _ h=>h) fun _ _ _ h=>h;refine AF (fun X=>?_) fun al=>?_
   .rw[DN X,DN X] at he;refine AT q (Ah hr (fun j u hu=>by rw[Addr.add_add];exact T.cell (hc j u hu) fun h=>h) ?_);refine Da IY bc (Q.trans T).size (cs:=s[i].cells) (x:=s[i]) (by kernel_rfl) rfl rfl (fun _ _ _=>DV.one) (fun _ _ _ _ _ _ h=>h) (by omega) (by simp only[maxLen];omega) fun v' w' o' m' a1=>?_;rw[AQ,AO (by omega)];refine⟨⟨i+1,v',out++[s[i]],q,rfl,o',(U.grow T).push m' a1,by simp only[Bp,S5,lG];omega,by rw[<-he];simp⟩,by rw[BD,BD];omega⟩
   .rw[Bq al,Bq al] at he;refine Cx (fun W=>Grow W2 W) (Mod.drew _ _) ?_;refine AT q ?_;rw[AG,Addr.add_add];refine Ay (fun W hW=>hW.cell (T.cell (hc 0 _ rfl) fun h=>h) fun h=>h) ?_;rw[AG];refine Ay (fun W hW=>hW.cell (T.cell c8 fun h=>h) fun h=>h) ?_;rw[Aj];intro W3 g7;refine AF (fun heq=>?_) fun bd=>?_
    .rw[DN heq] at he;rw[AQ,AO (by omega)];exact⟨i+1,q,rfl,T.trans g7,by omega,by rw[<-he];simp⟩
    .rw[Bq bd] at he;exact⟨i,hi,rfl,T.trans g7,m,by rw[drop_cons q,<-he];simp⟩
  .have e:s.drop i=[]:=mW (by omega);rw[e] at he;simp only[Jj,Eu,ky] at he;exact put i ov out V B U hi m (by rw[e,<-he];simp)
 .obtain rfl:k=p.length:=by omega
  rw[nD] at he;simp only[Bs] at he;refine Fm (e:=79) (k:=5) (i:=Tryz.t79) (by kernel_rfl) (by kernel_rfl) (by kernel_rfl) (hs.grow g (by decide) fun _ _ h=>h) hi fun v' a1=>?_;refine jP (w0:=w) IY B g a1 (fun _ _=>DV.one (w:=W)) (fun _ _ _ _ h=>h) (by rw[I3];omega) (by simp only[maxLen,I3];omega) fun bn w' o' g'=>?_;rw[he] at o';exact⟨o',g'⟩
section
variable {F C:Nat->Prop}{W:World}{b bt N:Nat}{L:List (List Attr)}
def Xl{k m:Nat}{p:List Chg}(h:Di BF.toAvT F C W b bt L N)(hN:N<=100000000000)(B:k<=m)(hm:m<=L.length)(hl:L.length<=536870912)(hs:∀x∈L,x.length*48<=140737488355328)(hp:Ey S W v p)(hb:∀x∈L,x.length+p.length<=1099511627776) :
  AB prog 85 [.pointer (some ⟨b,0,none⟩),zI (k:Int),zI (m:Int),v] (fun v' w'=>v'=zI 0/\∃F' q,(∀x,F x->F' x)/\(∀x,C x->q x)/\(∀x,F' x->F x\/W.heap.size<=x)/\(∀x,q x->C x\/W.heap.size<=x)/\Di BF.toAvT F' q w' b bt (L.take k++((L.take m).drop k).map (fun x=>Bs x p)++L.drop m) (N+L.length+4)/\Mod F W w') W:=by
 apply eV;refine AA (SX h (by omega) B hm hl hs) ?_;rintro _ J ⟨O,W0,rfl,gA,gB,o⟩;refine BO ?_;refine Nh ?_;have zA:=gA.size;have zB:=gB.size;have hF:=h.lt;have I:=gA.trans gB;generalize hX:(L.take m).drop k=X at *;have b1:X.length<=L.length:=by rw[<-hX,I3,Lc];omega
 have a6:∀x∈X,x∈L:=fun x i=>by rw[<-hX] at i;exact i7 (iV i)
 have a7:=hp.GN (by decide);have fin:∀(w2:World) (D2:Nat->Prop),(∀x,D2 x->W0.heap.size<=x/\O.ownBlock≠some x)->AE W0.heap.size 43 1 (Cw D2) w2 O (X.map fun x=>Bs x p)->Mod (fun x=>O.ownBlock=some x) J w2->
   AB prog 104 [.pointer (some ⟨b,0,none⟩)] (fun a8 w6=>AB prog 147 [a8,zI (k:Int),zI (m:Int),O] (fun _ w'=>(zI 0:Value)=zI 0/\∃F' q,(∀x,F x->F' x)/\(∀x,C x->q x)/\(∀x,F' x->F x\/W.heap.size<=x)/\(∀x,q x->C x\/W.heap.size<=x)/\Di BF.toAvT F' q w' b bt (L.take k++X.map (fun x=>Bs x p)++L.drop m) (N+L.length+4)/\Mod F W w') w6) w2:=by
  intro w2 D2 Q o2 m2;have z2:=m2.size;have U:=AE.Ax o;have b0:=AE.Ax o2
  let q:Nat->Prop:=fun x=>C x\/(D2 x/\x<w2.heap.size)
  have h2:Di BF.toAvT F C w2 b bt L N:=(h.grow I).mod m2 fun x i e=>by
   have:=hF x i;have:=(U x e).1;omega
  have h4:Di BF.toAvT F q w2 b bt L N:=h2.sub (fun x i=>.inl i) (fun x i e=>by
    rcases e with e|e
    .exact h.Iw x i e
    .have:=hF x (.inl i);have:=(Q x e.1).1;omega) fun x e=>by
    rcases e with e|e
    .have:=hF x (.inr e);omega
    .exact e.2
  have o4:AE W0.heap.size 43 1 (Cw q) w2 O (X.map fun x=>Bs x p):=AE.mod o2 (Mod.refl (fun _=>False) _) (fun _ _ h=>h) fun r y _ hy=>BF.rsub hy fun x i hd=>.inr ⟨hd,i⟩;have er:=Jb L (X.map fun x=>Bs x p) B;have V:(X.map fun x=>Bs x p).length=X.length:=Iq _;have ak:(GX.CB L k m (X.map fun x=>Bs x p)).length<=1099511627776:=by rw[er];simp only[Bp,Lc,I3,V];omega
  refine AA (ER FR h4) ?_;rintro _ w3 ⟨rfl,e3⟩;subst e3;refine AA (Iz (SU (g:=BF)) (L:=X.map fun x=>Bs x p) h4 (by omega) o4.sl (fun x i al=>by have:=hF x (.inl al);have:=i.1;omega) B (by omega) (KX (by omega)) (KX (l:=GX.CB L k m (X.map fun x=>Bs x p)) ak) (KX (l:=(GX.split L k).1.getLast?.toList++(X.map fun x=>Bs x p)++(GX.split (GX.split L k).2 (m - k)).2.head?.toList) (by
   have q1:=toList_le (GX.split L k).1.getLast?;have q2:=toList_le (GX.split (GX.split L k).2 (m - k)).2.head?;simp only [Bp,V];omega))) ?_
  rintro _ w5 ⟨F',k1,k2,k3,k4⟩;have an:BF.toAvT.k.CB L k m (X.map fun x=>Bs x p)=L.take k++X.map (fun x=>Bs x p)++L.drop m:=er;rw[an] at k3;obtain⟨A,T,t1,t2,t3,t4,t5⟩:=k3.EH;refine⟨rfl,F',q,k1,fun x i=>.inl i,fun x i=>(k2 x i).imp (fun h=>h) fun h=>by omega,fun x i=>i.imp (fun h=>h) fun h=>by have:=(Q x h.1).1;omega,⟨k3.box,⟨A,T,t1,t2,t3,t4,by omega⟩,k3.fb⟩,((I.next m2 fun x i e=>by have:=(U x e).1;omega).mono fun _ _ h=>h.elim).trans k4⟩
 obtain⟨a1,c1,rfl,b2,b6,hq,hn⟩:=AE.shape o;rw[AP];cases a1 with
 |none=>
  have:=hn rfl;subst this;refine AX (fun vs w2=>vs=[zI 0]/\w2=J) (fun _ _=>0) ⟨rfl,rfl⟩ ?_;rintro vs _ ⟨rfl,rfl⟩ _;rename World=>J
  rw[Bl,Nr,Am];exact AF (fun h=>by simp at h) fun _=>fin J (fun _=>False) (fun _ h=>h.elim) (AE.mod (R':=Cw fun _=>False) o (Mod.refl (fun _=>False) _) (fun _ _ h=>h) fun r y hy _=>by simp at hy) (Mod.refl _ _)
 |some p1=>
  obtain⟨g,rfl,av,b7,_⟩:=hq _ rfl;refine Se (W0:=W0) (call:=fun sv K W'=>AB prog 156 [sv,v] K W') (M:=X.map fun x=>Bs x p) (Iq _) (by omega) av gB o (fun x i e=>i.2 (by rw[e];rfl)) (fun j q1 q2 sv W' K Y ax hK=>?_) fun w' oM mm=>?_
  .have b8:=Y.size;have ay:Ey (fun x=>S x/\x<W.heap.size) W' v p:=BB.mono (BB.mono (R':=Eh) (w':=J) a7 (fun _ _ h=>h) (fun x i _=>I.same x i fun h=>h) (by decide) fun _ _ h=>h) (fun _ _ h=>h) (fun x i hS=>Y.same x i fun e=>by have:=hS.2;omega) (by decide) fun _ _ h=>h;refine AA (Ow ax ay (hb _ (a6 _ (WJ q1)))) ?_;rintro v' w' ⟨k1,k2⟩;exact hK v' w' (by rw[mS];exact k1) k2
  .refine fin w' _ (fun x i=>⟨i.1,fun e=>?_⟩) oM (mm.mono fun x _ e=>by subst e;rfl);simp only[Value.ownBlock,i6] at e;exact i.2 e.symm
end
def gN:AB prog 36 [] (fun v' w'=>∃b,v'=.pointer (some ⟨b,0,none⟩)/\W.heap.size<=b/\Bx w' b [.pointer none]/\Grow W w') W:=by
 apply fX;refine⟨[Value.pointer none].toArray,by kernel_rfl,?_⟩;exact Bx.box fun b j hb i B=>⟨b,rfl,hb,B,i⟩
def de:AB prog 37 [] (fun v' w'=>∃b,v'=.pointer (some ⟨b,0,none⟩)/\W.heap.size<=b/\Bx w' b [.pointer none]/\Grow W w') W:=by
 apply dK;refine⟨[Value.pointer none].toArray,by kernel_rfl,?_⟩;exact Bx.box fun b j hb i B=>⟨b,rfl,hb,B,i⟩
def fA:AB prog 38 [] (fun v' w'=>∃b,v'=.pointer (some ⟨b,0,none⟩)/\W.heap.size<=b/\Bx w' b [.pointer none]/\Grow W w') W:=by
 apply db;refine⟨[Value.pointer none].toArray,by kernel_rfl,?_⟩;exact Bx.box fun b j hb i B=>⟨b,rfl,hb,B,i⟩
def Tg:∀(l:List Spn) (j:Nat),(∀s∈l,0<s.n)->Ei l<=j->Spn.kd.over l 0 j=l:=by
 intro l;induction l with
 |nil=>intro j _ _;rfl
 |cons s l B=>
  intro j m I;have h0:0<s.n:=m s (by simp);have i:Ei (s::l)=s.n+Ei l:=Tr.Bb Spn.kd.μ s l;rw[i] at I;have o:(Spn.kd.μ s).1=s.n:=rfl;rw[Kd.over,o,Nat.zero_sub,B (j-s.n) (fun x J=>m x (by simp[J])) (by omega),DN (by omega)];have O:∀q,s.n<=q->Spn.kd.part s 0 q=s:=fun q Q=>by
   unfold Kd.part;rw[Bq (by omega),o,Bq (by omega)]
  rw[O _ (by omega)];rfl
def UK{l:List Spn}(hv:Bx W c [v])(U:AE B 108 2 Dt W v l)(hl:l.length<=1099511627776) :
  Jy True prog 112 [.pointer (some ⟨c,0,none⟩)] (fun k=>[.agg ((l[k]?.getD ⟨0,0⟩).cells.toArray)]) l.length (fun b=>b=c\/v.ownBlock=some b) W:=by
 intro yl J Jx w1 hg h0 V ak Ir m;apply Yd;refine AL ((hv.grow hg).cells 0 _ rfl) ?_;obtain⟨a,n,e,_⟩:=U.shape;have I:=U.sl;have X:=AE.Ax U;rw[e,AP];rw[e] at I;refine AX (fun vs Y=>∃k:Nat,k<=l.length/\vs=[zI k]/\J k (fun _=>False) Y) (fun vs _=>l.length-De vs 0) ⟨0,Nn _,rfl,h0⟩ ?_;rintro vs Y ⟨k,hk,rfl,hJ⟩ _;rw[Bl,Nr,Am];refine AF (fun al=>?_) fun an=>?_;rotate_left
 .obtain rfl:k=l.length:=by omega
  exact⟨_,.inl hJ⟩
 have i:k<l.length:=by omega
 obtain⟨q,r,rfl,hq,hr,Z,a1⟩:=I.get i;have O:r=l[k].cells:=a1;subst O;have Q:v.ownBlock=some q.block:=by rw[e];exact hq.2
 refine AT i (Ah (vs:=l[k].cells) rfl (fun j u hu=>?_) ?_)
 .rw[Addr.add_add,<-Z j u hu];exact lz (by rw[BJ];exact Ir k _ Y hJ q.block (X _ Q).2 (.inr Q))
 refine Bx.new (vs:=l[k].cells) rfl rfl (Spn.one _) fun b4 W4 av g4 B4=>?_;refine B4.E0 rfl ?_;have a6:J k (fun _=>False) W4:=V k _ _ _ _ hJ (g4.mono fun _ _ h=>h.elim) fun b hb=>hb.elim;refine .inr ⟨yl,rfl,?_⟩;have o:=m k _ W4 i a6;dsimp only at o;rw[By i] at o;refine FJ o ?_;rintro vv W3 ⟨ax,a7,_,⟨rfl,a8⟩|⟨rfl,O0⟩⟩
 .rw[An];refine AS ?_;rw[AQ,AO (by omega)];exact⟨⟨k+1,i,rfl,a8⟩,by rw[CH,CH];omega⟩
 .rw[An];exact Ak ⟨_,.inr O0⟩
def fz{b bt N:Nat}{l:List Spn}(h:Di DJ.toAvT F GJ W b bt l N)(hN:N<=109951162000)(hs:Ei l<=1099511627776)(hl:l.length<=109951162777)(hp:∀s∈l,0<s.n) :
  AB prog 55 [.pointer (some ⟨b,0,none⟩)] (fun v' w'=>∃c Rd,v'=.func (.func 112) #[] #[.pointer (some ⟨c,0,none⟩)]/\Grow W w'/\(∀x,Rd x->W.heap.size<=x)/\Jy True prog 112 [.pointer (some ⟨c,0,none⟩)] (fun k=>[.agg ((l[k]?.getD ⟨0,0⟩).cells.toArray)]) l.length Rd w') W:=by
 apply dh;refine AA (Me Hs h) ?_;rintro _ U ⟨rfl,I⟩;have h1:=h.grow I;refine AA (J7 (i:=0) (j:=Ei l) h1 hN (Nn _) (Mp _) hs hl) ?_;rintro _ w2 ⟨V,rfl,J,X⟩;rw[Tg l _ hp (Mp _)] at J;refine BO ?_;refine Bx.zero fun c w3 hc O B=>?_;have Y:=B.lt (by decide);have Z:AE U.heap.size 108 2 Dt w3 V l:=AE.mod (R':=Dt) J O (fun _ _ h=>h) fun _ _ _ h=>h;obtain⟨Q,T⟩:=Z.one;have z1:=I.size;have z2:=X.size;have z3:=O.size;have o:=AE.Ax J;refine B.st (q:=0) (show 0<1 by decide) Q T fun w4 B4 m4=>?_;have o4:AE U.heap.size 108 2 Dt w4 V l:=AE.mod (R':=Dt) Z m4 (fun x m e=>by have:=(o x m).2;omega) fun _ _ _ h=>h;refine⟨c,_,rfl,((I.trans X).trans O).next m4 fun x m e=>by omega,fun x m=>?_,UK B4 o4 (by omega)⟩;rcases m with rfl|m
 .omega
 .have:=(o x m).1;omega
def Qh{b:Nat}(i:Bx W b [.pointer none]) :
  AB prog 53 [.pointer (some ⟨b,0,none⟩),zI 0] (fun v' w'=>v'=.tuple #[zI 0,zI 0]/\∃bt F,Di Az.toAvT F GJ w' b bt [] 0/\(∀x,F x->x=b\/W.heap.size<=x)/\Mod (fun x=>x=b) W w') W:=by
 apply VA;have j:=i.lt (S3 _);refine AA (K:=fun v' w'=>v'=zI 0/\∃bt F,Di Az.toAvT F GJ w' b bt [] 0/\(∀x,F x->x=b\/W.heap.size<=x)/\Mod (fun x=>x=b) W w') ?_ ?_
 .apply Em.jl;unfold Yj;refine DS (AS ?_);rw[Am];refine AF (fun e=>by omega) fun _=>?_;rw[BL];refine AF (fun e=>by omega) fun _=>?_;refine AA (VL (g:=Az.toAvT) (C:=GJ) Em i (fun h=>h) fun _ h=>h.elim) ?_;rintro _ m ⟨rfl,h⟩;rw[BL];exact AF (fun e=>by omega) fun _=>⟨rfl,h⟩
 rintro _ m ⟨rfl,bt,F,h,q,B⟩;refine Nh ?_;refine AA (ER Em h) ?_;rintro _ _ ⟨rfl,rfl⟩;rename World=>m
 obtain⟨A,T,I,J,t3,t4,t5⟩:=h.EH;refine AA (Qg (p:=0) I J (Nn _) (ND (by rw[t4];exact Nn _))) ?_;rintro _ w2 ⟨rfl,o⟩;refine⟨by rw[nG];rfl,bt,F,h.grow o,q,B.next o fun _ _ h=>h.elim⟩
def QN{S D:Nat->Prop}{b:Nat}{R:List (List Attr)}(hB:Bx W b [.pointer none])(hl:R.length<=536870912)(hv:BB S 1 (Cw D) W v R)(J:∀x,S x\/D x->x≠b)(hs:∀x∈R,x.length*48<=140737488355328) :
  AB prog 76 [.pointer (some ⟨b,0,none⟩),zI 0,v] (fun v' w'=>v'=zI 0/\∃bt F' B,(∀x,F' x->x=b\/W.heap.size<=x)/\(∀x,B x->W.heap.size<=x)/\Di BF.toAvT F' B w' b bt R (R.length+4)/\Mod (fun x=>x=b) W w') W:=by
 apply Ut;have a7:=hB.lt (S3 _);refine AA (K:=fun v' w'=>v'=zI 0/\∃bt F,Di BF.toAvT F GJ w' b bt [] 0/\(∀x,F x->x=b\/W.heap.size<=x)/\Mod (fun x=>x=b) W w') ?_ ?_
 .apply FR.jl;unfold Yj;refine DS (AS ?_);rw[Am];refine AF (fun e=>by omega) fun _=>?_;rw[BL];refine AF (fun e=>by omega) fun _=>?_;refine AA (VL (g:=BF.toAvT) (C:=GJ) FR hB (fun h=>h) fun _ h=>h.elim) ?_;rintro _ w1 ⟨rfl,h⟩;rw[BL];exact AF (fun e=>by omega) fun _=>⟨rfl,h⟩
 rintro _ w1 ⟨rfl,bt,F,h1,hF,m1⟩;refine Nh ?_;obtain⟨a,c,rfl,_⟩:=hv.shape;have O:∀M:List (List Attr),Tr.sz BF.toAvT.k.μ M=M.length:=Lq;rw[AP];refine AA (Me FR h1) ?_;rintro _ w2 ⟨rfl,Q⟩;rw[O,Aq,wrap64 (by simp) (by simp),BL];refine AF (fun e=>by simp only[lG] at e;omega) fun _=>?_;have T:=h1.grow Q;refine AA (ER FR T) ?_;rintro _ w3 ⟨rfl,e3⟩;subst e3;rename World=>w2
 have z1:=m1.size;have z2:=Q.size;have o:Mod (fun x=>x=b) W w2:=m1.next Q fun _ _ h=>h.elim;have U:BB (fun x=>(S x/\x<W.heap.size)/\x≠b) 1 (Cw fun x=>(D x/\x<W.heap.size)/\x≠b) w2 (.slice a R.length c) R:=BB.mono (hv.GN (by decide)) (fun x _ h=>⟨h,J x (.inl h.1)⟩) (fun x m h=>o.same x m fun e=>J x (.inl h.1) e) (by decide) fun r x m=>BF.BZ (BF.rsub m fun y V q=>⟨⟨q,V⟩,J y (.inr q)⟩) o fun y _ q e=>q.2 e;refine AA (KL U (by omega) hs) ?_;rintro v4 w4 ⟨o4,X⟩;have z4:=X.size;have I:=T.lt
 let B:Nat->Prop:=fun x=>w2.heap.size<=x/\x<w4.heap.size/\v4.ownBlock≠some x
 have h4:Di BF.toAvT F B w4 b bt [] 0:=(T.grow X).sub (fun x m=>m.elim) (fun x m e=>by have:=I x (.inl m);have:=e.1;omega) fun x e=>e.2.1;have Y:AE w2.heap.size 43 1 (Cw B) w4 v4 R:=AE.mod o4 (Mod.refl (fun _=>False) _) (fun _ _ h=>h) fun r y _ V=>BF.rsub V fun x m q=>⟨q.1,m,q.2⟩;have Z:=Jb [] R (Mp 0);simp only [List.take_nil,List.drop_nil,ky,kK] at Z;refine AA (Iz (SU (g:=BF)) (i:=0) (j:=0) (L:=R) h4 (by omega) Y.sl (fun x m a1=>by have:=I x (.inl a1);have:=m.1;omega) (Mp 0) (by omega) (KX (l:=[]) (by simp)) (KX (l:=GX.CB [] 0 0 R) (by rw [Z];omega)) (KX (l:=(GX.split [] 0).1.getLast?.toList++R++(GX.split (GX.split [] 0).2 (0 - 0)).2.head?.toList) (by
  have q1:=toList_le (GX.split [] 0).1.getLast?;have q2:=toList_le (GX.split (GX.split [] 0).2 (0 - 0)).2.head?;simp only [Bp];omega))) ?_
 rintro _ w5 ⟨F',k1,k2,k3,k4⟩;have a6:BF.toAvT.k.CB [] 0 0 R=R:=Z;rw[a6,mG] at k3;refine⟨rfl,bt,F',B,fun x m=>?_,fun x m=>by have:=m.1;omega,k3,(o.next X fun _ _ h=>h.elim).next k4 fun x m e=>?_⟩
 .rcases k2 x m with e|e
  .exact(hF x e)
  .exact .inr (by omega)
 .rcases hF x e with e|e
  .exact e
  .omega
def FC(g o x:Nat):(⟨g,o,none⟩:Addr).add x=⟨g,o+x,none⟩:=by unfold Addr.add;split<;>simp_all
def Su{g off:Nat}:∀(vs:List Value) (q:Nat) (W:World),(∀j,q<=j->j<q+vs.length->Live W ⟨g,off+j,none⟩)->
  Mod (fun x=>x=g) W (EW W ⟨g,off,none⟩ q vs)/\(∀j u,vs[j]?=some u->(EW W ⟨g,off,none⟩ q vs).cell? ⟨g,off+q+j,none⟩=some u)/\(∀j,(j<off+q\/off+q+vs.length<=j)->(EW W ⟨g,off,none⟩ q vs).cell? ⟨g,j,none⟩=W.cell? ⟨g,j,none⟩)/\(∀a,Live W a->Live (EW W ⟨g,off,none⟩ q vs) a):=by
 intro vs;induction vs with
 |nil=>intro q W _;exact⟨Mod.refl _ _,fun j u hu=>by simp at hu,fun _ _=>rfl,fun _ h=>h⟩
 |cons x vs B=>
  intro q W hl;simp only[EW];rw[FC];have i:=hl q (Mp _) (by simp);obtain⟨I,J,o,O⟩:=B (q+1) (W.setCell ⟨g,off+q,none⟩ x) fun j h1 T=>(hl j (by omega) (by simp;omega)).set _ _;refine⟨(Mod.setCell (M:=fun x=>x=g) W ⟨g,off+q,none⟩ x rfl).trans I,fun j u hu=>?_,fun j Q=>?_,fun a ha=>O a (ha.set _ _)⟩
  .cases j with
   |zero=>
    simp at hu;subst hu;obtain⟨U,m⟩:=kH.1 i.1;rw[o _ (.inl (by omega))];exact kQ _ _ _ m
   |succ j=>
    have:=J j u (by simpa using hu);rw[show off+q+(j+1)=off+(q+1)+j by omega];exact this
  .simp only[S5] at Q;rw[o j (by omega),S4 _ _ _ _ (by intro e;simp only[Addr.mk.injEq] at e;omega)]
structure Jl {α:Type} (k:Nat) (cs:α->List Value) (W:World) (g:Nat) (L:List α):Prop where
 cells:∀m (h:m<L.length) j u,(cs L[m])[j]?=some u->W.cell? ⟨g,m*k+j,none⟩=some u
 live:∀m j,m<L.length->j<k->Live W ⟨g,m*k+j,none⟩
section
variable {α:Type}{k:Nat}{cs:α->List Value}{W W':World}{g:Nat}{L:List α}
def Jl.mod(h:Jl k cs W g L)(m:Mod M W W')(o:¬M g):Jl k cs W' g L:=⟨fun i hi j u hu=>m.cell (h.cells i hi j u hu) o,fun i j hi q=>(h.live i j hi q).mod m o⟩
def Jl.store{i:Nat}{x:α}{K:World->Prop}(h:Jl k cs W g L)(hi:i<L.length)(hk:∀y,(cs y).length=k)(h1:∀v∈cs x,v.oneCell'=true)
 (I:∀W',Jl k cs W' g (L.set i x)->Mod (fun b=>b=g) W W'->K W'):Ab k (.pointer (some ⟨g,i*k,none⟩)) (.agg (cs x).toArray) K W:=by
 have lv:∀j,j<k->Live W ((⟨g,i*k,none⟩:Addr).add j):=fun j o=>by rw[FC];exact h.live i j hi o
 obtain⟨J,O,Q,T⟩:=Su (g:=g) (off:=i*k) (cs x) 0 W fun j _ o=>h.live i j hi (by have:=hk x;omega);refine⟨_,cs x,rfl,rfl,hk x,h1,fun j o=>lv j o,I _ ⟨fun m hm j u hu=>?_,fun m j hm o=>T _ (h.live m j (by simpa using hm) o)⟩ J⟩;rw[List.getElem_set] at hu;split at hu
 .rename_i e;subst e;have:=O j u hu;rwa [lD] at this
 .rename_i q;have B:m<L.length:=by simpa using hm
  have o:j<k:=by have:=(Ad.1 hu).1;rw[hk] at this;exact this
  rw[Q]
  .exact h.cells m B j u hu
  .rw[hk];rcases qH q with e|e
   .right;have:(i+1)*k<=m*k:=lW _ e;rw[lO] at this;omega
   .left;have:(m+1)*k<=i*k:=lW _ e;rw[lO] at this;omega
def Jl.of{B e n c:Nat}{R:World->List Value->α->Prop}(h:AE B e k R W (.slice (some ⟨g,0,none⟩) n c) L)(hk:0<k)(o:∀r x,R W r x->r=cs x):Jl k cs W g L:=by
 refine⟨fun m hm j u hu=>?_,fun m j hm q=>?_⟩
 .obtain⟨rows,h1,J,O,Q⟩:=id h;obtain⟨a,r,i,_,hr,hc,I⟩:=(AE.sl h).get hm;cases i;have:=hc j u (by rw[o _ _ I];exact hu);rwa [FC,mG] at this
 .obtain⟨g',i,_,hl⟩:=AE.live h hm q;cases i;rwa [FC,mG] at hl
end
def WD{zero:Array Value}{n:Nat}(m:0<zero.size)(h1:∀v∈zero.toList,v.oneCell'=true):∀v∈(Builtin.zeroCells zero n).toList,v.oneCell'=true:=by
 intro v j;simp only[Builtin.zeroCells,Array.toList_map,kT] at j;obtain⟨i,_,rfl⟩:=j;refine h1 _ ?_;have:i%zero.size<zero.size:=qI _ m;rw[ow zero _ this];exact Array.getElem_mem_toList this
def NQ{t e k:Nat}{i:TypeInfo}{zv:Value}{g off m c:Nat}(hu:P.underlying t=some (.slice e))(hi:P.info? e=some i)(J:i.zero=some zv)(hk:zv.cells.size=k)(O:0<k)(h1:∀v∈zv.cells.toList,v.oneCell'=true)(hm:0<m)
 (hl:∀j,j<m*k->Live W ⟨g,off+j,none⟩):∃W',(Builtin.clear_ #[t] 0 [.slice (some ⟨g,off,none⟩) m c].toArray).run P W=.ok (.tuple #[]) W'/\Mod (fun x=>x=g) W W'/\∀j,j<off->W'.cell? ⟨g,j,none⟩=W.cell? ⟨g,j,none⟩:=by
 have I:(Builtin.zeroCells zv.cells m).toList.length=m*k:=by rw[nH,rD,hk]
 have lv:∀j,0<=j->j<0+(Builtin.zeroCells zv.cells m).toList.length->Live W ⟨g,off+j,none⟩:=fun j _ B=>hl j (by omega);obtain⟨Q,_,T,_⟩:=Su (g:=g) (off:=off) (Builtin.zeroCells zv.cells m).toList 0 W lv;have o:=Qa (P:=P) (⟨g,off,none⟩:Addr) (Builtin.zeroCells zv.cells m).toList 0 W (WD (by omega) h1) (fun j h0 B=>by rw[FC];exact lv j h0 B);refine⟨_,?_,Q,fun j B=>T j (.inl (by omega))⟩;have U:(zeroValue e).run P W=.ok zv W:=by simp[zeroValue,typeInfo,hi,J]
 obtain⟨m,rfl⟩:∃q,m=q+1:=⟨m-1,by omega⟩;simp[Builtin.clear_,run_underlying hu,U,o]
def Vi(G:World->Prop)(j:Value)(i:Chg->Bool):Prop:=∀W c (K:Cont),G W->(∀W',Grow W W'->K (.bool (i c)) W')->Bi prog Cq j [.agg c.cells.toArray] K W
def Yu{p:List Chg}{o:Chg->Bool}(h:Ey S w v p)(J:Vi (Grow w) fr o) :
  AB prog 202 [v,fr] (fun v' w'=>Grow w w'/\((v'=zI (-1)/\∀c∈p,o c=false)\/∃i:Nat,∃hi:i<p.length,v'=zI i/\o p[i]=true/\∀c∈p.take i,o c=false)) w:=by
 apply aW;obtain⟨a,c,rfl,hm⟩:=h.shape;simp only[maxLen] at hm;rw[AP];refine AX (fun vs W=>∃i:Nat,i<=p.length/\vs=[zI i]/\Grow w W/\∀c∈p.take i,o c=false) (fun vs _=>p.length-De vs 0) ⟨0,Nn _,rfl,Mod.refl _ _,by simp⟩ ?_;rintro vs W ⟨i,hi,rfl,g,B⟩ _;rw[Bl,Nr,Am];refine AF (fun O=>?_) fun Q=>?_
 .have m:i<p.length:=by omega
  obtain⟨q,r,rfl,_,hr,hc,rfl⟩:=(h.grow g (by decide) fun _ _ h=>h).get m;refine AT m (Ah hr (fun j u hu=>by rw[Addr.add_add];exact hc j u hu) ?_);refine J W p[i] _ g fun W' g'=>?_;cases e:o p[i] with
  |true=>exact Ak ⟨g.trans g',.inr ⟨i,m,rfl,e,B⟩⟩
  |false=>
   refine AS ?_;rw[AQ,AO (by omega)];refine⟨⟨i+1,m,rfl,g.trans g',fun c hc=>?_⟩,by rw[CH,CH];omega⟩;rw[No,By m] at hc;rcases C3.1 hc with hc|hc
   .exact B c hc
   .simp at hc;subst hc;exact e
 .have:i=p.length:=by omega
  subst this;exact⟨g,.inl ⟨rfl,fun c hc=>B c (by rw[PF];exact hc)⟩⟩
def Chg.len(c:Chg):c.cells.length=6:=rfl
set_option maxRecDepth 20000 in
def Za{p:List Chg}{o:Chg->Bool}(Y:AE B 133 6 Eh w v p)(al:p.length<=1099511627776)(hf:Vi (Mod (fun b=>v.ownBlock=some b) w) fr o) :
  AB prog 128 [v,fr] (fun v' w'=>Ey (fun b=>v.ownBlock=some b) w' v' (p.filter fun c=>!o c)/\Mod (fun b=>v.ownBlock=some b) w w') w:=by
 apply YT;refine AA (Yu (AE.sl Y) fun W c K g hK=>hf W c K (g.mono fun _ _ e=>e.elim) hK) ?_;rintro _ w1 ⟨Z,⟨rfl,J⟩|⟨i0,O,rfl,hd,J⟩⟩
 .rw[Aj];refine AF (fun _=>?_) fun e=>(e rfl).elim;rw[mq.2 fun c hc=>by rw[J c hc];rfl];exact⟨BB.sub (AE.sl (AE.mod Y Z (fun _ _ h=>h) fun _ _ _ h=>h)) (fun b _ h=>h.2) (by decide) fun _ _ h=>h,Z.mono fun _ _ e=>e.elim⟩
 rw[Aj];refine AF (fun e=>absurd e (by omega)) fun _=>?_;obtain⟨a,c,rfl,an,av,hp,hn⟩:=AE.shape Y;cases a with
 |none=>rw[hn rfl] at O;simp at O
 |some q=>
 obtain⟨g,rfl,ax,a1,ak⟩:=hp q rfl;have a6:∀b,(Value.slice (some ⟨g,0,none⟩) p.length c).ownBlock=some b↔b=g:=fun b=>⟨fun e=>by cases e;rfl,fun e=>by subst e;rfl⟩;simp only[a6] at hf ⊢;have R0:Jl 6 Chg.cells w g p:=Jl.of Y (by decide) fun _ _ h=>h;have R1:=R0.mod Z fun h=>h;rw[AQ,AO (by omega)];refine AX (fun vs W=>∃(i j:Nat) (L:List Chg),i<j/\j<=p.length/\vs=[zI i,zI j]/\L.length=p.length/\Jl 6 Chg.cells W g L/\L.take i=(p.take j).filter (fun c=>!o c)/\L.drop j=p.drop j/\Mod (fun b=>b=g) w W) (fun vs _=>p.length-De vs 1)
  ⟨i0,i0+1,p,by omega,O,rfl,rfl,R1,?_,rfl,Z.mono fun _ _ e=>e.elim⟩ ?_
 .rw[No,By O,oU,mq.2 fun c hc=>by rw[J c hc];rfl];simp[hd]
 rintro vs W ⟨i,j,L,ay,hj,rfl,hL,hR,ht,T,hm⟩ _;simp only[GC];rw[AP,Am];refine AF (fun U=>?_) fun b0=>?_
 .have I:j<p.length:=by omega
  have a7:L[j]'(by omega)=p[j]:=by
   have e:=kZ List.head? T;rw[p4,p4,By (by omega),By I] at e;exact kW e
  refine AT I ?_;rw[AH];refine Ah (vs:=p[j].cells) rfl (fun q u hu=>by rw[FC];exact hR.cells j (by omega) q u (by rw[a7];exact hu)) ?_;refine BQ (vs:=p[j].cells) rfl rfl (Eh.one (w:=W) (x:=p[j]) rfl) fun b7 w4 b1 b2 g4 V _=>?_;have b6:g<W.heap.size:=X8 a1 hm.size;refine Ah (vs:=p[j].cells) rfl V ?_;refine hf w4 p[j] _ (hm.next g4 fun _ _ e=>e.elim) fun W5 g5=>?_;have R5:=(hR.mod g4 fun h=>h).mod g5 fun h=>h;have m5:=(hm.next g4 fun _ _ e=>e.elim).next g5 fun _ _ e=>e.elim;have et:(p.take (j+1)).filter (fun c=>!o c)=(p.take j).filter (fun c=>!o c)++if o p[j] then[] else[p[j]]:=by
   rw[No,By I,oU];cases e:o p[j]<;>simp[e]
  have Q:L.drop (j+1)=p.drop (j+1):=by have:=kZ (List.drop 1) T;simpa[oJ] using this
  cases e:o p[j] with
  |true=>
   rw[An];refine AS ?_;rw[AQ,AO (by omega)];rw[e,DN rfl,kK] at et;refine⟨⟨i,j+1,L,by omega,I,rfl,hL,R5,by rw[et];exact ht,?_,m5⟩,by rw[BD,BD];omega⟩;exact Q
  |false=>
   rw[An];refine Ak ?_;refine Ah (vs:=p[j].cells) rfl (fun q u hu=>g5.cell (V q u hu) fun h=>h) ?_;refine AT (by omega) ?_;rw[AH];refine R5.store (i:=i) (x:=p[j]) (by omega) Chg.len (Eh.one (w:=W) (x:=p[j]) rfl) fun W6 R6 m6=>?_;rw[AQ,AQ,AO (by omega),AO (by omega)];rw[e,Bq (by decide)] at et;refine⟨⟨i+1,j+1,L.set i p[j],by omega,I,rfl,by simp[hL],R6,?_,?_,m5.trans m6⟩,by rw[BD,BD];omega⟩
   .rw[et,<-ht,List.take_set,No,By (by omega),lY _ _ (by simp;omega)];simp[lA (show i<=L.length by omega)]
   .rw[qB (by omega)];exact Q
 .obtain rfl:j=p.length:=by omega
  rw[PF] at ht;refine Ae (Er (e:=133) (k:=6) (i:=Tryz.t133) (by kernel_rfl) (by kernel_rfl) (by kernel_rfl) (by omega) W) ?_;have a8:sliced (some (⟨g,0,none⟩:Addr)) i p.length c 6=.slice (some ⟨g,i*6,none⟩) (p.length-i) (c-i):=by
   unfold sliced;rw[Bq (by omega)];simp only[mo,AH]
  rw[a8];obtain⟨W2,hr,m2,h2⟩:=NQ (P:=prog) (t:=81) (e:=133) (k:=6) (i:=Tryz.t133) (zv:=.agg (⟨0,false,A6.zero⟩:Chg).cells.toArray) (W:=W) (g:=g) (off:=i*6) (m:=p.length-i) (c:=c-i) (by kernel_rfl) (by kernel_rfl) (by kernel_rfl) (by kernel_rfl) (by decide)
   (fun u hu=>Eh.one (w:=W) (x:=⟨0,false,A6.zero⟩) rfl u (by simpa[Value.cells] using hu)) (by omega) fun q hq=>by
    have:=hR.live (i+q/6) (q%6) (by omega) (qI _ (by decide));rwa [show(i+q/6)*6+q%6=i*6+q by omega] at this
  refine Ae hr ?_;refine Ae (Fa (e:=133) (k:=6) (i:=Tryz.t133) (by kernel_rfl) (by kernel_rfl) (by kernel_rfl) (by omega) W2) ?_;refine⟨?_,hm.trans m2⟩;rw[<-ht];have U:(L.take i).length=i:=by simp;omega
  refine⟨_,_,by rw[U],by omega,by omega,fun m x hx=>?_⟩;obtain⟨b8,X⟩:=Ad.1 hx;rw[ny] at X;subst X;refine⟨⟨g,0,none⟩,_,rfl,rfl,rfl,fun q u hu=>?_,rfl⟩;have hq:q<6:=(Ad.1 hu).1;rw[AH,h2 _ (by omega)];exact hR.cells m (by omega) q u hu
def R4(ks:List DKey)(b:Bool)(c:Chg):Bool:=match Bf ks c.key with|some k=>decide (k.block=b)|none=>false
def WI{D:Nat->Prop}{b:Bool}{c:Chg}(q:Ci D w sv ks)(B:w.cell? ⟨N,0,none⟩=some sv)(I:w.cell? ⟨E,0,none⟩=some (.bool b)) :
  AB prog 130 [.agg c.cells.toArray,.pointer (some ⟨N,0,none⟩),.pointer (some ⟨E,0,none⟩)] (fun v' w'=>v'=.bool (!R4 ks b c)/\Grow w w') w:=by
 apply aX;refine DZ fun X Y J O m o _=>?_;refine AL (m.cell B fun h=>h) ?_;rw[AG];refine AL (o 0 _ rfl) ?_;refine AA (Jr (q.grow m) c.key) ?_;rintro _ w2 ⟨rfl,Q⟩;refine BO ?_;refine BQ (vs:=((Bf ks c.key).getD DKey.zero).cells) rfl rfl (Gi.one (w:=w2) (x:=(Bf ks c.key).getD DKey.zero) rfl) fun b4 Z T U V j _=>?_;have i:=(m.trans Q).trans V;rw[An];unfold R4;cases e:Bf ks c.key with
 |none=>exact Ak ⟨rfl,i⟩
 |some k=>
  rw[e] at j;refine AS ?_;rw[AG];refine AL (j 1 _ rfl) ?_;refine AL (i.cell I fun h=>h) ?_;rw[Qw];refine⟨?_,i⟩;show Value.bool (k.block != b)=.bool (!decide (k.block=b));cases k.block<;>cases b<;>rfl
def Jv{D S:Nat->Prop}{b:Bool}{p:List Chg}(V:Ci D w sv ks)(hp:Ey S w v p)(hl:p.length<=1099511627776) :
  AB prog 70 [sv,v,.bool b] (fun v' w'=>Ey (fun x=>w.heap.size<=x) w' v' (CW ks b p)/\Grow w w') w:=by
 apply eY;have I:sv.cells=#[sv]:=by
  obtain⟨b,m,kv,l,rfl,_⟩:=V;rfl
 have J:Ci (fun x=>D x/\x<w.heap.size) w sv ks:=V.sub fun x B h=>⟨h,B⟩;refine⟨I,EU fun b3 w1 Z a1 o O _=>?_⟩;refine⟨rfl,EU fun b5 w2 a6 a7 j Q _=>?_⟩;refine AA (Nb (hp.grow (o.trans j) (by decide) fun _ _ h=>h) (by omega)) ?_;rintro v3 w3 ⟨X,T⟩;have c3:w2.cell? ⟨b3,0,none⟩=some sv:=by have:=j.cell (O 0 _ rfl) fun h=>h;rwa [AH] at this
 have c5:w2.cell? ⟨b5,0,none⟩=some (.bool b):=by have:=Q 0 _ rfl;rwa [AH] at this
 have i:∀x,v3.ownBlock=some x->w2.heap.size<=x:=fun x e=>(AE.Ax X x e).1;have q:=(o.trans j).trans T;have tl:Vi (Mod (fun x=>v3.ownBlock=some x) w3) (.func (.func 130) #[] #[.pointer (some ⟨b3,0,none⟩),.pointer (some ⟨b5,0,none⟩)]) fun c=>!R4 ks b c:=by
  intro W c K m hK;refine .inl ⟨_,[],[.pointer (some ⟨b3,0,none⟩),.pointer (some ⟨b5,0,none⟩)],rfl,by kernel_rfl,?_⟩;refine AA (WI ((J.grow q).mod m fun x _ B e=>?_) (m.cell (T.cell c3 fun h=>h) fun e=>?_) (m.cell (T.cell c5 fun h=>h) fun e=>?_)) ?_
  .have:=i _ e;have:=B.2;have:=(o.trans j).size;omega
  .have h:w2.heap.size<=b3:=i _ e;omega
  .have h:w2.heap.size<=b5:=i _ e;omega
  .rintro _ W' ⟨rfl,g⟩;exact hK W' g
 refine AA (Za X hl tl) ?_;rintro v4 w4 ⟨Y,m4⟩;have e:(p.filter fun c=>!(!R4 ks b c))=CW ks b p:=by simp only[qs];rfl
 rw[e] at Y;refine⟨BB.sub Y (fun x _ e=>by have:=i x e;have:=(o.trans j).size;omega) (by decide) fun _ _ h=>h,?_⟩;exact q.next m4 fun x B e=>by have:=i x e;have:=(o.trans j).size;omega
def Xo{D S S':Nat->Prop}{sv B Y:Value}{r:Int}{p:List Chg}(hS:Ci D w sv ks)(hs:CR S w B s)(hp:Ey S' w Y p)(hl:s.length+p.length<=1099511627776) :
  AB prog 199 [sv,.agg #[.int .i32 r,B],Y] (fun v' w'=>∃m,v'=.agg #[.int .i32 r,m]/\HY w.heap.size w' m (MP ks s p r)/\Grow w w') w:=by
 apply Zi;refine DZ (vs:=[.int .i32 r,B]) fun b4 w1 a1 a6 g1 J _=>?_;refine EU fun Z w2 a7 a8 g2 ak O=>?_;have Q:Grow w2 w2.drew:=Mod.drew _ _;have zd:w2.drew.heap.size=w2.heap.size:=rfl;have o:=(g1.trans g2).trans Q;have T:∀j u,([.int .i32 r,B]:List Value)[j]?=some u->w2.drew.cell? ((⟨b4,0,none⟩:Addr).add j)=some u:=fun j u hu=>Q.cell (g2.cell (J j u hu) fun h=>h) fun h=>h;have ne:b4≠Z:=by omega
 refine Af (fun k y=>k=12/\y=Z) ?_;rw[AG];refine AU ⟨T 0 _ rfl,fun j _ e=>by rw[BJ] at e;exact ne e.2⟩ ?_;rw[AG];refine AU ⟨T 1 _ rfl,fun j _ e=>by rw[BJ] at e;exact ne e.2⟩ ?_;rw[AG];refine AU ⟨T 0 _ rfl,fun j _ e=>by rw[BJ] at e;exact ne e.2⟩ ?_;rw[Aj];refine AA (Jv (hS.grow o) (hp.grow o (by decide) fun _ _ h=>h) (by omega)) ?_;rintro v3 w3 ⟨h3,i⟩;refine⟨i.mono fun _ _ e=>e.elim,?_⟩;have al:(CW ks (decide (r=10)) p).length<=p.length:=nN _ _;refine AA (Ow (hs.grow (o.trans i) (by decide) fun _ _ h=>h) h3 (by omega)) ?_;rintro v4 w4 ⟨q,I⟩;refine⟨I.mono fun _ _ e=>e.elim,?_⟩;have o1:=AE.one q;obtain⟨a4,k4,e4,_⟩:=AE.shape q;refine⟨#[.int .i32 r,v4],by subst e4;kernel_rfl,?_⟩;have z3:=i.size;have z4:=I.size;refine Ca (vs:=[.int .i32 r,v4]) rfl (fun u hu=>by simp at hu;rcases hu with rfl|rfl;rfl;exact o1.1) (fun j hj=>(((O j hj).mod Q fun h=>h).mod i fun h=>h).mod I fun h=>h) fun w5 U V _=>?_;refine⟨U.mono fun x _ e=>⟨rfl,e⟩,?_⟩;refine Ah (vs:=[.int .i32 r,v4]) rfl V ⟨v4,rfl,?_,?_⟩
 .have:HY w.heap.size w4 v4 (MP ks s p r):=q.base fun g X=>by have:=(AE.Ax q g X).1;have:=(o.trans i).size;omega
  refine AE.mod this U (fun g X e=>?_) fun _ _ _ h=>h;have:=(AE.Ax q g X).1;omega
 .exact((o.trans i).trans I).next U fun x hx e=>by omega
end Go.Proofs.YtmdhibffnkhcnaaGreatDoor
