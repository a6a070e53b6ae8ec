/- parts of the proof, written short by a program of ours -/
import Derived.Test.YtmdhibffnkhcnaaGreatDoorZTextInvertsUpto1
import Derived.Laws.IdiomStrings
import Derived.Lib.AppendZeros
set_option linter.unusedSimpArgs false
set_option linter.unusedVariables false
set_option linter.defProp false
namespace Go.Proofs.YtmdhibffnkhcnaaGreatDoor
open Go Proofs.Tryz
variable {j c N:Nat}{w W W' w0:World}{F S C M:Nat->Prop}{v fr sv:Value}{most:Int}{vs cs args:List Value}{α:Type}{a:List Dop}{rs:List Int}{K:Cont}{P:Program}
section
variable {v0 v1 v2 v3 v4 v5 v6 v7 v8 v9:Value}{K:Cont}{w:World}
def eS(h: Ap [(zI 0),(zI 0)] (fun vs q w1=>∀_:Env,Ac v0 fun t9=>BU .i64 (nth vs 1) t9 fun B=>AD B (Dg w1 (fun C=>AW .i64 (nth vs 0) (zI 1) fun I=>BM 5 v0 (nth vs 1) fun J=>AM 2 J fun O=>BN C O fun Q=>Ac Q fun T=>AW .i64 I T fun U=>BM 5 v0 (nth vs 1) fun V=>AM 3 V fun t25=>BN C t25 fun X=>Ac X fun Y=>AW .i64 U Y fun Z=>BM 5 v0 (nth vs 1) fun a1=>AM 4 a1 fun a6=>BN C a6 fun a7=>Ac a7 fun a8=>AW .i64 Z a8 fun ak=>∀w2:World,C w2->Ap [ak,(zI 0)] (fun i m w3=>∀_:Env,BM 5 v0 (nth vs 1) fun t39=>AM 3 t39 fun al=>AJ al (fun an w4=>Ac an fun av=>BU .i64 (nth i 1) av fun ax=>AD ax (BM 5 v0 (nth vs 1) fun ay=>AM 3 ay fun t50=>AJ t50 (fun b0 w5=>BM 5 b0 (nth i 1) fun t53=>AM 1 t53 fun b1=>AM 3 b1 fun t55=>AJ t55 (fun b2 w6=>L9 b2 fun b6=>AW .i64 (nth i 0) b6 fun b7=>AW .i64 (nth i 1) (zI 1) fun t45=>m [b7,t45] w6) w5) w4) (Ap [(nth i 0),(zI 0)] (fun j o w7=>∀_:Env,BM 5 v0 (nth vs 1) fun b8=>AM 4 b8 fun b9=>AJ b9 (fun ba w8=>Ac ba fun bb=>BU .i64 (nth j 1) bb fun t66=>AD t66 (BM 5 v0 (nth vs 1) fun bc=>AM 4 bc fun bd=>AJ bd (fun bk w9=>BM 6 bk (nth j 1) fun t76=>AM 2 t76 fun t77=>AM 3 t77 fun bl=>AJ bl (fun bn bp=>L9 bn fun bs=>AW .i64 (nth j 0) bs fun bx=>AW .i64 (nth j 1) (zI 1) fun c4=>o [bx,c4] bp) w9) w8) (AW .i64 (nth vs 1) (zI 1) fun c6=>q [(nth j 0),c6] w8)) w7) w4)) w3) w2)) (K (nth vs 0) w1)) w):AB prog 34 [v0] K w:=cO (aN (aN (aO (aN (.node [3,4] [(3,81)] (aO (aN aE) (aO (aO .draw (aO (aN (.node [3,5] [(3,3),(5,5),(36,58)] (aO (aN aE) aE) .nil)) (aN (.node [3,6] [(3,3),(6,6),(59,81)] (aO (aN aE) aE) .nil)))) .nil)) .nil)) aE))) func34 h (by kernel_rfl)
def dN(h: Ai [(0,1),(1,1),(2,1)] [(.slice none 0 0),(.slice none 0 0),(zI 0)] [] fun i=>BP 188 i (fun j m=>K j m) w):AB prog 59 [] K w:=cO (aN aE) func59 h (by kernel_rfl)
def gu(h: Ao (fun _vs X=>∀_:Env,Au [6,7,10] [[],[],[1],[1,2],[1,2,3],[],[5],[1,2,3,4,5,6],[0,1,2,3,4,5,6,7],[0,1,2,3,4,5,6,7,8],[0,1,2,3,4,5,6,7,8,9]] X.drew (fun M St=>AK v0 fun Y=>AM 0 Y fun Z=>As (St 4) Z fun a1=>AB prog 115 [v0] (fun a6 w2=>Mod (M 6) X.drew w2/\ runK prog (Builtin.append_ #[34,34] 34 [a1,a6].toArray) (fun a7 w3=>Mod (M 7) w2 w3/\ AK v0 fun a8=>AM 0 a8 fun t22=>Av t22 a7 (fun w4=>Mod (M 10) w3 w4/\ AK v0 fun t25=>AM 1 t25 fun ak=>Av ak (.slice none 0 0) (fun w5=>AK v0 fun al=>AM 2 al fun an=>Av an (zI 0) (fun w6=>AK v0 fun av=>AM 0 av fun ax=>AJ ax (fun ay w7=>Ac ay fun b0=>BR .i64 b0 (zI 1) fun i=>Ao (fun I V=>∀_:Env,AD (nth I 0) (AK v0 fun b1=>AM 0 b1 fun b2=>AJ b2 (fun O w9=>BM 5 O i fun b6=>AM 1 b6 fun t66=>AJ t66 (fun b7 b9=>AW .i64 b7 v1 fun ba=>BM 5 O i fun t70=>AM 1 t70 fun bb=>Av bb ba (fun bc=>K (.tuple #[]) bc) b9) w9) V) (Au [7,9,10,13] [[],[],[1],[1,2],[1,2,3],[],[],[6],[5,6,7],[5,6,7,8],[1,2,3,4,5,6,7,8,9],[0,1,2,3,4,5,6,7,8,9,10],[0,1,2,3,4,5,6,7,8,9,10,11],[0,1,2,3,4,5,6,7,8,9,10,11,12]] V.drew (fun j Q=>AK v0 fun bd=>AM 0 bd fun bk=>As (Q 4) bk fun t76=>AB prog 117 [v2] (fun bl m=>Mod (j 7) V.drew m/\ Ai [(0,1),(1,1),(2,1),(3,1),(4,1)] [(.int .u8 0),(zI 0),(.slice none 0 0),(.slice none 0 0),(.slice none 0 0)] [(0,(.int .u8 1)),(1,v1),(4,bl)] fun bn=>Ba 83 5 1 [(.int .u8 0),(zI 0),(.slice none 0 0),(.slice none 0 0),(.slice none 0 0)] [(0,bn)] (fun bp o=>Mod (j 9) m o/\ runK prog (Builtin.append_ #[34,34] 34 [t76,bp].toArray) (fun bs q=>Mod (j 10) o q/\ AK v0 fun bx=>AM 0 bx fun c4=>Av c4 bs (fun T=>Mod (j 13) q T/\ K (.tuple #[]) T) q) o) m) V.drew))) (fun B=>Km .i64 i (zI 0) fun c6=>AD c6 (AK v0 fun t39=>AM 0 t39 fun c7=>AJ c7 (fun c8 c9=>BM 5 c8 i fun ca=>AM 0 ca fun cc=>AJ cc (fun t45 U=>Cu .u8 t45 (.int .u8 1) fun t46=>AD t46 (AK v0 fun t50=>AM 0 t50 fun cd=>AJ cd (fun ch cn=>BM 5 ch i fun cv=>AM 4 cv fun t55=>AJ t55 (fun cx da=>AB prog 116 [cx,v2] (fun dk dT=>B [dk] dT) da) cn) U) (B [(.bool false)] U)) c9) w7) (B [(.bool false)] w7))) w6) w5) w4) w3) w2) X.drew)) (fun J=>CY v0 fun b8=>AD (.bool b8) (K (.tuple #[]) w) (BU .i64 v1 (zI 1) fun e1=>AD e1 (K (.tuple #[]) w) (J [] w)))):AB prog 60 [v0,v1,v2] K w:=cO (.cut [] [(7,12)] (aN aE) (aO (.dc [6,7,10] [[],[],[1],[1,2],[1,2,3],[],[5],[1,2,3,4,5,6],(aR 8),(aR 9),(aR 10)] [[6,7]]) (aN (aN (aO (.cut [59] [(35,59)] .nil (aO aE .nil)) (.dc [7,9,10,13] [[],[],[1],[1,2],[1,2,3],[],[],[6],[5,6,7],[5,6,7,8],[1,2,3,4,5,6,7,8,9],(aR 11),(aR 12),(aR 13)] [[7],[7,9,10]])))))) func60 h (by kernel_rfl)
def gE(h: Ao (fun _vs w1=>∀_:Env,AK v0 fun O=>AM 1 O fun Q=>AJ Q (fun T w2=>Ac T fun U=>BR .i64 U (zI 1) fun j=>Ao (fun o m=>∀_:Env,AD (nth o 0) (Au [14,17] [[],[0],[0,1],[0,1,2],[],[],[5],[5,6],[5,6,7],[],[5,6,7,8,9],[5,6,7,8,9,10],[5,6,7,8,9,10,11],[],[5,6,7,8,9,10,11,12,13],[0,1,2,3,4,5,6,7,8,9,10,11,12,13,14],[0,1,2,3,4,5,6,7,8,9,10,11,12,13,14,15],[0,1,2,3,4,5,6,7,8,9,10,11,12,13,14,15,16]] m.drew (fun M V=>AK v0 fun X=>AM 1 X fun Y=>As (V 3) Y fun Z=>AK v0 fun a1=>AM 1 a1 fun a6=>As (V 8) a6 fun a7=>BM 5 a7 j fun a8=>AM 2 a8 fun t45=>As (V 12) t45 fun t46=>runK prog (Builtin.append_ #[80,80] 80 [t46,v1].toArray) (fun ak w4=>Mod (M 14) m.drew w4/\ BM 5 Z j fun al=>AM 2 al fun t50=>Av t50 ak (fun w5=>Mod (M 17) w4 w5/\ K (.tuple #[]) w5) w4) m.drew)) (Au [6,8,10,11,14] [[],[],[1],[1,2],[1,2,3],[],[5],[],[5,6,7],[5,6,7,8],[5,6,7,8,9],[1,2,3,4,5,6,7,8,9,10],[0,1,2,3,4,5,6,7,8,9,10,11],[0,1,2,3,4,5,6,7,8,9,10,11,12],[0,1,2,3,4,5,6,7,8,9,10,11,12,13]] m.drew (fun i q=>AK v0 fun t53=>AM 1 t53 fun an=>As (q 4) an fun t55=>AB prog 119 [v1] (fun av w6=>Mod (i 6) m.drew w6/\ AB prog 52 [v2] (fun ax w7=>Mod (i 8) w6 w7/\ Ai [(0,1),(1,1),(2,1),(3,1),(4,1)] [(.int .u8 0),(zI 0),(.slice none 0 0),(.slice none 0 0),(.slice none 0 0)] [(0,(.int .u8 2)),(2,av),(3,ax)] fun ay=>Ba 83 5 1 [(.int .u8 0),(zI 0),(.slice none 0 0),(.slice none 0 0),(.slice none 0 0)] [(0,ay)] (fun b0 w8=>Mod (i 10) w7 w8/\ runK prog (Builtin.append_ #[34,34] 34 [t55,b0].toArray) (fun b1 w9=>Mod (i 11) w8 w9/\ AK v0 fun b2=>AM 1 b2 fun b6=>Av b6 b1 (fun B=>Mod (i 14) w9 B/\ K (.tuple #[]) B) w9) w8) w7) w6) m.drew))) (fun I=>Km .i64 j (zI 0) fun b7=>AD b7 (AK v0 fun b9=>AM 1 b9 fun t25=>AJ t25 (fun ba bb=>BM 5 ba j fun bc=>AM 3 bc fun bd=>AJ bd (fun bk bl=>AB prog 118 [bk,v2] (fun bn bp=>I [bn] bp) bl) bb) w2) (I [(.bool false)] w2))) w1) (fun J=>CY v0 fun b8=>AD (.bool b8) (K (.tuple #[]) w) (Ac v1 fun bs=>Cu .i64 bs (zI 0) fun bx=>AD bx (K (.tuple #[]) w) (J [] w)))):AB prog 61 [v0,v1,v2] K w:=cO (.cut [] [(7,13)] (aN aE) (aN (aO (.cut [33] [(20,33)] .nil (aO (aO (.dc [14,17] [[],[0],[0,1],[0,1,2],[],[],[5],[5,6],[5,6,7],[],[5,6,7,8,9],[5,6,7,8,9,10],[5,6,7,8,9,10,11],[],[5,6,7,8,9,10,11,12,13],(aR 15),(aR 16),(aR 17)] [[14]]) .nil) .nil)) (.dc [6,8,10,11,14] [[],[],[1],[1,2],[1,2,3],[],[5],[],[5,6,7],[5,6,7,8],[5,6,7,8,9],[1,2,3,4,5,6,7,8,9,10],(aR 12),(aR 13),(aR 14)] [[6,8],[6,8,10,11]])))) func61 h (by kernel_rfl)
def fY(h: CY v0 fun b5=>AD (.bool (!b5)) (AK v0 fun q=>AM 2 q fun B=>AJ B (fun t9 I=>KM .i64 v1 (zI 0) fun i=>AW .i64 t9 i fun j=>AK v0 fun m=>AM 2 m fun o=>Av o j (fun w2=>K (.tuple #[]) w2) I) w) (K (.tuple #[]) w)):AB prog 62 [v0,v1] K w:=cO (aN aE) func62 h (by kernel_rfl)
def fN(h: CY v0 fun b6=>AD (.bool b6) (K (.slice none 0 0) w) (Au [5,6,7] [[],[0],[0,1],[0,1,2],[],[4],[0,1,2,3,4,5],[0,1,2,3,4,5,6],[0,1,2,3,4,5,6,7]] w.drew (fun M St=>AK v0 fun t8=>AM 0 t8 fun t9=>As (St 3) t9 fun m=>AB prog 115 [v0] (fun o q=>Mod (M 5) w.drew q/\ Ba 34 1 2 [(.slice none 0 0)] [(0,m),(1,o)] (fun B w2=>Mod (M 6) q w2/\ AB prog 120 [B] (fun i I=>Mod (M 7) w2 I/\ Ao (fun vs w4=>∀_:Env,AB prog 121 [(nth vs 0)] (fun O w5=>K O w5) w4) (fun J=>Ac i fun Q=>BR .i64 Q (zI 1) fun j=>Km .i64 j (zI 0) fun T=>AD T (BM 5 i j fun U=>AM 0 U fun V=>AJ V (fun t25 w6=>Cu .u8 t25 (.int .u8 1) fun X=>AD X (BM 5 i j fun Y=>AM 4 Y fun Z=>AJ Z (fun a1 w7=>Ac a1 fun a6=>Cu .i64 a6 (zI 0) fun a7=>AD a7 (runK prog (Instr.sliceAt 34 i none (some j) none) (fun t39 w8=>J [t39] w8) w7) (J [i] w7)) w6) (J [i] w6)) I) (J [i] I))) w2) q) w.drew))):AB prog 63 [v0] K w:=cO (aN (aO (aN (aO aE .nil)) (aO (.dc [5,6,7] [[],[0],[0,1],[0,1,2],[],[4],(aR 6),(aR 7),(aR 8)] []) (.cut [3] [(3,4),(15,39)] (aN (aN aE)) aE)))) func63 h (by kernel_rfl)
def ao(h: AK v0 fun t5=>AM 1 t5 fun V=>AJ V (fun X Y=>AB prog 186 [X] (fun T w2=>AK v0 fun i=>AM 2 i fun j=>AJ j (fun m U=>Eo .i64 m (zI 0) fun o=>AD o (AK v0 fun q=>AM 2 q fun B=>AJ B (fun I w4=>Ai [(0,1),(1,1),(2,1),(3,1),(4,1)] [(.int .u8 0),(zI 0),(.slice none 0 0),(.slice none 0 0),(.slice none 0 0)] [(0,(.int .u8 3)),(1,I)] fun J=>Ba 83 5 1 [(.int .u8 0),(zI 0),(.slice none 0 0),(.slice none 0 0),(.slice none 0 0)] [(0,J)] (fun O Z=>runK prog (Builtin.append_ #[34,34] 34 [T,O].toArray) (fun Q w6=>K Q w6) Z) w4) U) (K T U)) w2) Y) w):AB prog 115 [v0] K w:=cO (aN (aN (aO (aN aE) aE))) func115 h (by kernel_rfl)
def bH(h: AB prog 187 [v0,v1] (fun i j=>K i j) w):AB prog 116 [v0,v1] K w:=cO (aN aE) func116 h (by kernel_rfl)
def Zl(h: AB prog 129 [v0] (fun t4 i=>K t4 i) w):AB prog 117 [v0] K w:=cO (aN aE) func117 h (by kernel_rfl)
def aP(h: Gl v0 fun b4=>AD (.bool b4) (K (.slice none 0 0) w) (Ba 21 1 0 [] [] (fun t5 i=>runK prog (Builtin.append_ #[80,80] 80 [t5,v0].toArray) (fun j w2=>K j w2) i) w)):AB prog 119 [v0] K w:=cO (aN (aO (aN (aO aE .nil)) aE)) func119 h (by kernel_rfl)
def Zz(h: Ac v0 fun q=>Ap [(zI 0),(zI 0)] (fun vs m w1=>∀_:Env,BU .i64 (nth vs 1) q fun B=>AD B (BM 1 v0 (nth vs 1) fun I=>AJ I (fun J w2=>Ac J fun O=>AW .i64 (nth vs 0) O fun o=>BU .i64 o (zI 0) fun Q=>AD Q (runK prog (Instr.makeInterface 9 (.string (ByteArray.mk #[108,101,110,32,111,117,116,32,111,102,32,114,97,110,103,101]))) (fun _t21 w3=>False) w2) (AW .i64 (nth vs 1) (zI 1) fun t22=>m [o,t22] w2)) w1) (AB prog 189 [(.slice none 0 0),(nth vs 0)] (fun T w4=>Ac v0 fun U=>Ap [T,(zI 0)] (fun i j w5=>∀_:Env,BU .i64 (nth i 1) U fun V=>AD V (BM 1 v0 (nth i 1) fun X=>AJ X (fun Y w6=>runK prog (Builtin.append_ #[34,34] 34 [(nth i 0),Y].toArray) (fun Z w7=>AW .i64 (nth i 1) (zI 1) fun a1=>j [Z,a1] w7) w6) w5) (K (nth i 0) w5)) w4) w1)) w):AB prog 120 [v0] K w:=cO (aN (aN (aO (aN (.node [3,11] [(3,3),(5,5),(11,22)] (aN (aO aE (aO (aN (aN (aN aE))) .nil))) .nil)) (aN (aO (aN (.node [6,27] [(6,6),(8,8),(27,34)] (aN (aO aE (aO aE .nil))) .nil)) aE))))) func120 h (by kernel_rfl)
def Zx(h: AB prog 186 [v0] (fun i w1=>Ac i fun t8=>Ap [(zI 0)] (fun vs j w2=>∀_:Env,BU .i64 (nth vs 0) t8 fun m=>AD m (Au [11,17,23,26,29,32] [[],[],[],[],[],[],[],[],[6,7],[6,7,8],[6,7,8,9],[6,7,8,9,10],[],[],[12,13],[12,13,14],[12,13,14,15],[6,7,8,9,10,11,12,13,14,15,16],[],[],[18,19],[18,19,20],[18,19,20,21],[6,7,8,9,10,11,12,13,14,15,16,17,18,19,20,21,22],[0,1,6,7,8,9,10,11,12,13,14,15,16,17,18,19,20,21,22,23],[0,1,6,7,8,9,10,11,12,13,14,15,16,17,18,19,20,21,22,23,24],[0,1,6,7,8,9,10,11,12,13,14,15,16,17,18,19,20,21,22,23,24,25],[0,1,2,3,6,7,8,9,10,11,12,13,14,15,16,17,18,19,20,21,22,23,24,25,26],[0,1,2,3,6,7,8,9,10,11,12,13,14,15,16,17,18,19,20,21,22,23,24,25,26,27],[0,1,2,3,6,7,8,9,10,11,12,13,14,15,16,17,18,19,20,21,22,23,24,25,26,27,28],[0,1,2,3,4,5,6,7,8,9,10,11,12,13,14,15,16,17,18,19,20,21,22,23,24,25,26,27,28,29],[0,1,2,3,4,5,6,7,8,9,10,11,12,13,14,15,16,17,18,19,20,21,22,23,24,25,26,27,28,29,30],[0,1,2,3,4,5,6,7,8,9,10,11,12,13,14,15,16,17,18,19,20,21,22,23,24,25,26,27,28,29,30,31]] w2.drew (fun M o=>BM 5 i (nth vs 0) fun q=>AM 2 q fun B=>As (o 10) B fun t22=>AB prog 119 [t22] (fun I J=>Mod (M 11) w2.drew J/\ BM 5 i (nth vs 0) fun O=>AM 3 O fun Q=>As (o 16) Q fun T=>AB prog 52 [T] (fun U w4=>Mod (M 17) J w4/\ BM 5 i (nth vs 0) fun V=>AM 4 V fun X=>As (o 22) X fun Y=>AB prog 117 [Y] (fun Z w5=>Mod (M 23) w4 w5/\ BM 5 i (nth vs 0) fun a1=>AM 2 a1 fun a6=>Av a6 I (fun w6=>Mod (M 26) w5 w6/\ BM 5 i (nth vs 0) fun a7=>AM 3 a7 fun t39=>Av t39 U (fun w7=>Mod (M 29) w6 w7/\ BM 5 i (nth vs 0) fun a8=>AM 4 a8 fun ak=>Av ak Z (fun w8=>Mod (M 32) w7 w8/\ AW .i64 (nth vs 0) (zI 1) fun al=>j [al] w8) w7) w6) w5) w4) J) w2.drew)) (K i w2)) w1) w):AB prog 121 [v0] K w:=cO (aN (aN (aO (aN (.node [9] [(4,4),(9,42)] (aN (aO aE (aO (aN (.dc [11,17,23,26,29,32] [[],[],[],[],[],[],[],[],[6,7],[6,7,8],[6,7,8,9],[6,7,8,9,10],[],[],[12,13],[12,13,14],[12,13,14,15],[6,7,8,9,10,11,12,13,14,15,16],[],[],[18,19],[18,19,20],[18,19,20,21],[6,7,8,9,10,11,12,13,14,15,16,17,18,19,20,21,22],[0,1,6,7,8,9,10,11,12,13,14,15,16,17,18,19,20,21,22,23],[0,1,6,7,8,9,10,11,12,13,14,15,16,17,18,19,20,21,22,23,24],[0,1,6,7,8,9,10,11,12,13,14,15,16,17,18,19,20,21,22,23,24,25],[0,1,2,3,6,7,8,9,10,11,12,13,14,15,16,17,18,19,20,21,22,23,24,25,26],[0,1,2,3,6,7,8,9,10,11,12,13,14,15,16,17,18,19,20,21,22,23,24,25,26,27],[0,1,2,3,6,7,8,9,10,11,12,13,14,15,16,17,18,19,20,21,22,23,24,25,26,27,28],(aR 30),(aR 31),(aR 32)] [[11,17,23],[11,17,23,26],[11,17,23,26,29]])) .nil))) .nil)) aE))) func121 h (by kernel_rfl)
def aa(h: Gl v0 fun b4=>AD (.bool b4) (K (.slice none 0 0) w) (Ba 83 5 0 [] [] (fun t5 i=>runK prog (Builtin.append_ #[34,34] 34 [t5,v0].toArray) (fun j w2=>K j w2) i) w)):AB prog 186 [v0] K w:=cO (aN (aO (aN (aO aE .nil)) aE)) func186 h (by kernel_rfl)
def Zt(h: Ac v0 fun Q=>Ac v1 fun t9=>Dp .i64 Q t9 fun j=>AD j (K (.bool false) w) (Ac v0 fun m=>Ap [(zI 0)] (fun vs i O=>∀_:Env,BU .i64 (nth vs 0) m fun o=>AD o (Dg O (fun C=>BM 6 v0 (nth vs 0) fun q=>HD C 6 q fun B=>BM 6 v1 (nth vs 0) fun t22=>HD C 6 t22 fun I=>Bo prog C (BS .neq 133 (.tmp 19) (.tmp 23) B I) fun J=>∀w2:World,C w2->AD J (K (.bool false) w2) (AW .i64 (nth vs 0) (zI 1) fun t25=>i [t25] w2))) (K (.bool true) O)) w)):AB prog 187 [v0,v1] K w:=cO (aN (aO (aN (aO aE .nil)) (aO (aN (.node [13] [(4,5),(13,25)] (aN (aO aE (aO (aN (aO .draw (aO aE .nil))) .nil))) .nil)) aE))) func187 h (by kernel_rfl)
def Yc(h: Gl v0 fun b4=>AD (.bool b4) (K (.slice none 0 0) w) (Ba 133 6 0 [] [] (fun t5 i=>runK prog (Builtin.append_ #[81,81] 81 [t5,v0].toArray) (fun j w2=>K j w2) i) w)):AB prog 129 [v0] K w:=cO (aN (aO (aN (aO aE .nil)) aE)) func129 h (by kernel_rfl)
def bS(h: Ao (fun _vs Q=>∀_:Env,runK prog (Builtin.cap_ #[34] 3 [v0].toArray) (fun j w2=>Ac v0 fun m=>BR .i64 j m fun o=>BR .i64 v1 o fun i=>Eo .i64 i (zI 0) fun q=>AD q (runK prog (Builtin.cap_ #[34] 3 [v0].toArray) (fun B T=>runK prog (Instr.sliceAt 34 v0 none (some B) none) (fun I w4=>runK prog (Builtin.append_ #[34,3] 34 [I,i].toArray) (fun t22 U=>Ac v0 fun O=>runK prog (Instr.sliceAt 34 t22 none (some O) none) (fun t25 V=>K t25 V) U) w4) T) w2) (K v0 w2)) Q) (fun J=>BU .i64 v1 (zI 0) fun X=>AD X (runK prog (Instr.makeInterface 9 (.string (ByteArray.mk #[99,97,110,110,111,116,32,98,101,32,110,101,103,97,116,105,118,101]))) (fun _t7 Y=>False) w) (J [] w))):AB prog 189 [v0,v1] K w:=cO (aN (.cut [] [(5,7)] (aN aE) (aO (aN (aN aE)) aE))) func189 h (by kernel_rfl)
end
def IN{t e k bytes:Nat}{R:World->List Value->α->Prop}{l:List α}(I:DU P t e k bytes)(h:BB S k R w v l)(hl:l.length*bytes<=140737488355328)
 (m:∀w r y,R w r y->∀u∈r,u.oneCell'=true)(J:∀o w2 r y,w.heap.size<=o.heap.size->Mod (fun b=>w.heap.size<=b) o w2->R o r y->R w2 r y)
 (O:∀v' w',AE w.heap.size e k R w' v' l->Grow w w'->K v' w') :
  Gl v fun b4=>AD (.bool b4) (K (.slice none 0 0) w) (Ba e k 0 [] [] (fun t5 o=>runK P (Builtin.append_ #[t,t] t [t5,v].toArray) (fun Q w2=>K Q w2) o) w):=by
 obtain⟨a,c,rfl,hm⟩:=h.shape;have hk:=I;obtain⟨_,_,_,_,_,_,_,_,q⟩:=hk;cases a with
 |none=>
  simp only[KS];have:l=[]:=by
   cases l with
   |nil=>rfl
   |cons x l=>obtain⟨p,r,e,_⟩:=h.get (i:=0) (by simp);cases e
  subst this;exact O _ _ AE.nil (Mod.refl _ _)
 |some p=>
  simp only[KS];refine JM ?_;have B:Grow w (w.alloc (.cells #[] e)):=Mod.alloc _ _ _;have T:AE w.heap.size e k R (w.alloc (.cells #[] e)) (.slice (some ⟨w.heap.size,0,none⟩) 0 0) ([]:List α):=AE.made (Mp _);obtain⟨v',w',h1,U,V,X⟩:=AE.append (ty:=t) I T ((h.GN q).grow B q fun r x Y=>J _ _ _ _ (Mp _) B.mod Y) (fun _ _=>m _ _ _) (by simpa using hl) (by simp) (by simpa using hm) (fun w' j r y Z=>J _ _ _ _ B.size ((Mod.of_grownBy j).mono fun b _ e=>by simp only[Value.ownBlock,i6] at e;omega) Z);refine Ae h1 (O _ _ ?_ (B.next (Mod.of_grownBy V) ?_))
  .refine U.base fun g j=>?_;rcases X g j with h|h
   .cases h;exact Mp _
   .simp only[pX] at h;omega
  .intro b hb e;simp only[Value.ownBlock,i6] at e;omega
def AY{p:Prop}[Decidable p]{A B:Prop}(h1:p->B)(i:¬p->A):AD (.bool (!decide p)) A B:=by
 by_cases h:p
 .rw[lH h];exact h1 h
 .rw[kX h];exact i h
def aU[DecidableEq α]{k:Nat}{R R':World->List Value->α->Prop}{a b:Option Addr}{l m:List α}{bin:Value->Value->Sem Value}
 (ha:BB S k R w (.slice a l.length c) l)(hb:BB F k R' w (.slice b m.length N) m)(J:l.length=m.length)(hm:l.length<=maxLen)
 (O:∀r T x y i,R w r x->R' w T y->(bin (.agg r.toArray) (.agg T.toArray)).run P i=.ok (.bool (!decide (x=y))) i)
 (hK:∀w',Grow w w'->K (.bool (decide (l=m))) w') :
  Ap [(zI 0)] (fun vs o i=>∀ _:Env,BU .i64 (nth vs 0) (zI l.length) fun U=>AD U
   (Dg i (fun C=>BM k (.slice a l.length c) (nth vs 0) fun V=>HD C k V fun X=>BM k (.slice b m.length N) (nth vs 0) fun t22=>HD C k t22 fun Y=>Bo P C (bin X Y) fun Z=>
    ∀ w2:World,C w2->AD Z (K (.bool false) w2) (AW .i64 (nth vs 0) (zI 1) fun t25=>o [t25] w2)))
   (K (.bool true) i)) w:=by
 simp only[maxLen] at hm;refine AX (fun vs w'=>∃k:Nat,k<=l.length/\vs=[zI k]/\Grow w w'/\l.take k=m.take k) (fun vs _=>l.length-De vs 0) ⟨0,Nn _,rfl,Mod.refl _ _,rfl⟩ ?_;rintro vs i ⟨q,hq,rfl,Q,ht⟩ h;simp only[KS];by_cases B:q<l.length
 .rw[DN (show(q:Int)<l.length by omega)];refine⟨fun w2=>Grow i w2,Mod.drew _ _,?_⟩;obtain⟨p,r,rfl,_,hr,hc,hx⟩:=ha.get B;obtain⟨p',T,rfl,_,a1,a6,a7⟩:=hb.get (show q<m.length by omega);refine AT B (Fe hr (fun w2 I j u hu=>?_) ?_)
  .rw[Addr.add_add];exact I.cell (Q.cell (hc j u hu) (fun h=>h)) (fun h=>h)
  refine AT (by omega) (Fe a1 (fun w2 I j u hu=>?_) ?_)
  .rw[Addr.add_add];exact I.cell (Q.cell (a6 j u hu) (fun h=>h)) (fun h=>h)
  refine⟨_,fun w2 _=>O _ _ _ _ w2 hx a7,fun w2 I=>?_⟩;simp only[KS];by_cases he:l[q]=m[q]
  .rw[Bq (fun h=>h he)];refine⟨⟨q+1,by omega,by rw[wrap64 (by omega) (by omega)];rfl,Q.trans I,?_⟩,?_⟩
   .rw[No,No,ht];simp[B,show q<m.length by omega,he]
   .simp only[De,nth,Nr];rw[wrap64 (by omega) (by omega)];omega
  .rw[DN he];have:decide (l=m)=false:=by rw[kV];intro e;subst e;exact he rfl
   rw[<-this];exact hK _ (Q.trans I)
 .rw[Bq (show ¬(q:Int)<l.length by omega)];have:q=l.length:=by omega
  subst this;rw[PF,J,PF] at ht;have:decide (l=m)=true:=by rw[TC];exact ht
  rw[<-this];exact hK _ Q
def KR{l:List Int}(h:BB S 1 Bz w v l)(hl:l.length*4<=140737488355328) :
  AB prog 119 [v] (fun v' w'=>AE w.heap.size 21 1 Bz w' v' l/\Grow w w') w:=by
 apply aP;exact IN Ih h hl (fun _ _ _=>Bz.one) (fun _ _ _ _ _ _ h=>h) fun v' w' h1 i=>And.intro h1 i
def Nb{l:List Chg}(h:BB S 6 Eh w v l)(hl:l.length*56<=140737488355328) :
  AB prog 129 [v] (fun v' w'=>AE w.heap.size 133 6 Eh w' v' l/\Grow w w') w:=by
 apply Yc;exact IN Pr h hl (fun _ _ _=>Eh.one) (fun _ _ _ _ _ _ h=>h) fun v' w' h1 i=>And.intro h1 i
def BE.GN{S D:Nat->Prop}{l:List Dop}(h:BE S D w v l):BE (fun b=>S b/\b<w.heap.size) (fun b=>D b/\b<w.heap.size) w v l:=
 BB.sub h (fun b hb h=>⟨h,hb⟩) (by decide) fun r x i=>i.mod (Mod.refl (fun _=>False) _) (fun _ _ _ h=>h) fun b hb h=>⟨h,hb⟩
def Li{S D:Nat->Prop}{l:List Dop}(h:BE S D w v l)(hl:l.length*88<=140737488355328) :
  AB prog 186 [v] (fun v' w'=>AE w.heap.size 83 5 (Cb fun b=>D b/\b<w.heap.size) w' v' l/\Grow w w') w:=by
 apply aa;exact IN Fz h.GN hl (fun _ _ _=>Cb.one) (fun m w2 r y o hm i=>i.mod hm (fun b _ q hb=>by omega) fun _ _ h=>h) fun v' w' h1 j=>And.intro h1 j
def P6{l:List Chg}(h:Ey S w v l)(hl:l.length*56<=140737488355328) :
  AB prog 117 [v] (fun v' w'=>AE w.heap.size 133 6 Eh w' v' l/\Grow w w') w:=by
 apply Zl;exact Nb h hl
def fu{S o:Nat->Prop}{a b:Value}{l m:List Chg}(ha:BB S 6 Eh w a l)(hb:BB o 6 Eh w b m) :
  AB prog 187 [a,b] (fun v w'=>v=.bool (decide (l=m))/\Grow w w') w:=by
 apply Zt;obtain⟨Q,T,rfl,j⟩:=ha.shape;obtain⟨pb,cb,rfl,q⟩:=hb.shape;simp only[AP];rw[Bk];refine AY (fun i=>?_) fun i=>?_
 .exact aU (K:=fun v w'=>v=.bool (decide (l=m))/\Grow w w') (bin:=fun x y=>BS .neq 133 _ _ x y) ha hb (by omega) j (fun r U x y B I J=>by subst I;subst J;exact RB _ _ _ _ B) fun _ O=>⟨rfl,O⟩
 .refine⟨?_,Mod.refl _ _⟩;congr 1;symm
  rw[kV];intro e;exact i (by rw[e])
def XI{S i:Nat->Prop}{a b:Value}{l m:List Chg}(ha:Ey S w a l)(hb:Ey i w b m) :
  AB prog 116 [a,b] (fun v w'=>v=.bool (decide (l=m))/\Grow w w') w:=by
 apply bH;exact fu ha hb
def DZ{t:TypeId}(h:∀b i,b=w.heap.size->i.heap.size=w.heap.size+1->Grow w i->(∀j v,vs[j]?=some v->i.cell? ((⟨b,0,none⟩:Addr).add j)=some v)->(∀j,j<vs.length->Live i ((⟨b,0,none⟩:Addr).add j))->K (.pointer (some ⟨b,0,none⟩)) i):BP t (.agg vs.toArray) K w:=by
 refine⟨vs,rfl,?_⟩;refine h w.heap.size _ rfl (by simp) (Mod.alloc _ _ _) (fun j v o=>G6 o) fun j q=>?_;have m:(⟨w.heap.size,0,none⟩:Addr).add j=⟨w.heap.size,j,none⟩:=by unfold Addr.add;split<;>simp_all
 rw[m];refine⟨?_,qe ..⟩;rw[pU];simp[q]
def Yl{t:TypeId}{o vs:List Value}{K:Value->World->Prop}(hl:o.length=vs.length)(h1:∀v∈vs,v.oneCell'=true)(h:∀b i,b=w.heap.size->i.heap.size=w.heap.size+1->Grow w i->(∀j v,vs[j]?=some v->i.cell? ((⟨b,0,none⟩:Addr).add j)=some v)->(∀j,j<vs.length->Live i ((⟨b,0,none⟩:Addr).add j))->K (.pointer (some ⟨b,0,none⟩)) i) :
  Al t o (fun t5 q=>Ab vs.length t5 (.agg vs.toArray) (fun w4=>K t5 w4) q) w:=by
 refine Qx (jF hl h1 ?_);obtain⟨m,e,B⟩:=DZ (t:=t) (K:=K) (w:=w) h;have:vs=m:=by
  have:=kZ Value.cells e;simpa[Value.cells] using this
 subst this;exact B
def BQ{t:TypeId}{n:Nat}{m vs:List Value}{K:Value->World->Prop}(o:vs.length=n)(hl:m.length=n)(h1:∀v∈vs,v.oneCell'=true)(h:∀b i,b=w.heap.size->i.heap.size=w.heap.size+1->Grow w i->(∀j v,vs[j]?=some v->i.cell? ((⟨b,0,none⟩:Addr).add j)=some v)->(∀j,j<vs.length->Live i ((⟨b,0,none⟩:Addr).add j))->K (.pointer (some ⟨b,0,none⟩)) i) :
  Al t m (fun t5 q=>Ab n t5 (.agg vs.toArray) (fun w4=>K t5 w4) q) w:=by
 subst o;exact Yl hl h1 h
def Gu{ok:Nat->Bool}{g:Nat}(i:ok g=true)(h:AB P g args K w):Bi P ok (.func (.func g) #[] #[]) args K w:=.inl ⟨g,[],[],rfl,i,by simpa using h⟩
def AU{i:Addr->Value->Prop}{a:Addr}{k:Value->Prop}(h:i a v)(hk:k v):As i (.pointer (some a)) k:=⟨a,v,rfl,h,hk⟩
def Ch{i:Addr->Value->Prop}{m:Nat}{a:Addr}{k:Value->Prop}(hl:vs.length=m)(h:∀j v,vs[j]?=some v->i (a.add j) v)(hk:k (.agg vs.toArray)):Eg i m (.pointer (some a)) k:=⟨a,vs,rfl,hl,h,hk⟩
def Cx{F:(World->Prop)->Prop}(C:World->Prop)(h0:C w.drew)(h:F C):Dg w F:=⟨C,h0,h⟩
def Af{BG:List Nat}{AN:List (List Nat)}{F:(Nat->Nat->Prop)->(Nat->Addr->Value->Prop)->Prop}(M:Nat->Nat->Prop)(h:F M (Ta BG AN M w0)):Au BG AN w0 F:=⟨M,h⟩
def Te{b:Nat}:∀(vs:List Value) (i:Nat) (W:World),(∀j,i<=j->j<i+vs.length->Live W ((⟨b,0,none⟩:Addr).add j))->
  Mod (fun x=>x=b) W (EW W ⟨b,0,none⟩ i vs)/\(∀j u,vs[j]?=some u->(EW W ⟨b,0,none⟩ i vs).cell? ((⟨b,0,none⟩:Addr).add (i+j))=some u)/\(∀j,j<i->(EW W ⟨b,0,none⟩ i vs).cell? ((⟨b,0,none⟩:Addr).add j)=W.cell? ((⟨b,0,none⟩:Addr).add j))/\(∀a,Live W a->Live (EW W ⟨b,0,none⟩ i vs) a):=by
 intro vs;induction vs with
 |nil=>intro i W _;exact⟨Mod.refl _ _,fun j u hu=>by simp at hu,fun _ _=>rfl,fun _ h=>h⟩
 |cons x vs q=>
  intro i W hl;simp only[EW];obtain⟨B,I,o,J⟩:=q (i+1) (W.setCell ((⟨b,0,none⟩:Addr).add i) x) (fun j h1 O=>(hl j (by omega) (by simp;omega)).set _ _);refine⟨(Mod.setCell _ _ _ (by rw[AH])).trans B,fun j u hu=>?_,fun j Q=>?_,fun a ha=>J a (ha.set _ _)⟩
  .cases j with
   |zero=>
    simp at hu;subst hu;obtain⟨T,m⟩:=kH.1 (hl i (Mp _) (by simp)).1;exact(o i (by omega)).trans (kQ _ _ _ m)
   |succ j=>
    have:=I j u (by simpa using hu);rw[show i+(j+1)=i+1+j by omega];exact this
  .rw[o j (by omega),S4 _ _ _ _ (by rw[AH,AH];intro e;simp only[Addr.mk.injEq] at e;omega)]
def Ca{b n:Nat}{K:World->Prop}(m:vs.length=n)(h1:∀v∈vs,v.oneCell'=true)(hl:∀j,j<n->Live W ((⟨b,0,none⟩:Addr).add j))
 (o:∀W',Mod (fun x=>x=b) W W'->(∀j u,vs[j]?=some u->W'.cell? ((⟨b,0,none⟩:Addr).add j)=some u)->(∀a,Live W a->Live W' a)->K W'):Ab n (.pointer (some ⟨b,0,none⟩)) (.agg vs.toArray) K W:=by
 obtain⟨q,B,_,I⟩:=Te (b:=b) vs 0 W (fun j _ i=>hl j (by omega));exact⟨_,vs,rfl,rfl,m,h1,fun j i=>hl j i,o _ q (fun j u hu=>by have:=B j u hu;rwa [mG] at this) I⟩
def EU{t:TypeId}{i:List Value}(h:∀b m,b=w.heap.size->m.heap.size=w.heap.size+1->Grow w m->(∀j v,i[j]?=some v->m.cell? ((⟨b,0,none⟩:Addr).add j)=some v)->(∀j,j<i.length->Live m ((⟨b,0,none⟩:Addr).add j))->K (.pointer (some ⟨b,0,none⟩)) m):Al t i K w:=by
 refine Qx ?_;obtain⟨o,e,q⟩:=DZ (t:=t) (vs:=i) (K:=K) (w:=w) h;have:i=o:=by have:=kZ Value.cells e;simpa[Value.cells] using this
 subst this;exact q
def La(x:Int):-9223372036854775808<=IntKind.i64.wrap x/\IntKind.i64.wrap x<=9223372036854775807:=by
 have i:(2:Int) ^ IntKind.i64.bits=18446744073709551616:=by decide
 have j:(2:Int) ^ (IntKind.i64.bits-1)=9223372036854775808:=by decide
 simp only[IntKind.wrap,i,j,IntKind.signed,oZ,TC];split<;>omega
def AO{n:Nat}(h:(n:Int)+1<=9223372036854775807):Value.int .i64 (IntKind.i64.wrap ((n:Int)+1))=.int .i64 ((n+1:Nat):Int):=by
 rw[wrap64 (by omega) (by omega)];rfl
def CH{q:IntKind}{n:Int}{r:List Value}:De (.int q n::r) 0=n.toNat:=rfl
def BD{a:Value}{q:IntKind}{n:Int}{r:List Value}:De (a::.int q n::r) 1=n.toNat:=rfl
def Zd{a b:Value}{q:IntKind}{n:Int}{r:List Value}:De (a::b::.int q n::r) 2=n.toNat:=rfl
def Dz(r:Int):Prop:=0<=r/\r<55296\/57344<=r/\r<=1114111
instance (r:Int):Decidable (Dz r):=by unfold Dz;infer_instance
def FV(o:Dop):Prop:=(o.kind=1/\o.Ag=[]/\o.set=[]/\1<=o.n/\o.n<=536870912)\/(o.kind=3/\o.Ag=[]/\o.set=[]/\o.patch=[]/\1<=o.n/\o.n<=536870912)\/
 (o.kind=2/\(∀r∈o.Ag,Dz r)/\o.n=0/\o.patch=[]/\1<=o.Ag.length/\o.Ag.length<=536870912)
instance (o:Dop):Decidable (FV o):=by unfold FV;infer_instance
def Rx{l:List α}:((l.length:Int)=0)↔l=[]:=by
 constructor
 .intro h;exact QC (by omega)
 .rintro rfl;rfl
def L5(o:Dop):Int:=if o.kind=2 then o.Ag.length else o.n
def Cj(f:Dop->Int)(x:List Dop):Int:=x.foldl (fun s o=>IntKind.i64.wrap (s+f o)) 0
def Fi{f:Dop->Int}{x:List Dop}{k:Nat}(h:k<x.length):Cj f (x.take (k+1))=IntKind.i64.wrap (Cj f (x.take k)+f x[k]):=by
 rw[No,By h];simp only[Cj,mC,Option.toList,me,oj]
def Bt(o:Dop):Int:=if o.kind=2 then 0 else o.n
def CD(o:Dop):Int:=if o.kind=3 then 0 else L5 o
def Ev{f:Dop->Int}{m:Int}(hm:0<=m)(x:List Dop)(h:∀o∈x,0<=f o/\f o<=m)(hb:x.length*m<=4611686018427387904):Cj f x=(x.map f).sum/\0<=Cj f x/\Cj f x<=x.length*m:=by
 induction x using IX with
 |h0=>exact⟨rfl,by simp[Cj],by simp[Cj]⟩
 |h1 x o j=>
  have q:∀o∈x,0<=f o/\f o<=m:=fun o i=>h o (by simp[i]);have i:=h o (by simp);have e:((x++[o]).length:Int)*m=x.length*m+m:=by simp[Int.add_mul]
  rw[e] at hb;obtain⟨B,J,O⟩:=j q (by omega);have I:Cj f (x++[o])=IntKind.i64.wrap (Cj f x+f o):=by simp[Cj]
  rw[I,wrap64 (by omega) (by omega),e];refine⟨by rw[B];simp,by omega,by omega⟩
def Fm{t e k:Nat}{i:TypeInfo}{R:World->List Value->α->Prop}{a:Option Addr}{n c:Nat}{l:List α}(ht:P.underlying t=some (.slice e))(hi:P.info? e=some i)(hk:i.size=k)
 (h:BB S k R w (.slice a n c) l)(V:j<=l.length)(I:∀v',BB S k R w v' (l.drop j)->K v' w):runK P (Instr.sliceAt t (.slice a n c) (some (zI j)) none none) K w:=by
 obtain⟨X,Y,J,h1,Z,O⟩:=h;cases J;have o:P.elem t=e:=by simp[Program.elem,ht]
 refine⟨sliced a j l.length c k,w,?_,I _ ?_⟩
 .rw[nS _ _ _ _ _ _ (by rw[o];exact ht),run_slice_l _ _ _ _ _ (by rw[o];exact ht) _ _ (by omega) (by omega),o];simp[sizeOf,typeInfo,hi,hk]
 .unfold sliced;refine⟨_,_,by rw[I3],by rw[I3];omega,by omega,fun q x B=>?_⟩;rw[ly] at B;obtain⟨p,r,rfl,Q,hr,hc,T⟩:=O _ x B;have U:=(Ad.1 B).1;rw[Bq (by omega)];refine⟨p.add (j*k),r,rfl,by rw[BJ];exact Q,hr,fun m u hu=>?_,T⟩;rw[Addr.add_add,<-mL,<-lO];exact hc m u hu
def Mq{t e k:Nat}{i:TypeInfo}{R:World->List Value->α->Prop}{a:Option Addr}{n c:Nat}{l:List α}(ht:P.underlying t=some (.slice e))(hi:P.info? e=some i)(hk:i.size=k)
 (h:BB S k R w (.slice a n c) l)(U:j<=l.length)(I:∀v',BB S k R w v' (l.take j)->K v' w):runK P (Instr.sliceAt t (.slice a n c) none (some (zI j)) none) K w:=by
 obtain⟨V,X,J,h1,Y,O⟩:=h;cases J;have o:P.elem t=e:=by simp[Program.elem,ht]
 refine⟨sliced a 0 j c k,w,?_,I _ ?_⟩
 .rw[nS _ _ _ _ _ _ (by rw[o];exact ht),run_slice_h _ _ _ _ _ (by rw[o];exact ht) _ _ (by omega) (by omega),o];simp[sizeOf,typeInfo,hi,hk]
 .unfold sliced;have hl:(l.take j).length=j:=by simp;omega
  refine⟨_,_,by rw[hl,Nat.sub_zero],by rw[hl];omega,by omega,fun q x B=>?_⟩;rw[mE] at B;split at B
  .obtain⟨p,r,rfl,Q,hr,hc,T⟩:=O _ x B;rw[Bq (by omega)];refine⟨p.add (0*k),r,rfl,by rw[BJ];exact Q,hr,fun m u hu=>?_,T⟩;rw[Addr.add_add,qm,mG];exact hc m u hu
  .cases B
abbrev JW:World->List Value->Int->Prop:=fun _ r x=>r=[.int .u8 x]
abbrev DG(S:Nat->Prop)(w:World)(v:Value)(l:List Int):Prop:=BB S 1 JW w v l
def CC(s:ByteArray):List Int:=s.data.toList.map fun b=>(b.toNat:Int)
def ID(r:Int):Nat:=if r<128 then 1 else if r<2048 then 2 else if r<65536 then 3 else 4
def GF{e k len:Nat}{j:List (Nat×Value)}(m:Instr.fill (fun i=>some (i*k,k)) ((Array.range (len*k)).map (vs.toArray[· % vs.toArray.size]!)) j=some cs.toArray)(h:K (.slice (some ⟨w.heap.size,0,none⟩) len len) (w.alloc (.cells cs.toArray e))):Ba e k len vs j K w:=⟨_,m,h⟩
def Cz(i:Int):Option (Nat×Int):=
 if 240<=i then some (4,IntKind.i32.wrap (IntKind.i32.wrap i-240)) else if 224<=i then some (3,IntKind.i32.wrap (IntKind.i32.wrap i-224)) else if 192<=i then some (2,IntKind.i32.wrap (IntKind.i32.wrap i-192))
 else if 128<=i then none else some (1,IntKind.i32.wrap i)
def Hg(b:List Int):Nat->Nat->Int->Option Int
 |0,_,r=>some r
 |k+1,i,r=>match b[i]? with
  |some c=>if c<128\/191<c then none else Hg b k (i+1) (IntKind.i32.wrap (IntKind.i32.wrap (IntKind.i32.wrap (r*64)+IntKind.i32.wrap c)-128))
  |none=>none
def Ct(b:List Int):Int×Nat:=match Cz (b.headD 0) with
 |none=>(0,0)
 |some (n,r)=>if b.length<n then(0,0) else match Hg b (n-1) 1 r with
  |none=>(0,0)
  |some r=>if Dz r/\ID r=n then(r,n) else(0,0)
def Rm{i r:Int}{n:Nat}(h:Cz i=some (n,r)):1<=n/\n<=4:=by
 unfold Cz at h;split at h
 .cases h;omega
 split at h
 .cases h;omega
 split at h
 .cases h;omega
 split at h
 .cases h
 .cases h;omega
def UU(b:List Int):(Ct b).2<=b.length/\(Ct b).2<=4:=by
 unfold Ct;split
 .exact⟨Nn _,Nn _⟩
 .rename_i n r h;have:=Rm h;split
  .exact⟨Nn _,Nn _⟩
  .split
   .exact⟨Nn _,Nn _⟩
   .split<;>simp only<;>omega
def LO{t e k bytes B:Nat}{R:World->List Value->α->Prop}{l:List α}{x:α}{o:List (Nat×Value)}(Z:DU P t e k bytes)(h:AE B e k R w v l)(hB:B<=w.heap.size)
 (hf:Instr.fill (fun i=>some (i*k,k)) ((Array.range (1*k)).map (vs.toArray[· % vs.toArray.size]!)) o=some cs.toArray)(T:cs.length=k)(hx:R w cs x)(O:∀w r y,R w r y->∀u∈r,u.oneCell'=true)
 (U:∀m w2 r y,w.heap.size<=m.heap.size->Mod (fun b=>v.ownBlock=some b\/w.heap.size<=b) m w2->R m r y->R w2 r y)(Q:(l.length+1)*bytes<=140737488355328)(V:l.length+1<=maxLen)
 {Q1:World->Prop}{Q2:World->World->Prop}(X:∀m,Grow w m->Q1 m)
 (hK:∀m v' w',AE B e k R w' v' (l++[x])->Mod (fun b=>v.ownBlock=some b) m w'->Mod (fun b=>v.ownBlock=some b) w w'->(∀g,v'.ownBlock=some g->v.ownBlock=some g\/w.heap.size<=g)->Q2 m w'/\K v' w') :
  Ba e k 1 vs o (fun s m=>Q1 m/\runK P (Builtin.append_ #[t,t] t [v,s].toArray) (fun v' w'=>Q2 m w'/\K v' w') m) w:=by
 refine⟨_,hf,?_⟩;have J:Grow w (w.alloc (.cells cs.toArray e)):=Mod.alloc _ _ _;have hc:∀j u,cs[j]?=some u->(w.alloc (.cells cs.toArray e)).cell? ((⟨w.heap.size,0,none⟩:Addr).add j)=some u:=fun j u hu=>G6 hu;have hz:(w.alloc (.cells cs.toArray e)).heap.size=w.heap.size+1:=by simp
 generalize w.alloc (.cells cs.toArray e)=m at J hc hz ⊢;have h':AE B e k R m v l:=AE.mod h J (fun _ _ h=>h) fun r y _ q=>U _ _ _ _ (Mp _) J.mod q;have hs:BB (fun _=>True) k R m (.slice (some ⟨w.heap.size,0,none⟩) 1 1) [x]:=by
  refine⟨_,1,rfl,Mp _,by simp[maxLen],fun i y q=>?_⟩;have hi:i=0:=by have:=(Ad.1 q).1;simp at this;exact this
  subst hi;simp at q;subst q;exact⟨_,cs,rfl,trivial,T,fun j u hu=>by rw[qm,mG];exact hc j u hu,U _ _ _ _ (Mp _) J.mod hx⟩
 obtain⟨v',w',h1,h2,Y,h4⟩:=AE.append (ty:=t) Z h' hs (fun _ _=>O _ _ _) (by simpa using Q) (by omega) (by simpa using V) (fun w2 I r y q=>U _ _ _ _ (by omega) ((Mod.of_grownBy I).mono fun b _ e=>.inl e) q);refine⟨X _ J,Ae h1 (hK m v' w' h2 (Mod.of_grownBy Y) (J.mod.next (Mod.of_grownBy Y) fun _ _ h=>h) fun g I=>?_)⟩;rcases h4 g I with h|h
 .exact .inl h
 .exact .inr (by omega)
def Da{t e k bytes B:Nat}{R:World->List Value->α->Prop}{l:List α}{x:α}{j:List (Nat×Value)}(O:DU P t e k bytes)(h:AE B e k R w v l)(Q:B<=w.heap.size)
 (T:Instr.fill (fun i=>some (i*k,k)) ((Array.range (1*k)).map (vs.toArray[· % vs.toArray.size]!)) j=some cs.toArray)(I:cs.length=k)(U:R w cs x)(o:∀w r y,R w r y->∀u∈r,u.oneCell'=true)
 (V:∀m w2 r y,w.heap.size<=m.heap.size->Mod (fun b=>v.ownBlock=some b\/w.heap.size<=b) m w2->R m r y->R w2 r y)(q:(l.length+1)*bytes<=140737488355328)(J:l.length+1<=maxLen)
 (X:∀v' w',AE B e k R w' v' (l++[x])->Mod (fun b=>v.ownBlock=some b) w w'->(∀g,v'.ownBlock=some g->v.ownBlock=some g\/w.heap.size<=g)->K v' w') :
  Ba e k 1 vs j (fun s m=>runK P (Builtin.append_ #[t,t] t [v,s].toArray) K m) w:=by
 obtain⟨c,h1,_,v',w',Y,_,Z⟩:=LO (t:=t) (K:=K) (Q1:=fun _=>True) (Q2:=fun _ _=>True) O h Q T I U o V q J (fun _ _=>trivial) fun m v' w' k1 _ k2 k3=>⟨trivial,X v' w' k1 k2 k3⟩;exact⟨c,h1,v',w',Y,Z⟩
def Lt{t e k bytes:Nat}{R:World->List Value->α->Prop}{l:List α}{x:α}{j:List (Nat×Value)}(O:DU P t e k bytes)(h:AE w0.heap.size e k R w v l)(J:Grow w0 w)
 (Q:Instr.fill (fun i=>some (i*k,k)) ((Array.range (1*k)).map (vs.toArray[· % vs.toArray.size]!)) j=some cs.toArray)(B:cs.length=k)(T:R w cs x)(m:∀w r y,R w r y->∀u∈r,u.oneCell'=true)
 (U:∀o w2 r y,w.heap.size<=o.heap.size->Mod (fun b=>v.ownBlock=some b\/w.heap.size<=b) o w2->R o r y->R w2 r y)(q:(l.length+1)*bytes<=140737488355328)(I:l.length+1<=maxLen)
 (V:∀v' w',AE w0.heap.size e k R w' v' (l++[x])->Grow w0 w'->K v' w') :
  Ba e k 1 vs j (fun s o=>runK P (Builtin.append_ #[t,t] t [v,s].toArray) K o) w:=
 Da O h J.size Q B T m U q I fun v' w' h1 X _=>V v' w' h1 (J.next X fun b hb e=>by have:=(AE.Ax h b e).1;omega)
def Js:Nat->List Int->Option (List Int)
 |0,b=>if b=[] then some [] else none
 |f+1,b=>if b=[] then some [] else if(Ct b).2=0 then none else(Js f (b.drop (Ct b).2)).map ((Ct b).1::·)
def Bw(b:List Int):Option (List Int):=Js b.length b
def RN:∀(f g:Nat) (b:List Int),b.length<=f->b.length<=g->Js f b=Js g b:=by
 intro f;induction f with
 |zero=>
  intro g b i j;have:b=[]:=QC (by omega);subst this;cases g<;>simp[Js]
 |succ f m=>
  intro g b i j;cases g with
  |zero=>
   have:b=[]:=QC (by omega);subst this;simp[Js]
  |succ g=>
   simp only[Js];split
   .rfl
   .split
    .rfl
    .rw[m g _ (by simp;omega) (by simp;omega)]
def Mu{b:List Int}(hb:b≠[]):Bw b=if(Ct b).2=0 then none else(Bw (b.drop (Ct b).2)).map ((Ct b).1::·):=by
 unfold Bw;obtain⟨n,i⟩:∃n,b.length=n+1:=⟨b.length-1,by have:=lh.2 hb;omega⟩;rw[i];simp only[Js,Bq hb];split
 .rfl
 .rw[RN n _ _ (by simp;omega) (Mp _)]
def Qf(W:World)(c:Array Value)(t:TypeId)(fr:Nat×Nat)(i:Nat):(W.alloc (.cells c t fr)).cell? ⟨W.heap.size,i,none⟩=c[i]?:=by
 have h:(W.alloc (.cells c t fr)).heap[W.heap.size]?=some (.cells c t fr):=qJ W _;unfold World.cell?;simp only[h];rfl
def PC{s:ByteArray}(J:s.size*4<=140737488355328)(q:∀v w',Grow w w'->DG (fun _=>True) w' v (CC s)->K v w'):runK prog (convert 9 293 (.string s)) K w:=by
 refine⟨_,_,run_bytes_of_string w _ _ 5 s (by kernel_rfl) (by kernel_rfl) (by kernel_rfl),q _ _ ((Mod.drew (fun _=>False) w).trans (Mod.alloc _ _ _)) ?_⟩;have hl:(CC s).length=s.size:=by simp[CC]
 have hm:s.size<=maxLen:=by simp only[maxLen];omega
 refine⟨_,_,by rw[hl],by rw[hl];exact grownCap_ge _ _ _ _,qK _ _ _ _ hm,fun i x m=>⟨_,[.int .u8 x],rfl,trivial,rfl,fun j u hu=>?_,rfl⟩⟩;have B:j=0:=by have:=(Ad.1 hu).1;simp at this;exact this
 subst B;simp at hu;subst hu;rw[AH,ns,lD];have hi:=(Ad.1 m).1;rw[hl] at hi;have o:x=((s.data[i]'hi).toNat:Int):=by
  simp only[CC,lP,lq] at m;rw[oy hi] at m;simpa using m.symm
 subst o;have I:i<s.data.size:=hi;refine(Qf w.drew _ _ _ i).trans ?_;simp[bytesRow,q7,hi]
def GU(f:Int):Prop:=9218868437227405312<f.tmod 9223372036854775808
instance (f:Int):Decidable (GU f):=by unfold GU;infer_instance
def FH:ByteArray:=ByteArray.mk #[]
def DH(v:A6):Prop:=(v.kind=1/\v=⟨1,v.n,0,FH⟩/\(v.n=0\/v.n=1))\/(v.kind=2/\v=⟨2,v.n,0,FH⟩)\/(v.kind=3/\v=⟨3,0,v.f,FH⟩/\(¬GU v.f\/v.f=9221120237041090560))\/
 (v.kind=4/\v=⟨4,0,0,v.s⟩/\v.s.size<=64/\(Bw (CC v.s)).isSome=true)
instance (v:A6):Decidable (DH v):=by unfold DH;infer_instance
def A6.one(v:A6):∀u∈v.cells,u.oneCell'=true:=by
 intro u hu;simp only[A6.cells,K8,kU,mb] at hu;rcases hu with rfl|rfl|rfl|rfl<;>rfl
def DKey.zero:DKey:=⟨0,false,0,false,false,0⟩
def Bf(i:List DKey)(id:Int):Option DKey:=i.find? fun k=>decide (k.id=id)
def Gm(i:List DKey)(id:Int)(v:A6):Prop:=∃k,Bf i id=some k/\DH v/\v.kind=k.kind
def NC{α:Type}(key:α->Int)(l:List α)(n:Nat):Prop:=∀i,1<=i->i<n->∀a b,l[i-1]?=some a->l[i]?=some b->key a<key b
abbrev jf(l:List Attr):Prop:=NC Attr.key l l.length
abbrev jb(l:List Chg):Prop:=NC Chg.key l l.length
def KH(l:List Attr):Prop:=¬jf l\/64<l.length\/∃a∈l,¬DH a.val
def Gw(i:List DKey)(l:List Attr):Prop:=∃a∈l,¬Gm i a.key a.val
open Classical in
noncomputable def Bm(i:List DKey)(l:List Attr):Int:=if KH l then 3 else if Gw i l then 4 else 0
def A6.zero:A6:=⟨0,0,0,FH⟩
def Lj(p:List Chg):Prop:=¬jb p\/64<p.length\/∃c∈p,(c.gone=true/\c.val≠A6.zero)\/(c.gone=false/\¬DH c.val)
def HC(i:List DKey)(p:List Chg):Prop:=∃c∈p,Bf i c.key=none\/(c.gone=false/\¬Gm i c.key c.val)
open Classical in
noncomputable def Db(i:List DKey)(p:List Chg):Int:=if Lj p then 3 else if HC i p then 4 else 0
def EI(k:DKey):Prop:=1<=k.id/\k.id<=1000/\1<=k.kind/\k.kind<=4/\0<=k.group/\k.group<=8/\(k.block=false->k.group=0)/\(k.block=true->k.before=false)
def fE(m:List DKey)(n:Nat):Prop:=∀i,i<n->∀k,m[i]?=some k->EI k/\∀j,j<i->∀o,m[j]?=some o->o.id≠k.id
def Fc(i:List DKey):Prop:=i.length<=64/\fE i i.length
def S0(l:List Attr):Nat:=(l.map fun a=>a.val.s.size).sum
def T7(l:List Chg):Nat:=(l.map fun a=>a.val.s.size).sum
def SH(l:List Attr):JC l=l.length+S0 l:=by
 induction l with
 |nil=>rfl
 |cons a l i=>simp only[JC,S0,kN,mM,S5,LB] at i ⊢;omega
def Sp(l:List Chg):JX l=l.length+T7 l:=by
 induction l with
 |nil=>rfl
 |cons a l i=>simp only[JX,T7,kN,mM,S5,Pf] at i ⊢;omega
def Vv{l:List Attr}{k:Nat}(h:k<l.length):S0 (l.take (k+1))=S0 (l.take k)+l[k].val.s.size:=by
 rw[No,By h];simp only[S0,Option.toList,Ty,nk,kN,lp,mM,my,lD]
def WV{l:List Chg}{k:Nat}(h:k<l.length):T7 (l.take (k+1))=T7 (l.take k)+l[k].val.s.size:=by
 rw[No,By h];simp only[T7,Option.toList,Ty,nk,kN,lp,mM,my,lD]
def RY{l:List Dop}{k:Nat}(h:k<l.length):BA (l.take (k+1))=BA (l.take k)+Ef l[k]:=by
 rw[No,By h];simp only[BA,Option.toList,Ty,nk,kN,lp,mM,my,lD]
def Nk{l:List Dop}{o:Dop}(h:o∈l):Ef o<=BA l:=by
 induction l with
 |nil=>simp at h
 |cons a l i=>
  have e:BA (a::l)=Ef a+BA l:=by simp[BA]
  rcases K8.1 h with rfl|h
  .omega
  .have:=i h;omega
def E2(l:List Dop):l.length<=BA l:=by
 induction l with
 |nil=>exact Nn _
 |cons a l i=>simp only[BA,kN,mM,S5,Ef] at i ⊢;omega
def Qn(l:List Dop)(k:Nat):BA (l.take k)<=BA l:=by
 have:BA l=BA (l.take k)+BA (l.drop k):=by
  conv=>lhs;rw[<-S6 k l]
  simp only[BA,Ty,nk]
 omega
def dJ(l:List Attr)(k:Nat):S0 (l.take k)<=S0 l:=by
 have:S0 l=S0 (l.take k)+S0 (l.drop k):=by
  conv=>lhs;rw[<-S6 k l]
  simp only[S0,Ty,nk]
 omega
def df(l:List Chg)(k:Nat):T7 (l.take k)<=T7 l:=by
 have:T7 l=T7 (l.take k)+T7 (l.drop k):=by
  conv=>lhs;rw[<-S6 k l]
  simp only[T7,Ty,nk]
 omega
def Zb{S D:Nat->Prop}{x:List Dop}(h:BE S D w v x)(hb:BA x<=1099511627776) :
  AB prog 34 [v] (fun v' w'=>v'=zI (BA x)/\Grow w w') w:=by
 apply eS;obtain⟨a,c,rfl,hm⟩:=h.shape;simp only[maxLen] at hm;refine AX (fun vs Q=>∃k:Nat,k<=x.length/\vs=[zI (BA (x.take k)),zI k]/\Grow w Q) (fun vs _=>x.length-De vs 1) ⟨0,Nn _,rfl,Mod.refl _ _⟩ ?_;rintro vs Q ⟨k,hk,rfl,X⟩ _;simp only[GC];rw[AP,Am];refine AF (fun ak=>?_) fun al=>?_
 .have m:k<x.length:=by omega
  have Y:=RY m;have a8:=Qn x (k+1);obtain⟨p,r,rfl,_,hr,hc,rv,sv,pv,rfl,h1,h2,h3⟩:=(BE.grow h X).get m;obtain⟨a1,c1,rfl,m1⟩:=h1.shape;obtain⟨a2,c2,rfl,m2⟩:=h2.shape;obtain⟨a3,c3,rfl,m3⟩:=h3.shape;have cl:∀{W},Grow Q W->∀j u,[Value.int .u8 x[k].kind,zI x[k].n,.slice a1 x[k].Ag.length c1,.slice a2 x[k].set.length c2,.slice a3 x[k].patch.length c3][j]?=some u->W.cell? ((p.add (k*5)).add j)=some u:=fun B j u hu=>by rw[Addr.add_add];exact B.cell (hc j u hu) fun h=>h
  simp only[Ef,SH,Sp] at Y;refine Cx (fun w2=>Grow Q w2) (Mod.drew _ _) ?_;rw[AQ,wrap64 (by omega) (by omega)];refine AT m ?_;rw[AG];refine Ay (fun W B=>cl B 2 _ rfl) ?_;rw[AP,AQ,wrap64 (by omega) (by omega)];refine AT m ?_;rw[AG];refine Ay (fun W B=>cl B 3 _ rfl) ?_;rw[AP,AQ,wrap64 (by omega) (by omega)];refine AT m ?_;rw[AG];refine Ay (fun W B=>cl B 4 _ rfl) ?_;rw[AP,AQ,wrap64 (by omega) (by omega)];intro w2 g2;generalize hN:((BA (x.take k):Nat):Int)+1+x[k].Ag.length+x[k].set.length+x[k].patch.length=N;refine AX (fun vs w3=>∃i:Nat,i<=x[k].set.length/\vs=[zI (N+S0 (x[k].set.take i)),zI i]/\Grow Q w3) (fun vs _=>x[k].set.length-De vs 1) ⟨0,Nn _,by simp[S0],g2⟩ ?_;rintro vs w3 ⟨i,hi,rfl,T⟩ _;simp only[GC];refine AT m ?_;rw[AG];refine AL (cl T 3 _ rfl) ?_;rw[AP,Am];refine AF (fun Z=>?_) fun a6=>?_
  .have o:i<x[k].set.length:=by omega
   have I:=Vv o;have U:=dJ x[k].set (i+1);refine AT m ?_;rw[AG];refine AL (cl T 3 _ rfl) ?_;obtain⟨q,r',rfl,_,a7,J,O⟩:=(h2.grow T (by decide) fun _ _ h=>h).get o;subst O;refine AT o ?_;rw[AG,AG,Addr.add_add,Addr.add_add];refine AL (J 4 _ rfl) ?_;rw[LR,AQ,AQ,AO (by omega),wrap64 (by omega) (by omega)];refine⟨⟨i+1,o,by rw[I];congr 2;omega,T⟩,by rw[BD,BD];omega⟩
  .have:i=x[k].set.length:=by omega
   subst this;rw[PF];generalize an:N+S0 x[k].set=N2;refine AX (fun vs w4=>∃i:Nat,i<=x[k].patch.length/\vs=[zI (N2+T7 (x[k].patch.take i)),zI i]/\Grow Q w4) (fun vs _=>x[k].patch.length-De vs 1) ⟨0,Nn _,by simp[T7],T⟩ ?_;rintro vs w4 ⟨i,hi,rfl,V⟩ _;simp only[GC];refine AT m ?_;rw[AG];refine AL (cl V 4 _ rfl) ?_;rw[AP,Am];refine AF (fun Z=>?_) fun a6=>?_
   .have o:i<x[k].patch.length:=by omega
    have I:=WV o;have U:=df x[k].patch (i+1);refine AT m ?_;rw[AG];refine AL (cl V 4 _ rfl) ?_;obtain⟨q,r',rfl,_,a7,J,O⟩:=(h3.grow V (by decide) fun _ _ h=>h).get o;subst O;refine AT o ?_;rw[AG,AG,Addr.add_add,Addr.add_add];refine AL (J 5 _ rfl) ?_;rw[LR,AQ,AQ,AO (by omega),wrap64 (by omega) (by omega)];refine⟨⟨i+1,o,by rw[I];congr 2;omega,V⟩,by rw[BD,BD];omega⟩
   .have:i=x[k].patch.length:=by omega
    subst this;rw[PF,AQ,AO (by omega)];refine⟨⟨k+1,m,?_,X.trans V⟩,by rw[BD,BD];omega⟩;congr 2
    omega
 .have:k=x.length:=by omega
  subst this;rw[PF];exact⟨rfl,X⟩
structure Gt where
 done:List Dop
 ins:List Dop
 gone:Int
def Gt.z:Gt:=⟨[],[],0⟩
def BH(ins:List Dop)(gone:Int):List Dop:=if 0<gone then ins++[⟨3,gone,[],[],[]⟩] else ins
def FN(d:List Dop)(n:Int)(p:List Chg):List Dop:=
 match d.getLast? with
 |some o=>if o.kind=1/\o.patch=p then d.set (d.length-1) ⟨o.kind,IntKind.i64.wrap (o.n+n),o.Ag,o.set,o.patch⟩ else d++[⟨1,n,[],[],p⟩]
 |none=>d++[⟨1,n,[],[],p⟩]
def Mk(s:Gt)(n:Int)(p:List Chg):Gt:=if n<1 then s else⟨FN (s.done++BH s.ins s.gone) n p,[],0⟩
def FX(ins:List Dop)(rs:List Int)(set:List Attr):List Dop:=
 match ins.getLast? with
 |some o=>if o.set=set then ins.set (ins.length-1) ⟨o.kind,o.n,o.Ag++rs,o.set,o.patch⟩ else ins++[⟨2,0,rs,set,[]⟩]
 |none=>ins++[⟨2,0,rs,set,[]⟩]
def Mr(s:Gt)(rs:List Int)(set:List Attr):Gt:=if rs=[] then s else⟨s.done,FX s.ins rs set,s.gone⟩
def Ql(s:Gt)(n:Int):Gt:=⟨s.done,s.ins,IntKind.i64.wrap (s.gone+J1 n 0)⟩
def CI(s:Gt)(o:Dop):Gt:=if o.kind=1 then Mk s o.n o.patch else if o.kind=2 then Mr s o.Ag o.set else Ql s o.n
def EG(l:List Dop):List Dop:=match l.getLast? with|some o=>if o.kind=1/\o.patch=[] then l.dropLast else l|none=>l
def RH(s:Gt):List Dop:=EG (s.done++BH s.ins s.gone)
def Be(x:List Dop):Gt:=x.foldl CI Gt.z
def Br(x:List Dop):List Dop:=RH (Be x)
def FL(o:Dop):Prop:=(o.kind=1/\o.Ag=[]/\o.set=[]/\1<=o.n/\o.n<=536870912)\/(o.kind=3/\o.Ag=[]/\o.set=[]/\o.patch=[]/\1<=o.n/\o.n<=536870912)\/(o.kind=2/\o.n=0/\o.patch=[]/\o.Ag≠[])
inductive Et:List Dop->Prop
 |nil:Et []
 |snoc (i:List Dop) (rs:List Int) (set:List Attr) (h:Et i) (hr:rs≠[]) (hs:∀q,i.getLast?=some q->q.set≠set):Et (i++[⟨2,0,rs,set,[]⟩])
inductive EP:List Dop->Prop
 |nil:EP []
 |snoc (d ins:List Dop) (gone n:Int) (p:List Chg) (h:EP d) (hi:Et ins) (hg:0<=gone) (hb:gone<=4611686018427387904) (hn:1<=n) (hp:ins=[]->gone=0->∀q,d.getLast?=some q->q.patch≠p):EP (d++BH ins gone++[⟨1,n,[],[],p⟩])
def Et.add(h:Et a)(hr:rs≠[])(set:List Attr):Et (FX a rs set):=by
 cases h with
 |nil=>exact Et.snoc [] rs set .nil hr fun q B=>by simp at B
 |snoc i m j h o I=>
  unfold FX;simp only[WL,gC,lM];by_cases e:j=set
  .rw[DN e];have:(i++[(⟨2,0,m,j,[]⟩:Dop)]).set ((i++[(⟨2,0,m,j,[]⟩:Dop)]).length-1) ⟨2,0,m++rs,j,[]⟩=i++[⟨2,0,m++rs,j,[]⟩]:=by simp
   rw[this];exact Et.snoc i _ j h (by simp[o]) I
  .rw[Bq e];exact Et.snoc _ rs set (Et.snoc i m j h o I) hr fun q B=>by
    simp only[WL,gC,lM,i6] at B;subst B;exact e
def Et.kinds(h:Et a):∀o∈a,o.kind=2:=by
 induction h with
 |nil=>intro o j;simp at j
 |snoc i rs set h hr q m=>
  intro o j;rcases C3.1 j with j|j
  .exact m o j
  .simp at j;subst j;rfl
def Et.run(h:Et a)(d:List Dop)(g:Int):a.foldl CI ⟨d,[],g⟩=⟨d,a,g⟩:=by
 induction h with
 |nil=>rfl
 |snoc i rs set h hr j m=>
  rw[mC,m];simp only[me,oj,CI,show ¬(2:Int)=1 by decide,lT,lE,Mr,Bq hr,FX];cases e:i.getLast? with
  |none=>rfl
  |some q=>simp only;rw[Bq (j q e)]
def IP(h:Et a):∀o,(BH a most).getLast?=some o->o.kind≠1:=by
 intro o i;unfold BH at i;split at i
 .simp only[WL,gC,lM,i6] at i;subst i;intro h;cases h
 .have:=h.kinds o (mj i);omega
def JY(h0:0<=most)(h:BH a most=[]):a=[]/\most=0:=by
 unfold BH at h;split at h
 .simp at h
 .exact⟨h,by omega⟩
def Ly{d g:List Dop}:(d++g).getLast?=match g.getLast? with|some o=>some o|none=>d.getLast?:=by
 rw[WL];cases g.getLast?<;>rfl
def SC(h:Et a)(d:List Dop){g:Int}(i:0<=g)(hb:g<=4611686018427387904):(BH a g).foldl CI ⟨d,[],0⟩=⟨d,a,g⟩:=by
 unfold BH;split
 .rw[mC,h.run];simp only[me,oj,CI,show ¬(3:Int)=1 by decide,show ¬(3:Int)=2 by decide,lE,Ql];have:J1 g 0=g:=by unfold J1;rw[Bq (by omega)]
  rw[this,wrap64 (by omega) (by omega)];congr 1;omega
 .rw[h.run];congr 1;omega
def SD{d g:List Dop}{n:Int}{p:List Chg}(h1:∀o,g.getLast?=some o->o.kind≠1)(i:g=[]->∀q,d.getLast?=some q->q.patch≠p):FN (d++g) n p=d++g++[⟨1,n,[],[],p⟩]:=by
 unfold FN;rw[Ly];cases e:g.getLast? with
 |some o=>simp only;rw[Bq (fun h=>h1 o e h.1)]
 |none=>
  have:g=[]:=nL.1 e;subst this;simp only[kK];cases j:d.getLast? with
  |none=>rfl
  |some q=>simp only;rw[Bq (fun h=>i rfl q j h.2)]
def EP.run{d:List Dop}(h:EP d):d.foldl CI Gt.z=⟨d,[],0⟩:=by
 induction h with
 |nil=>rfl
 |snoc d ins gone n p h hi i hb m hp j=>
  rw[mC,mC,j,SC hi d i hb];simp only[me,oj,CI,lT,Mk,Bq (show ¬n<1 by omega)];rw[SD (IP hi) fun e=>hp (JY i e).1 (JY i e).2]
def Es(l:List Dop):Int:=(l.map (·.n)).sum
def Co(l m:List Dop):Es (l++m)=Es l+Es m:=by simp[Es]
def Ek(o:Dop):Es [o]=o.n:=by simp[Es]
def Et.sum(h:Et a):Es a=0:=by
 induction h with
 |nil=>rfl
 |snoc i rs set h hr m j=>rw[Co,Ek,j];rfl
def G5{g:Int}(h:Et a)(i:0<=g):Es (BH a g)=g:=by
 unfold BH;split
 .rw[Co,Ek,h.sum];simp
 .rw[h.sum];omega
def EP.nn{d:List Dop}(h:EP d):0<=Es d:=by
 induction h with
 |nil=>simp[Es]
 |snoc d ins gone n p h hi i hb j hp m=>rw[Co,Co,Ek,G5 hi i];simp only;omega
structure Canon (s:Gt) (t:Int):Prop where
 done:EP s.done
 ins:Et s.ins
 gone:0<=s.gone
 sum:Es s.done+s.gone=t
def Canon.step{s:Gt}{t:Int}(h:Canon s t){o:Dop}(ho:FL o)(ht:t+o.n<=4611686018427387904):Canon (CI s o) (t+o.n):=by
 obtain⟨done,ins,gone⟩:=s;obtain⟨h1,J,Q,V⟩:=h;simp only at h1 J Q V;obtain⟨k,n,rs,set,p⟩:=o;have a6:=h1.nn;rcases ho with⟨m,O,T,j,Y⟩|⟨m,O,T,j,Y,e6⟩|⟨m,O,T,j⟩
 .simp only at m O T j Y ht;subst m;simp only[CI,lT,Mk,Bq (show ¬n<1 by omega)];have key:EP (FN (done++BH ins gone) n p)/\Es (FN (done++BH ins gone) n p)=t+n:=by
   by_cases i:BH ins gone=[]
   .obtain⟨Z,e9⟩:=JY Q i;subst Z;subst e9;rw[i,kK];cases h1 with
    |nil=>exact⟨EP.snoc [] [] 0 n p .nil .nil (by omega) (by omega) j fun _ _ q X=>by simp at X,by simp only[FN,qV,Co,Ek] at V ⊢;omega⟩
    |snoc d ins gone I B h hi U hb hn hp=>
     unfold FN;rw[WL,gC,lM];simp only[pM];rw[Co,Co,Ek,G5 hi U] at V;simp only at V;have a7:=h.nn;by_cases e:B=p
     .rw[DN e];have a1:(d++BH ins gone++[(⟨1,I,[],[],B⟩:Dop)]).set ((d++BH ins gone++[(⟨1,I,[],[],B⟩:Dop)]).length-1) ⟨1,IntKind.i64.wrap (I+n),[],[],B⟩=d++BH ins gone++[⟨1,IntKind.i64.wrap (I+n),[],[],B⟩]:=by
       rw[lY _ _ (by simp)];simp
      rw[a1,wrap64 (by omega) (by omega)];refine⟨EP.snoc d ins gone (I+n) B h hi U hb (by omega) hp,?_⟩;rw[Co,Co,Ek,G5 hi U];simp only;omega
     .rw[Bq e];have:=EP.snoc (d++BH ins gone++[⟨1,I,[],[],B⟩]) [] 0 n p (EP.snoc d ins gone I B h hi U hb hn hp) .nil (by omega) (by omega) j fun _ _ q X=>by
       rw[WL,gC,lM] at X;cases X;exact e
      simp only[BH,show ¬(0:Int)<0 by decide,lE,kK] at this;refine⟨this,?_⟩;simp only[Co,Ek,G5 hi U];omega
   .rw[SD (IP J) fun e=>(i e).elim];refine⟨EP.snoc done ins gone n p h1 J Q (by omega) j fun Z e9=>(i (by subst Z;subst e9;rfl)).elim,?_⟩;rw[Co,Co,Ek,G5 J Q];simp only;omega
  exact⟨key.1,.nil,by simp,by simp only;omega⟩
 .simp only at m O T j Y e6 ht;subst m;simp only[CI,show ¬(3:Int)=1 by decide,show ¬(3:Int)=2 by decide,lE,Ql];have:J1 n 0=n:=by unfold J1;rw[Bq (by omega)]
  rw[this,wrap64 (by omega) (by omega)];exact⟨h1,J,by simp only;omega,by simp only;omega⟩
 .simp only at m O T j ht;subst m;subst O;simp only[CI,show ¬(2:Int)=1 by decide,lT,lE,Mr,Bq j];exact⟨h1,J.add j set,Q,by simp only;omega⟩
def FL.nn{o:Dop}(h:FL o):0<=o.n/\o.n<=536870912:=by
 rcases h with⟨_,_,_,h,i⟩|⟨_,_,_,_,h,i⟩|⟨_,h,_⟩<;>omega
def IZ(x:List Dop)(h:∀o∈x,FL o):0<=Es x/\Es x<=x.length*536870912:=by
 induction x with
 |nil=>simp[Es]
 |cons o x i=>
  have h1:=i fun o j=>h o (by simp[j]);have m:=(h o (by simp)).nn;have:Es (o::x)=o.n+Es x:=by simp[Es]
  rw[this];simp only[S5];omega
def IU(x:List Dop)(h:∀o∈x,FL o)(hl:x.length<=8589934592):Canon (Be x) (Es x):=by
 induction x using IX with
 |h0=>exact⟨.nil,.nil,by decide,by decide⟩
 |h1 x o m=>
  have j:∀o∈x,FL o:=fun o i=>h o (by simp[i]);have i:=h o (by simp);simp only[Bp,S5,lG] at hl;have h1:=m (fun o i=>j o i) (by omega);have q:=IZ x fun o i=>j o i;have B:=i.nn;unfold Be at h1 ⊢;rw[mC,Co,Ek];exact h1.step i (by omega)
def Wn{d ins:List Dop}{g:Int}(Q:EP d)(hi:Et ins)(T:0<=g)(hb:g<=4611686018427387904):Br (EG (d++BH ins g))=EG (d++BH ins g):=by
 have same:∀(d ins:List Dop) (g:Int),EP d->Et ins->0<=g->g<=4611686018427387904->Br (d++BH ins g)=EG (d++BH ins g):=by
  intro d ins g Q hi T hb;unfold Br Be RH;rw[mC,Q.run,SC hi d T hb]
 by_cases j:BH ins g=[]
 .rw[j,kK];cases Q with
  |nil=>rfl
  |snoc d i g' n p h m B J V hp=>
   by_cases e:p=[]
   .subst e;have I:EG (d++BH i g'++[(⟨1,n,[],[],[]⟩:Dop)])=d++BH i g':=by
     unfold EG;rw[WL,gC,lM];simp only[and_self,lT,l9]
    rw[I,same d i g' h m B J];unfold EG;rw[Ly];cases O:(BH i g').getLast? with
    |some o=>simp only;rw[Bq (fun h=>IP m o O h.1)]
    |none=>
     have U:BH i g'=[]:=nL.1 O;obtain⟨X,Y⟩:=JY B U;rw[U,kK];simp only;cases Z:d.getLast? with
     |none=>rfl
     |some q=>simp only;rw[Bq (fun h=>hp X Y q Z h.2)]
   .have hD:=EP.snoc d i g' n p h m B J V hp;have I:EG (d++BH i g'++[(⟨1,n,[],[],p⟩:Dop)])=d++BH i g'++[⟨1,n,[],[],p⟩]:=by
     unfold EG;rw[WL,gC,lM];simp only[e,and_false,lE]
    rw[I];have:=same _ [] 0 hD .nil (by omega) (by omega);simp only[BH,show ¬(0:Int)<0 by decide,lE,kK] at this;exact this.trans I
 .have I:EG (d++BH ins g)=d++BH ins g:=by
   unfold EG;rw[Ly];cases O:(BH ins g).getLast? with
   |some o=>simp only;rw[Bq (fun h=>IP hi o O h.1)]
   |none=>exact(j (nL.1 O)).elim
  rw[I,same d ins g Q hi T hb,I]
def Rj(x:List Dop)(h:∀o∈x,FL o)(hl:x.length<=8589934592):Br (Br x)=Br x:=by
 have c:=IU x h hl;have i:=IZ x h;have j:=c.done.nn;have m:=c.sum;exact Wn c.done c.ins c.gone (by omega)
def Bu(l:List Dop):Nat:=(l.map fun o=>o.Ag.length).sum
def Cf(l:List Dop):Int:=(l.map fun o=>if o.kind=3 then o.n else 0).sum
def DQ(l m:List Dop):Bu (l++m)=Bu l+Bu m:=by simp[Bu]
def E9(l m:List Dop):Cf (l++m)=Cf l+Cf m:=by simp[Cf]
def ET(o:Dop):Bu [o]=o.Ag.length:=by simp[Bu]
def G2(o:Dop):Cf [o]=if o.kind=3 then o.n else 0:=by simp[Cf]
def JU(i:List Dop)(b o:Dop):(i++[b]).set ((i++[b]).length-1) o=i++[o]:=by
 rw[lY _ _ (by simp)];simp
def gV(d:List Dop)(n:Int)(p:List Chg):Bu (FN d n p)=Bu d/\Cf (FN d n p)=Cf d/\(FN d n p).length<=d.length+1:=by
 rcases Dm d with rfl|⟨i,b,rfl⟩
 .exact⟨by simp[FN,Bu],by simp[FN,Cf],by simp[FN]⟩
 .unfold FN;rw[WL,gC,lM];simp only;by_cases e:b.kind=1/\b.patch=p
  .rw[DN e,JU];refine⟨by simp only[DQ,ET],?_,by simp⟩;simp only[E9,G2,e.1,show ¬(1:Int)=3 by decide,lE]
  .rw[Bq e];exact⟨by simp only[DQ,ET,lG,lD],by simp only[E9,G2,show ¬(1:Int)=3 by decide,lE,rS],by simp⟩
def fK(d:List Dop)(rs:List Int)(set:List Attr):Bu (FX d rs set)=Bu d+rs.length/\(FX d rs set).length<=d.length+1:=by
 rcases Dm d with rfl|⟨i,b,rfl⟩
 .exact⟨by simp[FX,Bu],by simp[FX]⟩
 .unfold FX;rw[WL,gC,lM];simp only;by_cases e:b.set=set
  .rw[DN e,JU];exact⟨by simp only[DQ,ET,Bp];omega,by simp⟩
  .rw[Bq e];exact⟨by simp only[DQ,ET],by simp⟩
def Vq{g:Int}(h:Et a)(B:0<=g):Bu (BH a g)=Bu a/\Cf (BH a g)=g/\(BH a g).length=a.length+if 0<g then 1 else 0:=by
 have i:Cf a=0:=by
  have hk:=h.kinds;clear h;induction a with
  |nil=>rfl
  |cons o l j=>
   have:=j fun o m=>hk o (by simp[m]);have q:=hk o (by simp);have e:Cf (o::l)=(if o.kind=3 then o.n else 0)+Cf l:=by simp[Cf]
   rw[e,this,q];rfl
 unfold BH;by_cases h0:0<g
 .rw[DN h0,DN h0];refine⟨by simp only[DQ,ET,lG,lD],?_,by simp⟩;simp only[E9,G2,lT,i];omega
 .rw[Bq h0,Bq h0];exact⟨rfl,by omega,by simp⟩
def EP.bare{d:List Dop}(h:EP d):∀o∈d,o.kind=1->o.Ag=[]:=by
 induction h with
 |nil=>intro o i;simp at i
 |snoc d ins gone n p h hi m hb q hp j=>
  intro o i hk;rcases C3.1 i with i|i
  .rcases C3.1 i with i|i
   .exact j o i hk
   .unfold BH at i;split at i
    .rcases C3.1 i with i|i
     .have:=hi.kinds o i;omega
     .simp at i;subst i;rfl
    .have:=hi.kinds o i;omega
  .simp at i;subst i;rfl
def UX(x:List Dop)(h:∀o∈x,FL o)(hl:x.length<=8589934592) :
  Bu (Be x).done+Bu (Be x).ins=Bu x/\Cf (Be x).done+(Be x).gone=Cf x/\(Be x).done.length+(Be x).ins.length+(if 0<(Be x).gone then 1 else 0)<=x.length:=by
 induction x using IX with
 |h0=>exact⟨rfl,rfl,by simp[Be,Gt.z]⟩
 |h1 x o V=>
  have I:∀o∈x,FL o:=fun o i=>h o (by simp[i]);have i:=h o (by simp);simp only[Bp,S5,lG] at hl;have J:=V (fun o i=>I o i) (by omega);have c:=IU x (fun o i=>I o i) (by omega);have h2:=IZ x fun o i=>I o i;rw[DQ,E9,ET,G2,Bp,ni];unfold Be at J c ⊢;simp only[mC,me,oj];generalize x.foldl CI Gt.z=s at J c ⊢;obtain⟨done,ins,gone⟩:=s;obtain⟨c1,c2,Q,X⟩:=c;obtain⟨T,Y,U⟩:=J;obtain⟨k,n,rs,set,p⟩:=o;simp only at c1 c2 Q X T Y U ⊢;have Z:=c1.nn;rcases i with⟨j,m,q,B,O⟩|⟨j,m,q,B,O,e6⟩|⟨j,m,q,B⟩
  .simp only at j m q B O;subst j;subst m;subst q;simp only[CI,lT,Mk,Bq (show ¬n<1 by omega)];obtain⟨p1,p2,p3⟩:=gV (done++BH ins gone) n p;obtain⟨g1,g2,g3⟩:=Vq c2 Q;rw[p1,p2,DQ,E9,g1,g2];rw[Bp,g3] at p3;refine⟨by simp[Bu] at T ⊢;omega,?_,?_⟩
   .simp only[show ¬(1:Int)=3 by decide,lE];omega
   .simp only[lG,show ¬(0:Int)<0 by decide,lE];omega
  .simp only at j m q B O e6;subst j;subst m;subst q;subst B;have:J1 n 0=n:=by unfold J1;rw[Bq (by omega)]
   simp only[CI,show ¬(3:Int)=1 by decide,show ¬(3:Int)=2 by decide,lE,Ql,this,lT];rw[wrap64 (by omega) (by omega)];refine⟨by simp;omega,by omega,?_⟩;split<;>split at U<;>omega
  .simp only at j m q B;subst j;subst m;subst q;simp only[CI,show ¬(2:Int)=1 by decide,show ¬(2:Int)=3 by decide,lT,lE,Mr,Bq B];obtain⟨a1,a2⟩:=fK ins rs set;rw[a1];refine⟨by omega,by omega,by omega⟩
def Rl(x:List Dop)(h:∀o∈x,FL o)(hl:x.length<=8589934592):Bu (Br x)=Bu x/\Cf (Br x)=Cf x/\(Br x).length<=x.length:=by
 obtain⟨h1,J,U⟩:=UX x h hl;have c:=IU x h hl;obtain⟨O,Q,T⟩:=Vq c.ins c.gone;have m:Bu ((Be x).done++BH (Be x).ins (Be x).gone)=Bu x:=by rw[DQ,O];exact h1
 have q:Cf ((Be x).done++BH (Be x).ins (Be x).gone)=Cf x:=by rw[E9,Q];exact J
 have B:((Be x).done++BH (Be x).ins (Be x).gone).length<=x.length:=by rw[Bp,T];omega
 have I:∀o∈(Be x).done++BH (Be x).ins (Be x).gone,o.kind=1->o.Ag=[]:=by
  intro o j hk;rcases C3.1 j with j|j
  .exact c.done.bare o j hk
  .unfold BH at j;split at j
   .rcases C3.1 j with j|j
    .have:=c.ins.kinds o j;omega
    .simp at j;subst j;rfl
   .have:=c.ins.kinds o j;omega
 unfold Br RH;generalize (Be x).done++BH (Be x).ins (Be x).gone=l at m q B I;unfold EG;rcases Dm l with rfl|⟨i,b,rfl⟩
 .exact⟨m,q,B⟩
 .rw[WL,gC,lM];simp only;by_cases e:b.kind=1/\b.patch=[]
  .rw[DN e,l9];have:=I b (by simp) e.1;rw[DQ,ET,this] at m;rw[E9,G2,Bq (by rw[e.1];decide)] at q;simp at m q B;exact⟨m,q,by omega⟩
  .rw[Bq e];exact⟨m,q,B⟩
def Qt(i:List DKey)(x:List Dop):Prop:=(∃o∈x,¬FV o\/Bm i o.set=3\/Db i o.patch=3)\/536870912<Cj Bt x\/536870912<Cj CD x
def H8(i:List DKey)(x:List Dop):Prop:=∃o∈x,Bm i o.set≠0\/Db i o.patch≠0
open Classical in
noncomputable def Cs(i:List DKey)(x:List Dop):Int:=if Qt i x then 3 else if H8 i x then 4 else 0
def AE.conv{B e k:Nat}{T R:World->List Value->α->Prop}{g n c:Nat}{l:List α}(h:AE B e k T w (.slice (some ⟨g,0,none⟩) n c) l)
 (U:∀i (hi:i<l.length) (r:List Value),r.length=k->(∀u∈r,u.oneCell'=true)->(∀q u,r[q]?=some u->w.cell? ⟨g,i*k+q,none⟩=some u)->R w r l[i]):AE B e k R w (.slice (some ⟨g,0,none⟩) n c) l:=by
 obtain⟨rows,h1,V,o,h4⟩:=h;have j:∀r∈rows,r.length=k:=fun r hr=>(o r hr).1;have X:n=l.length:=by
  rcases h1.2 with⟨m,_⟩|⟨g',Q,Y,m,_⟩
  .simp at m
  .simp only[nQ] at m;exact m.2.1
 subst X;refine⟨rows,h1,V,o,fun i r x hr I=>?_⟩;have hi:i<l.length:=(Ad.1 I).1;have J:x=l[i]:=by rw[By hi] at I;exact(kW I).symm
 subst J;have hm:=lS hr;refine U i hi r (j r hm) (o r hm).2 fun q u hu=>?_;have Z:q<k:=by rw[<-j r hm];exact(Ad.1 hu).1
 have O:i*k+q<l.length*k:=by
  have:(i+1)*k<=l.length*k:=lW _ hi;rw[lO] at this;omega
 have:=h1.cellAt _ O;rw[Hu rows i q r j hr Z] at this;rw[<-hu];exact this
def AE.any{B e k:Nat}{i:World->List Value->α->Prop}{l:List α}(h:AE B e k i w v l):AE B e k (fun _ _ _=>True) w v l:=by
 obtain⟨rows,h1,j,m,_⟩:=h;exact⟨rows,h1,j,m,fun _ _ _ _ _=>trivial⟩
def AE.Ki{B e k:Nat}{g n c:Nat}{l:List α}(h:AE B e k (fun _ _ _=>True) w (.slice (some ⟨g,0,none⟩) n c) l){i j:Nat}(hi:i<l.length)(q:j<k){u:Value}(hu:u.oneCell'=true) :
  AE B e k (fun _ _ _=>True) (w.setCell ⟨g,i*k+j,none⟩ u) (.slice (some ⟨g,0,none⟩) n c) l:=by
 have o:=(AE.store (R':=fun _ _ _=>True) (x':=l[i]) h hi q hu (fun _ _ _ _=>trivial) fun _ _=>trivial).2.2.1;have e:l.set i l[i]=l:=q9 hi;rw[e] at o;have m:(⟨g,0,none⟩:Addr).add (i*k+j)=⟨g,i*k+j,none⟩:=by unfold Addr.add;split<;>simp_all
 rw[m] at o;exact o
def LG(W:World)(g o:Nat)(u:Value):Mod (fun b=>b=g) W (W.setCell ⟨g,o,none⟩ u):=Mod.setCell _ _ _ rfl
def AE.cellsOf{B e k:Nat}{R:World->List Value->α->Prop}{g n c:Nat}{l:List α}(h:AE B e k R w (.slice (some ⟨g,0,none⟩) n c) l){i:Nat}(hi:i<l.length) :
  ∃r,r.length=k/\(∀q u,r[q]?=some u->w.cell? ⟨g,i*k+q,none⟩=some u)/\R w r l[i]/\∀q,q<k->Live w ⟨g,i*k+q,none⟩:=by
 obtain⟨p,r,m,_,hr,hc,o⟩:=(AE.sl h).get hi;cases m;have j:∀q,(⟨g,0,none⟩:Addr).add (i*k+q)=⟨g,i*k+q,none⟩:=fun q=>by unfold Addr.add;split<;>simp_all
 refine⟨r,hr,fun q u hu=>by rw[<-j];exact hc q u hu,o,fun q I=>?_⟩;obtain⟨g',J,_,hl⟩:=AE.live h hi I;cases J;rw[j] at hl;exact hl
def NI(W:World)(g j:Nat)(o:Dop)(i sv m:Value):Prop:=∀q u,[Value.int .u8 o.kind,zI o.n,i,sv,m][q]?=some u->W.cell? ⟨g,j*5+q,none⟩=some u
def NI.je{g j:Nat}{o:Dop}{i sv m:Value}(h:NI W g j o i sv m)(B:∀q,q<5->W'.cell? ⟨g,j*5+q,none⟩=W.cell? ⟨g,j*5+q,none⟩):NI W' g j o i sv m:=by
 intro q u hu;have:=(Ad.1 hu).1;simp only[S5,lG] at this;rw[B q (by omega)];exact h q u hu
def Tw{S D:Nat->Prop}{x:List Dop}(h:BE S D w v x)(hb:BA x<=1099511627776) :
  AB prog 121 [v] (fun v' w'=>ML w.heap.size w' v' x/\Grow w w') w:=by
 apply Zx;have c8:=E2 x;refine AA (Li h (by omega)) ?_;rintro v1 w1 ⟨o1,g1⟩;obtain⟨a1,c1,rfl,c9,bk,hp,hn⟩:=AE.shape o1;simp only[maxLen] at bk;rw[AP];cases a1 with
 |none=>
  have:=hn rfl;subst this;refine AX (fun vs w2=>vs=[zI 0]/\w2=w1) (fun _ _=>0) ⟨rfl,rfl⟩ ?_;rintro vs _ ⟨rfl,rfl⟩ _;rename World=>w1
  rw[Bl,Nr,Am];exact AF (fun h=>by simp at h) fun _=>⟨AE.mod o1 (Mod.refl (fun _=>False) _) (fun _ _ h=>h) fun r y hy=>by simp at hy,g1⟩
 |some p1=>
  obtain⟨g,rfl,ca,cc,_⟩:=hp _ rfl;have bl:∀o∈x,o.Ag.length*4<=140737488355328/\o.set.length*48<=140737488355328/\o.patch.length*56<=140737488355328:=by
   intro o ho;have:=Nk ho;simp only[Ef,SH,Sp] at this;omega
  let F:Nat->Prop:=fun b=>w.heap.size<=b/\b≠g
  let D0:Nat->Prop:=fun b=>D b/\b<w.heap.size
  let Inv:Nat->World->Prop:=fun i W=>AE w.heap.size 83 5 (fun _ _ _=>True) W (.slice (some ⟨g,0,none⟩) x.length c1) x/\Mod (fun b=>b=g) w1 W/\
   ∀j (O:j<x.length),∃T sv U,NI W g j x[j] T sv U/\(j<i->PG F W [.int .u8 x[j].kind,zI x[j].n,T,sv,U] x[j])/\(i<=j->Cb D0 W [.int .u8 x[j].kind,zI x[j].n,T,sv,U] x[j])
  have av:Inv 0 w1:=by
   refine⟨o1.any,Mod.refl _ _,fun j O=>?_⟩;obtain⟨r,hr,a8,ho,_⟩:=AE.cellsOf o1 O;obtain⟨T,sv,U,rfl,q1,q2,q3⟩:=ho;exact⟨T,sv,U,a8,fun h=>by omega,fun _=>⟨T,sv,U,rfl,q1,q2,q3⟩⟩
  have cd:=g1.size;refine AX (fun vs W=>∃i:Nat,i<=x.length/\vs=[zI i]/\Inv i W) (fun vs _=>x.length-De vs 0) ⟨0,Nn _,rfl,av⟩ ?_;rintro vs w2 ⟨i,hi,rfl,a7⟩ _;rw[Bl,Nr,Am];refine AF (fun ch=>?_) fun cn=>?_
  .have m:i<x.length:=by omega
   obtain⟨oA,mA,rows⟩:=a7;have cv:=mA.size;obtain⟨T,sv,U,V,_,bn⟩:=rows i m;obtain⟨_,_,_,e,q1,q2,q3⟩:=bn (Mp _);simp only[mn,qg,pM] at e;obtain⟨rfl,rfl,rfl⟩:=e;have ax:x[i]∈x:=by simp
   obtain⟨z1,z2,z3⟩:=bl _ ax;have gd:Grow w2 w2.drew:=Mod.drew _ _;refine Af (fun k b=>(k=26\/k=29\/k=32)/\b=g) ?_;have ld:∀q u,[Value.int .u8 x[i].kind,zI x[i].n,T,sv,U][q]?=some u->w2.drew.cell? ((⟨g,0,none⟩:Addr).add (i*5+q))=some u:=fun q u hu=>by rw[AH];exact V q u hu
   have lv:∀q,q<5->Live w2 ⟨g,i*5+q,none⟩:=by
    obtain⟨_,_,_,_,hl⟩:=AE.cellsOf oA m;exact hl
   refine AT m ?_;rw[AG,Addr.add_add];refine AU ⟨ld 2 _ rfl,fun j O h=>by rcases h with⟨rfl|rfl|rfl,_⟩<;>exact absurd O (by decide)⟩ ?_;refine AA (KR (q1.grow gd (by decide) fun _ _ h=>h) z1) ?_;rintro t1 w3 ⟨n1,g3⟩;refine⟨Grow.mod g3,?_⟩;have ay:=gd.trans g3;refine AT m ?_;rw[AG,Addr.add_add];refine AU ⟨ld 3 _ rfl,fun j O h=>by rcases h with⟨rfl|rfl|rfl,_⟩<;>exact absurd O (by decide)⟩ ?_;refine AA (Ej (q2.grow ay (by decide) fun _ _ h=>h) z2) ?_;rintro t2 w4 ⟨n2,g4⟩;refine⟨Grow.mod g4,?_⟩;have b0:=ay.trans g4;refine AT m ?_;rw[AG,Addr.add_add];refine AU ⟨ld 4 _ rfl,fun j O h=>by rcases h with⟨rfl|rfl|rfl,_⟩<;>exact absurd O (by decide)⟩ ?_;refine AA (P6 (q3.grow b0 (by decide) fun _ _ h=>h) z3) ?_;rintro t3 Q ⟨n3,g5⟩;refine⟨Grow.mod g5,?_⟩;have B:=b0.trans g5;have cx:=B.size;have zd:w2.drew.heap.size=w2.heap.size:=rfl;have da:=g3.size;have dk:=g4.size;have Z:∀q,q<5->Live Q ⟨g,i*5+q,none⟩:=fun q X=>(lv q X).mod B fun h=>h;have b6:AE 0 21 1 Bz Q t1 x[i].Ag:=AE.base (AE.mod n1 (g4.trans g5) (fun _ _ h=>h) fun _ _ _ h=>h) fun _ _=>Nn _;have b7:HY 0 Q t2 x[i].set:=AE.base (AE.mod n2 g5 (fun _ _ h=>h) fun _ _ _ h=>h) fun _ _=>Nn _;have b8:AE 0 133 6 Eh Q t3 x[i].patch:=AE.base n3 fun _ _=>Nn _;have b1:∀b,t1.ownBlock=some b->F b:=fun b hb=>by have:=(AE.Ax n1 b hb).1;exact⟨by omega,by omega⟩
   have b2:∀b,t2.ownBlock=some b->F b:=fun b hb=>by have:=(AE.Ax n2 b hb).1;exact⟨by omega,by omega⟩
   have b3:∀b,t3.ownBlock=some b->F b:=fun b hb=>by have:=(AE.Ax n3 b hb).1;exact⟨by omega,by omega⟩
   have bp:AE w.heap.size 83 5 (fun _ _ _=>True) Q (.slice (some ⟨g,0,none⟩) x.length c1) x:=AE.mod oA B (fun _ _ h=>h) fun _ _ _ _=>trivial;have ak:=AE.one b6;have al:=AE.one b7;have an:=AE.one b8;refine AT m ?_;rw[AG,Addr.add_add,AH];refine(Z 2 (by decide)).st ak.1 ak.2 ⟨Mod.setCell _ _ _ ⟨.inl rfl,rfl⟩,?_⟩;refine AT m ?_;rw[AG,Addr.add_add,AH];refine((Z 3 (by decide)).set _ _).st al.1 al.2 ⟨Mod.setCell _ _ _ ⟨.inr (.inl rfl),rfl⟩,?_⟩;refine AT m ?_;rw[AG,Addr.add_add,AH];refine(((Z 4 (by decide)).set _ _).set _ _).st an.1 an.2 ⟨Mod.setCell _ _ _ ⟨.inr (.inr rfl),rfl⟩,?_⟩;rw[AQ,AO (by omega)];refine⟨⟨i+1,m,rfl,?_⟩,by rw[CH,CH];omega⟩;have b9:=AE.Ki (AE.Ki (AE.Ki bp m (show 2<5 by decide) ak.1) m (show 3<5 by decide) al.1) m (show 4<5 by decide) an.1;have I:Mod (fun b=>b=g) Q (((Q.setCell ⟨g,i*5+2,none⟩ t1).setCell ⟨g,i*5+3,none⟩ t2).setCell ⟨g,i*5+4,none⟩ t3):=((LG _ _ _ _).trans (LG _ _ _ _)).trans (LG _ _ _ _);have a6:∀j q,q<5->(j≠i\/q<2)->(((Q.setCell ⟨g,i*5+2,none⟩ t1).setCell ⟨g,i*5+3,none⟩ t2).setCell ⟨g,i*5+4,none⟩ t3).cell? ⟨g,j*5+q,none⟩=Q.cell? ⟨g,j*5+q,none⟩:=by
    intro j q X O;have ne:∀q',q'<5->2<=q'->(⟨g,i*5+q',none⟩:Addr)≠⟨g,j*5+q,none⟩:=by
     intro q' h1 h2 e;simp only[Addr.mk.injEq,qg,pM] at e;omega
    rw[S4 _ _ _ _ (ne 4 (by omega) (by omega)),S4 _ _ _ _ (ne 3 (by omega) (by omega)),S4 _ _ _ _ (ne 2 (by omega) (by omega))]
   have same:∀j q u,w2.cell? ⟨g,j*5+q,none⟩=some u->Q.cell? ⟨g,j*5+q,none⟩=some u:=fun j q u hu=>B.cell hu fun h=>h;generalize hW:(((Q.setCell ⟨g,i*5+2,none⟩ t1).setCell ⟨g,i*5+3,none⟩ t2).setCell ⟨g,i*5+4,none⟩ t3)=W at b9 I a6 ⊢;refine⟨b9,mA.trans ((Grow.mod B).trans I),fun j O=>?_⟩;by_cases ba:j=i
   .subst ba;refine⟨t1,t2,t3,fun q u hu=>?_,fun _=>⟨t1,t2,t3,rfl,IW ⟨b6,b1⟩ I (fun b _ hb e=>hb.2 e) (fun _ _ h=>h) fun _ _ h=>h,IW ⟨b7,b2⟩ I (fun b _ hb e=>hb.2 e) (fun _ _ h=>h) fun _ _ h=>h,IW ⟨b8,b3⟩ I (fun b _ hb e=>hb.2 e) (fun _ _ h=>h) fun _ _ h=>h⟩,fun h=>by omega⟩;have X:=(Ad.1 hu).1;simp only[S5,lG] at X;have ne:∀q q',q≠q'->(⟨g,j*5+q',none⟩:Addr)≠⟨g,j*5+q,none⟩:=by
     intro q q' h e;simp only[Addr.mk.injEq,qg,pM] at e;omega
    have J:∀q,q<5->∃u,Q.cell? ⟨g,j*5+q,none⟩=some u:=fun q X=>kH.1 (Z q X).1;rw[<-hW];match q,X,hu with
    |0,_,hu=>rw[hW,a6 j 0 (by omega) (.inr (by omega))];exact same _ _ _ (V 0 u hu)
    |1,_,hu=>rw[hW,a6 j 1 (by omega) (.inr (by omega))];exact same _ _ _ (V 1 u hu)
    |2,_,hu=>
     simp only[oF,oG,i6] at hu;subst hu;obtain⟨u',Y⟩:=J 2 (by omega);rw[S4 _ _ _ _ (ne 2 4 (by decide)),S4 _ _ _ _ (ne 2 3 (by decide))];exact kQ _ _ _ Y
    |3,_,hu=>
     simp only[oF,oG,i6] at hu;subst hu;obtain⟨u',Y⟩:=J 3 (by omega);rw[S4 _ _ _ _ (ne 3 4 (by decide))];exact kQ _ _ _ ((S4 _ _ _ _ (ne 3 2 (by decide))).trans Y)
    |4,_,hu=>
     simp only[oF,oG,i6] at hu;subst hu;obtain⟨u',Y⟩:=J 4 (by omega);exact kQ _ _ _ ((S4 _ _ _ _ (ne 4 3 (by decide))).trans ((S4 _ _ _ _ (ne 4 2 (by decide))).trans Y))
   .obtain⟨bs,bx,c4,bb,bc,bd⟩:=rows j O;refine⟨bs,bx,c4,NI.je (W:=Q) (fun q u hu=>same _ _ _ (bb q u hu)) fun q X=>a6 j q X (.inl ba),fun h=>?_,fun h=>?_⟩
    .exact(PG.mod (bc (by omega)) (D':=F) B (fun _ _ _ h=>h) fun _ _ h=>h).mod I (fun b _ hb e=>hb.2 e) fun _ _ h=>h
    .exact(Cb.mod (bd (by omega)) (D':=D0) B (fun _ _ _ h=>h) fun _ _ h=>h).mod I (fun b _ hb e=>by have:=hb.2;omega) fun _ _ h=>h
  .have:i=x.length:=by omega
   subst this;obtain⟨oA,mA,rows⟩:=a7;refine⟨AE.conv oA fun j O r hr c7 a8=>?_,g1.next mA fun b hb e=>by omega⟩;obtain⟨T,sv,U,V,c6,_⟩:=rows j O;have e:r=[.int .u8 x[j].kind,zI x[j].n,T,sv,U]:=by
    refine mI fun q=>?_;by_cases X:q<5
    .have h1:r[q]?=some r[q]:=By (by omega);have h2:([Value.int .u8 x[j].kind,zI x[j].n,T,sv,U])[q]?=some ([Value.int .u8 x[j].kind,zI x[j].n,T,sv,U])[q]:=By (by simpa using X);have h3:=a8 q _ h1;rw[V q _ h2] at h3;rw[h1,h2,h3]
    .rw[kY (by omega),kY (by simp;omega)]
   subst e;exact(c6 O).mod (Mod.refl (fun _=>False) _) (fun _ _ _ h=>h) fun b _ hb=>⟨hb.1,fun e=>hb.2 (by simpa[Value.ownBlock] using e.symm)⟩
def Sn{t ty e:TypeId}{a:Option Addr}{n c:Nat}(ht:P.underlying t=some (.slice e)):(Builtin.cap_ #[t] ty #[.slice a n c]).run P w=.ok (zI c) w:=by
 simp[Builtin.cap_,run_underlying ht,goInt]
def Kt{t e k:Nat}{i:TypeInfo}{a:Option Addr}{n c h:Nat}(ht:P.underlying t=some (.slice e))(hi:P.info? e=some i)(hk:i.size=k)(m:h<=c) :
  (Instr.sliceAt t (.slice a n c) none (some (zI h)) none).run P w=.ok (.slice (if c=0 then a else a.map (·.add (0*k))) h c) w:=by
 have j:P.elem t=e:=by simp[Program.elem,ht]
 rw[nS _ _ _ _ _ _ (by rw[j];exact ht),run_slice_h _ _ _ _ _ (by rw[j];exact ht) _ _ (by omega) (by omega),j];simp[sizeOf,typeInfo,hi,hk,sliced]
def Xc{n:Nat}(U:n*88<=140737488355328)(R:World->List Value->Dop->Prop) :
  AB prog 189 [.slice none 0 0,zI n] (fun v' w'=>AE w.heap.size 83 5 R w' v' []/\Grow w w') w:=by
 apply bS;refine AV (fun vs I=>I=w) ?_ ?_
 .rintro vs _ rfl _;rename World=>w
  refine Ae (Sn (e:=83) (by kernel_rfl)) ?_;rw[AP,Aq,Aq,BL];have e0:IntKind.i64.wrap ((n:Int)-IntKind.i64.wrap (((0:Nat):Int)-((0:Nat):Int)))=n:=by rw[wrap64 (x:=((0:Nat):Int)-((0:Nat):Int)) (by omega) (by omega),wrap64 (by omega) (by omega)];omega
  rw[e0];refine AF (fun hp=>?_) fun _=>⟨AE.nil,Mod.refl _ _⟩;refine Ae (Sn (e:=83) (by kernel_rfl)) ?_;refine Ae (Kt (e:=83) (i:=Tryz.t83) (k:=5) (h:=0) (by kernel_rfl) (by kernel_rfl) (by kernel_rfl) (Mp _)) ?_;simp only[lT];obtain⟨i,z,h1,J,O,V,Q,T,X⟩:=Fz;have j:i.bytes=88:=Q;refine Ae (Go.Lib.run_append_nil_zeros (P:=prog) w 34 3 34 83 i z .i64 .i64 h1 (by kernel_rfl) J O n (by omega) (by omega) (by omega) (by rw[j];omega)) ?_;have m:=grownCap_ge w n 0 83;have o:=qK w n 0 83 (by simp only[maxLen];omega);have q:Grow w (w.drew.alloc (.cells (Builtin.zeroCells z.cells n++Builtin.zeroCells z.cells (grownCap w n 0 83-n)) 83)):=(Mod.drew _ _).trans (Mod.alloc _ _ _);have B:=qJ w.drew (.cells (Builtin.zeroCells z.cells n++Builtin.zeroCells z.cells (grownCap w n 0 83-n)) 83);generalize w.drew.alloc (.cells (Builtin.zeroCells z.cells n++Builtin.zeroCells z.cells (grownCap w n 0 83-n)) 83)=w2 at q B ⊢;rw[AP];refine Ae (Kt (e:=83) (i:=Tryz.t83) (k:=5) (h:=0) (by kernel_rfl) (by kernel_rfl) (by kernel_rfl) (Nn _)) ⟨?_,q⟩;rw[Bq (by omega)];simp only[mo,AH,qm];refine⟨[],⟨rfl,.inr ⟨_,_,_,rfl,Mp _,B,Nn _,o,?_,by simp⟩⟩,rfl,by simp,by simp⟩;simp only[qU,rD,T,<-lO];rw[Nat.add_sub_cancel' m]
 .rw[Am];exact AF (fun h=>by omega) fun _=>rfl
def QD{S1 V S2 X:Nat->Prop}{l m:List Dop}{p:Addr}(ha:BE S1 V w v l)(hb:BE S2 X w fr m)(h0:w.cell? p=some v)(h1:w.cell? (p.add 1)=some fr)(hl:(l.length+m.length)*88<=140737488355328) :
  AB prog 120 [.slice (some p) 2 2] (fun v' w'=>AE w.heap.size 83 5 (Cb fun b=>(V b\/X b)/\b<w.heap.size) w' v' (l++m)/\Grow w w') w:=by
 apply Zz;obtain⟨a1,c1,rfl,m1⟩:=ha.shape;obtain⟨a2,c2,rfl,m2⟩:=hb.shape;rw[AP];have n0:((2:Nat):Int)=2:=rfl;refine AX (fun vs Y=>∃k:Nat,k<=2/\vs=[zI (if k=0 then(0:Nat) else if k=1 then l.length else l.length+m.length:Nat),zI k]/\Y=w) (fun vs _=>2-De vs 1) ⟨0,by omega,rfl,rfl⟩ ?_;rintro vs _ ⟨k,hk,rfl,rfl⟩ _;rename World=>w
 simp only[GC];refine Hj (fun a6=>?_) fun a7=>?_
 .have B:k=0\/k=1:=by omega
  rcases B with rfl|rfl
  .refine AT (by decide) ?_;have e:(p.add (0*1))=p.add 0:=rfl;rw[e,Addr.add_zero'];refine AL h0 ?_;rw[AP,AQ,wrap64 (by simp<;>omega) (by simp<;>omega),Am];refine AF (fun h=>by simp at h<;>omega) fun _=>?_;rw[AQ,AO (by omega)];exact⟨⟨1,by omega,by simp,rfl⟩,by rw[BD,BD];omega⟩
  .refine AT (by decide) ?_;refine AL (show w.cell? (p.add (1*1))=_ from h1) ?_;rw[AP,AQ,wrap64 (by simp<;>omega) (by simp<;>omega),Am];refine AF (fun h=>by simp at h<;>omega) fun _=>?_;rw[AQ,AO (by omega)];exact⟨⟨2,by omega,by simp,rfl⟩,by rw[BD,BD];omega⟩
 .have B:k=2:=by omega
  subst B;simp only[show ¬(2:Nat)=0 by decide,show ¬(2:Nat)=1 by decide,lE];refine AA (Xc hl (Cb fun b=>(V b\/X b)/\b<w.heap.size)) ?_;rintro v1 Y ⟨o1,J⟩;rw[AP]
  let R:=Cb fun b=>(V b\/X b)/\b<w.heap.size
  have an:=J.size;have av:BB (fun _=>True) 5 R Y (.slice a1 l.length c1) l:=BB.mono ha.GN (fun _ _ _=>trivial) (fun b hb _=>J.same b hb fun h=>h) (by decide) fun r x I=>I.mod J (fun _ _ _ h=>h) fun b _ h=>⟨.inl h.1,h.2⟩;have ax:BB (fun _=>True) 5 R Y (.slice a2 m.length c2) m:=BB.mono hb.GN (fun _ _ _=>trivial) (fun b hb _=>J.same b hb fun h=>h) (by decide) fun r x I=>I.mod J (fun _ _ _ h=>h) fun b _ h=>⟨.inr h.1,h.2⟩;have O:∀{W W':World} {M:Nat->Prop},Mod M W W'->(∀b,M b->w.heap.size<=b)->∀r y,R W r y->R W' r y:=fun hm hM r y hy=>hy.mod hm (fun b _ hd hb=>by have:=hM b hb;omega) fun _ _ h=>h;refine AX (fun vs w2=>∃(k:Nat) (out:Value) (acc:List Dop),k<=2/\vs=[out,zI k]/\acc=(if k=0 then[] else if k=1 then l else l++m)/\AE w.heap.size 83 5 R w2 out acc/\Grow w w2) (fun vs _=>2-De vs 1) ⟨0,v1,[],by omega,rfl,rfl,o1,J⟩ ?_;rintro vs w2 ⟨k,out,acc,hk,rfl,i,ho,Q⟩ _;simp only[GC];rw[Am];have one:∀{W:World} (j:Nat) (y z:List Dop) (x o:Value),BB (fun _=>True) 5 R w x y->AE w.heap.size 83 5 R W o z->Grow w W->(z.length+y.length)*88<=140737488355328->
    runK prog (Builtin.append_ #[34,34] 34 [o,x].toArray) (fun v' w'=>AE w.heap.size 83 5 R w' v' (z++y)/\Grow w w') W:=by
   intro W j y z x o I hz Z hb;have a8:BB (fun _=>True) 5 R W x y:=by
    refine BB.mono (I.GN (by decide)) (fun _ _ _=>trivial) (fun b hb h=>Z.same b hb fun h=>h) (by decide) fun r q hq=>O Z (fun _ h=>h.elim) r q hq
   obtain⟨v',w',r1,T,U,r4⟩:=AE.append (ty:=34) Fz hz a8 (fun _ _=>Cb.one) hb Z.size (by simp only[maxLen];omega) fun w' hg r q hq=>O (Mod.of_grownBy hg) (fun b e=>(AE.Ax hz b e).1) r q hq;exact Ae r1 ⟨T,Z.next (Mod.of_grownBy U) fun b hb e=>by have:=(AE.Ax hz b e).1;omega⟩
  have ak:BB (fun _=>True) 5 R w (.slice a1 l.length c1) l:=BB.sub ha.GN (fun _ _ _=>trivial) (by decide) fun r x I=>I.mod (Mod.refl (fun _=>False) _) (fun _ _ _ h=>h) fun b _ h=>⟨.inl h.1,h.2⟩;have al:BB (fun _=>True) 5 R w (.slice a2 m.length c2) m:=BB.sub hb.GN (fun _ _ _=>trivial) (by decide) fun r x I=>I.mod (Mod.refl (fun _=>False) _) (fun _ _ _ h=>h) fun b _ h=>⟨.inr h.1,h.2⟩;refine AF (fun a6=>?_) fun a7=>?_
  .have B:k=0\/k=1:=by omega
   rcases B with rfl|rfl
   .refine AT (by decide) ?_;have e:(p.add (0*1))=p.add 0:=rfl;rw[e,Addr.add_zero'];refine AL (Q.cell h0 fun h=>h) ?_;simp only[lT] at i;subst i;obtain⟨v',w',r1,T,U⟩:=one 0 l [] _ out ak ho Q (by simp;omega);refine Ae r1 ?_;rw[AQ,AO (by omega)];exact⟨⟨1,v',_,by omega,rfl,by simp,T,U⟩,by rw[BD,BD];omega⟩
   .refine AT (by decide) ?_;refine AL (Q.cell (show w.cell? (p.add (1*1))=_ from h1) fun h=>h) ?_;simp only[show ¬(1:Nat)=0 by decide,lT,lE] at i;subst i;obtain⟨v',w',r1,T,U⟩:=one 0 m acc _ out al ho Q hl;refine Ae r1 ?_;rw[AQ,AO (by omega)];exact⟨⟨2,v',_,by omega,rfl,by simp,T,U⟩,by rw[BD,BD];omega⟩
  .have B:k=2:=by omega
   subst B;simp only[show ¬(2:Nat)=0 by decide,show ¬(2:Nat)=1 by decide,lE] at i;subst i;exact⟨ho,Q⟩
abbrev Xz:Nat:=83
abbrev KZ(o:Dop)(i sv j:Value):List Value:=[.int .u8 o.kind,zI o.n,i,sv,j]
def LM(C:Nat->Prop)(h:Nat)(W:World)(g:Nat)(ins:List Dop):Prop:=0<ins.length/\∀j (o:j<ins.length),∃i sv m,NI W g j ins[j] i sv m/\Cb (fun x=>C x\/x=h) W (KZ ins[j] i sv m) ins[j]/\
 (j+1=ins.length->AE 0 21 1 Bz W i ins[j].Ag/\i.ownBlock=some h/\CR C W sv ins[j].set/\Ey C W m ins[j].patch)/\(j+1<ins.length->Cb C W (KZ ins[j] i sv m) ins[j])
structure Um (F:Nat->Prop) (W:World) (b:Nat) (s:Gt) (dv iv:Value) (C:Nat->Prop) (hot:Option Nat):Prop where
 c0:W.cell? ⟨b,0,none⟩=some dv
 c1:W.cell? ⟨b,1,none⟩=some iv
 c2:W.cell? ⟨b,2,none⟩=some (zI s.gone)
 lv:∀q,q<3->Live W ⟨b,q,none⟩
 fb:F b
 nb:¬C b
 cf:∀x,C x->F x/\x<W.heap.size
 done:AE 0 Xz 5 (Cb C) W dv s.done
 dF:∀g,dv.ownBlock=some g->F g/\¬C g/\g≠b
 ins:(s.ins=[]/\iv=.slice none 0 0/\hot=none)\/∃g c h,iv=.slice (some ⟨g,0,none⟩) s.ins.length c/\hot=some h/\AE 0 Xz 5 (fun _ _ _=>True) W iv s.ins/\F g/\¬C g/\g≠b/\dv.ownBlock≠some g/\
  F h/\¬C h/\h≠b/\h≠g/\dv.ownBlock≠some h/\h<W.heap.size/\LM C h W g s.ins
def Oy(F:Nat->Prop)(W:World)(b:Nat)(s:Gt):Prop:=∃dv j C i,Um F W b s dv j C i
def NI.mod{g j:Nat}{o:Dop}{i sv m:Value}(h:NI W g j o i sv m)(hm:Mod M W W')(B:¬M g):NI W' g j o i sv m:=fun q u hu=>hm.cell (h q u hu) B
def LM.mod{h:Nat}{g:Nat}(hi:LM C h W g a)(hm:Mod M W W')(i:¬M g)(m:¬M h)(hC:∀x,C x->¬M x):LM C h W' g a:=by
 refine⟨hi.1,fun j q=>?_⟩;obtain⟨B,sv,I,J,O,Q,T⟩:=hi.2 j q;refine⟨B,sv,I,J.mod hm i,O.mod hm (fun b _ hb=>by rcases hb with hb|rfl;exact hC b hb;exact m) fun _ _ h=>h,fun e=>?_,fun e=>(T e).mod hm (fun b _ hb=>hC b hb) fun _ _ h=>h⟩;obtain⟨U,o,V,X⟩:=Q e;exact⟨AE.mod U hm (fun g i=>by rw[o] at i;cases i;exact m) fun _ _ _ h=>h,o,V.mono (fun _ _ h=>h) (fun b hb hc=>hm.same b hb (hC b hc)) (by decide) fun _ _ h=>h,X.mono (fun _ _ h=>h) (fun b hb hc=>hm.same b hb (hC b hc)) (by decide) fun _ _ h=>h⟩
def Cb.cmod{r:List Value}{o:Dop}(h:Cb C W r o)(hm:Mod M W W')(hC:∀x,C x->¬M x):Cb C W' r o:=h.mod hm (fun b _ hb=>hC b hb) fun _ _ h=>h
def Um.mod{b:Nat}{s:Gt}{o:Option Nat}(h:Um F W b s v fr C o)(hm:Mod M W W')(j:∀x,F x->¬M x):Um F W' b s v fr C o:=by
 have hb:=j b h.fb;have hC:∀x,C x->¬M x:=fun x m=>j x (h.cf x m).1;refine⟨hm.cell h.c0 hb,hm.cell h.c1 hb,hm.cell h.c2 hb,fun q Z=>(h.lv q Z).mod hm hb,h.fb,h.nb,fun x m=>⟨(h.cf x m).1,X8 (h.cf x m).2 hm.size⟩,AE.mod h.done hm (fun g hg=>j g (h.dF g hg).1) fun r x _ m=>m.cmod hm hC,h.dF,?_⟩;rcases h.ins with h0|⟨g,c,V,X,e2,e3,B,e5,e6,e7,Y,e9,I,J,O,Q,T⟩
 .exact .inl h0
 .exact .inr ⟨g,c,V,X,e2,AE.mod e3 hm (fun g' i=>by rw[X] at i;simp only[Value.ownBlock,i6] at i;subst i;exact j _ B) fun _ _ _ _=>trivial,B,e5,e6,e7,Y,e9,I,J,O,X8 Q hm.size,T.mod hm (j g B) (j V Y) hC⟩
def Um.grow{b:Nat}{s:Gt}{dv j:Value}{i:Option Nat}(h:Um F W b s dv j C i)(hm:Grow W W'):Um F W' b s dv j C i:=h.mod hm fun _ _ h=>h
def Oy.mod{b:Nat}{s:Gt}(h:Oy F W b s)(hm:Mod M W W')(j:∀x,F x->¬M x):Oy F W' b s:=by
 obtain⟨dv,m,C,i,h⟩:=h;exact⟨dv,m,C,i,h.mod hm j⟩
def Oy.sub{F F':Nat->Prop}{b:Nat}{s:Gt}(h:Oy F W b s)(i:∀x,F x->F' x):Oy F' W b s:=by
 obtain⟨dv,q,C,j,h⟩:=h;refine⟨dv,q,C,j,h.c0,h.c1,h.c2,h.lv,i _ h.fb,h.nb,fun x m=>⟨i _ (h.cf x m).1,(h.cf x m).2⟩,h.done,fun g o=>⟨i _ (h.dF g o).1,(h.dF g o).2⟩,?_⟩;rcases h.ins with h0|⟨g,c,B,I,J,O,Q,T,U,V,X,Y⟩
 .exact .inl h0
 .exact .inr ⟨g,c,B,I,J,O,i _ Q,T,U,V,i _ X,Y⟩
def iB:AB prog 59 [] (fun v w'=>Grow w w'/\∃b,w.heap.size<=b/\b<w'.heap.size/\v=.pointer (some ⟨b,0,none⟩)/\Oy (fun x=>x=b) w' b Gt.z) w:=by
 apply dN;refine⟨#[.slice none 0 0,.slice none 0 0,.int .i64 0],by kernel_rfl,?_⟩;refine DZ (vs:=[.slice none 0 0,.slice none 0 0,.int .i64 0]) fun b o hb B g hc hl=>?_;have a0:∀j,(⟨b,0,none⟩:Addr).add j=⟨b,j,none⟩:=fun j=>AH b j;refine⟨g,b,by omega,by omega,rfl,_,_,fun _=>False,none,by rw[<-a0];exact hc 0 _ rfl,by rw[<-a0];exact hc 1 _ rfl,by rw[<-a0];exact hc 2 _ rfl,fun q i=>by rw[<-a0];exact hl q i,rfl,fun h=>h,fun _ h=>h.elim,AE.nil,fun g m=>(nomatch m),.inl ⟨rfl,rfl,rfl⟩⟩
def TH{b:Nat}{s:Gt}{n:Int}(h:Oy F w b s):AB prog 62 [.pointer (some ⟨b,0,none⟩),zI n] (fun _ w'=>Oy F w' b (Ql s n)/\Mod F w w') w:=by
 apply fY;obtain⟨dv,X,C,o,h⟩:=h;rw[JV];simp only[pD,Bool.not_false];rw[FB,DN rfl,Bj,AG,AH];refine AL h.c2 ?_;rw[Gj,AQ,Bj,AG,AH];have e:(if(0:Int)>n then(0:Int) else n)=J1 n 0:=rfl;rw[e];refine(h.lv 2 (by decide)).st rfl rfl ?_;have hm:=LG w b 2 (zI (IntKind.i64.wrap (s.gone+J1 n 0)));have ne:∀q,q<2->(⟨b,2,none⟩:Addr)≠⟨b,q,none⟩:=fun q T e=>by simp only[Addr.mk.injEq] at e;omega
 obtain⟨u,hu⟩:=kH.1 (h.lv 2 (by decide)).1;have U:∀x,C x->¬x=b:=fun x j e=>h.nb (e▸j);refine⟨⟨dv,X,C,o,(S4 _ _ _ _ (ne 0 (by decide))).trans h.c0,(S4 _ _ _ _ (ne 1 (by decide))).trans h.c1,kQ _ _ _ hu,fun q T=>(h.lv q T).set _ _,h.fb,h.nb,fun x j=>⟨(h.cf x j).1,X8 (h.cf x j).2 hm.size⟩,AE.mod h.done hm (fun g Y=>(h.dF g Y).2.2) fun r x _ j=>j.cmod hm U,h.dF,?_⟩,hm.mono fun x _ e=>by rw[e];exact h.fb⟩;rcases h.ins with h0|⟨g,c,Z,V,e2,e3,e4,e5,B,e7,e8,e9,m,I,J,O,Q⟩
 .exact .inl h0
 .exact .inr ⟨g,c,Z,V,e2,AE.mod e3 hm (fun g' i=>by rw[V] at i;simp only[Value.ownBlock,i6] at i;subst i;exact B) fun _ _ _ _=>trivial,e4,e5,B,e7,e8,e9,m,I,J,X8 O hm.size,Q.mod hm B m U⟩
def Um.cR{b:Nat}{s:Gt}{i:Option Nat}(h:Um F W b s v fr C i):BE (fun _=>True) (fun x=>(C x\/i=some x)/\x<W.heap.size) W fr s.ins:=by
 rcases h.ins with⟨m,B,_⟩|⟨g,c,Y,m,B,Z,e4,e5,e6,e7,e8,e9,a1,a6,a7,a8,I⟩
 .rw[m,B];exact BB.nil
 .subst m;subst B;have o:=AE.conv (R:=Cb fun x=>(C x\/some Y=some x)/\x<W.heap.size) Z fun j hj r hr U J=>?_
  .exact BB.sub (AE.sl o) (fun _ _ _=>trivial) (by decide) fun _ _ h=>h
  .obtain⟨O,sv,Q,q1,q2,_,_⟩:=I.2 j hj;have e:r=KZ s.ins[j] O sv Q:=by
    refine mI fun q=>?_;by_cases hq:q<5
    .have h1:r[q]?=some r[q]:=By (by omega);have V:(KZ s.ins[j] O sv Q)[q]?=some (KZ s.ins[j] O sv Q)[q]:=By (by simpa using hq);have X:=J q _ h1;rw[q1 q _ V] at X;rw[h1,V,X]
    .rw[kY (by omega),kY (by simp;omega)]
   subst e;exact q2.mod (Mod.refl (fun _=>False) _) (fun _ _ _ h=>h) fun x hx hc=>by
    refine⟨?_,hx⟩;rcases hc with hc|hc
    .exact .inl hc
    .exact .inr (by rw[hc])
def Vk{b:Nat}{s:Gt}{i:Option Nat}(h:Um F w b s v fr C i)(hl:(s.ins.length+1)*88<=140737488355328) :
  AB prog 115 [.pointer (some ⟨b,0,none⟩)] (fun v' w'=>AE w.heap.size Xz 5 (Cb fun x=>(C x\/i=some x)/\x<w.heap.size) w' v' (BH s.ins s.gone)/\Grow w w') w:=by
 apply ao;rw[Bj,AG,AH];refine AL h.c1 ?_;refine AA (Li h.cR (by omega)) ?_;rintro v1 J ⟨q,j⟩;have m:AE w.heap.size Xz 5 (Cb fun x=>(C x\/i=some x)/\x<w.heap.size) J v1 s.ins:=AE.mod q (Mod.refl (fun _=>False) _) (fun _ _ h=>h) fun r x _ B=>B.mod (Mod.refl (fun _=>False) _) (fun _ _ _ h=>h) fun _ _ h=>h.1;rw[Bj,AG,AH];refine AL (j.cell h.c2 fun h=>h) ?_;rw[BL];refine AF (fun o=>?_) fun o=>⟨by rw[BH,Bq o];exact m,j⟩;rw[Bj,AG,AH];refine AL (j.cell h.c2 fun h=>h) ?_;refine⟨#[.int .u8 3,zI s.gone,.slice none 0 0,.slice none 0 0,.slice none 0 0],by kernel_rfl,?_⟩;refine Lt (w0:=w) Fz m j (cs:=KZ ⟨3,s.gone,[],[],[]⟩ (.slice none 0 0) (.slice none 0 0) (.slice none 0 0)) (x:=⟨3,s.gone,[],[],[]⟩) (by kernel_rfl) rfl ⟨_,_,_,rfl,BB.nil,BB.nil,BB.nil⟩ (fun _ _ _=>Cb.one) ?_ hl (by simp only[maxLen];omega) fun v' w' h1 O=>⟨by rw[BH,DN o];exact h1,O⟩;intro T U r y V hm Q;refine Q.mod hm (fun x _ B e=>?_) fun _ _ h=>h;rcases e with e|e
 .have:=(AE.Ax q x e).1;omega
 .have:=j.size;omega
def AE.len{α β:Type}{B e k:Nat}{R:World->List Value->α->Prop}{l:List α}(h:AE B e k R w v l)(i:List β)(hl:i.length=l.length):AE B e k (fun _ _ (_:β)=>True) w v i:=by
 obtain⟨rows,h1,j,m,_⟩:=h;exact⟨rows,by rw[hl];exact h1,by rw[hl];exact j,m,fun _ _ _ _ _=>trivial⟩
def HQ(ins:List Dop)(set:List Attr):Bool:=match ins.getLast? with|some o=>decide (o.set=set)|none=>false
def CX{l:List Dop}(h:0<l.length):l.getLast?=some l[l.length-1]:=by
 rw[qS];simp[show l.length-1<l.length by omega]
def T4{b:Nat}{s:Gt}{set:List Attr}(h:Oy F w b s)(h1:LI S w v rs)(h2:CR S w sv set)(hS:∀x,S x->¬F x)
 (eh:(s.ins.length+1)*88<=140737488355328)(ej:∀o∈s.ins,(o.Ag.length+rs.length)*4<=140737488355328)(ek:rs.length*4<=140737488355328)(en:set.length*48<=140737488355328) :
  AB prog 61 [.pointer (some ⟨b,0,none⟩),v,sv] (fun _ w'=>Oy (fun x=>F x\/w.heap.size<=x) w' b (Mr s rs set)/\Mod F w w') w:=by
 apply gE;have hI:=h;obtain⟨dv,iv,C,b8,h⟩:=h;obtain⟨pl,cl,rfl,ml⟩:=h1.shape;have eo:∃ga gc,iv=.slice ga s.ins.length gc:=by
  rcases h.ins with⟨Q,Y,_⟩|⟨g,c,hh,Q,_⟩
  .exact⟨none,0,by rw[Q,Y];rfl⟩
  .exact⟨_,c,Q⟩
 obtain⟨ga,gc,rfl⟩:=eo;refine AV (fun vs w1=>w1=w/\rs≠[]) ?_ ?_;rotate_left
 .rw[JV];simp only[pD];rw[FB,Bq (by simp),AP,Aj];refine AF (fun e=>?_) fun e=>⟨trivial,fun h=>e (Rx.2 h)⟩;have:=Rx.1 e;subst this;exact⟨by rw[Mr,DN rfl];exact hI.sub fun x i=>.inl i,Mod.refl _ _⟩
 rintro vs _ ⟨rfl,b9⟩ _;rename World=>w
 have h0:0<rs.length:=lh.2 b9;rw[Bj,AG,AH];refine AL h.c1 ?_;rw[AP,Aq];have h4:s.ins.length*88<=140737488355328:=by omega
 rw[wrap64 (by omega) (by omega)];have key:Mr s rs set=⟨s.done,FX s.ins rs set,s.gone⟩:=by rw[Mr,Bq b9]
 rw[key];refine AV (fun vs w1=>vs=[.bool (HQ s.ins set)]/\Grow w w1) ?_ ?_;rotate_left
 .rw[DW];refine AF (fun ep=>?_) fun ep=>?_
  .have a8:0<s.ins.length:=by omega
   rw[Bj,AG,AH];refine AL h.c1 ?_;have I:s.ins.length-1<s.ins.length:=by omega
   rw[show((s.ins.length:Int)-1)=((s.ins.length-1:Nat):Int) by omega];obtain⟨p,r,rfl,_,hr,hc,rv,ba,pv,rfl,q1,q2,q3⟩:=h.cR.get I;refine AT I ?_;rw[AG,Addr.add_add];refine AL (hc 3 _ rfl) ?_;refine AA (XT q2 h2) ?_;rintro v1 w1 ⟨rfl,g1⟩;exact⟨by rw[HQ,CX a8],g1⟩
  .have:s.ins=[]:=QC (by omega);exact⟨by rw[HQ,this];rfl,Mod.refl _ _⟩
 rintro vs w3 ⟨rfl,g3⟩ _;rw[Bl,Nr];have gd:Grow w w3.drew:=g3.trans (Mod.drew _ _);have m:=h.grow gd;have zd:=gd.size;have bl:LI (fun x=>S x/\x<w.heap.size) w3.drew (.slice pl rs.length cl) rs:=(h1.GN (by decide)).grow gd (by decide) fun _ _ h=>h;have c4:CR (fun x=>S x/\x<w.heap.size) w3.drew sv set:=(h2.GN (by decide)).grow gd (by decide) fun _ _ h=>h;generalize w3.drew=w4 at gd m zd bl c4 ⊢;cases Z:HQ s.ins set with
 |true=>
  rw[FB,DN rfl];have a8:0<s.ins.length:=by
   cases hn:s.ins with
   |nil=>rw[HQ,hn] at Z;cases Z
   |cons a l=>simp
  have I:s.ins.length-1<s.ins.length:=by omega
  rcases m.ins with⟨Q,_⟩|⟨g,c,hh,Q,Y,e3,e4,e5,e6,e7,e8,e9,a6,T,b0,bn,bb⟩
  .rw[Q] at a8;simp at a8
  simp only[nQ,pM] at Q;obtain⟨rfl,rfl⟩:=Q;obtain⟨rv,ba,pv,c6,_,ho,_⟩:=bb.2 _ I;obtain⟨o1,o2,o3,o4⟩:=ho (by omega);have c7:s.ins[s.ins.length-1].set=set:=by
   rw[HQ,CX a8] at Z;simpa using Z
  rw[show((s.ins.length:Int)-1)=((s.ins.length-1:Nat):Int) by omega];refine Af (fun k x=>(k=14/\x=hh)\/(k=17/\x=g)) ?_;rw[Bj,AG,AH];refine AU ⟨m.c1,fun j _ e=>by rcases e with⟨_,e⟩|⟨_,e⟩;exact a6 e.symm;exact e6 e.symm⟩ ?_;rw[Bj,AG,AH];refine AU ⟨m.c1,fun j _ e=>by rcases e with⟨_,e⟩|⟨_,e⟩;exact a6 e.symm;exact e6 e.symm⟩ ?_;refine AT I ?_;rw[AG,Addr.add_add,AH];refine AU ⟨c6 2 _ rfl,fun j hj e=>by rcases e with⟨rfl,e⟩|⟨rfl,e⟩;exact T e.symm;exact absurd hj (by decide)⟩ ?_;have c9:=ej s.ins[s.ins.length-1] (by simp);obtain⟨v',w5,r1,r2,r3,r4⟩:=AE.append (ty:=80) Ih o1 bl (fun _ _=>Bz.one) c9 (Nn _) (by simp only[maxLen];omega) fun _ _ _ _ h=>h;refine Ae r1 ⟨(Mod.of_grownBy r3).mono fun x _ e=>by rw[o2] at e;cases e;exact .inl ⟨rfl,rfl⟩,?_⟩;have ay:Mod (fun x=>x=hh) w4 w5:=(Mod.of_grownBy r3).mono fun x _ e=>by rw[o2] at e;cases e;rfl
  have bp:=AE.one r2;have er:∃h2,v'.ownBlock=some h2/\h2<w5.heap.size:=by
   obtain⟨a,c',rfl,_,_,hp,hn⟩:=AE.shape r2;cases a with
   |none=>have:=hn rfl;simp at this;exact(b9 this.2).elim
   |some p=>obtain⟨g',rfl,q1,q2,q3⟩:=hp p rfl;exact⟨g',q3,q2⟩
  obtain⟨B,U,ca⟩:=er;have cc:=r4 B U;have zz:=ay.size;have h5:g<w4.heap.size:=by
   have:=AE.Ax e3 g rfl;exact this.2
  have b1:∀x,dv.ownBlock=some x->x<w4.heap.size:=fun x i=>(AE.Ax m.done x i).2;have b2:Live w5 ⟨g,(s.ins.length-1)*5+2,none⟩:=by
   obtain⟨_,_,_,_,hl⟩:=AE.cellsOf e3 I;exact(hl 2 (by decide)).mod ay fun e=>T e.symm
  refine AT I ?_;rw[AG,Addr.add_add,AH];refine b2.st bp.1 bp.2 ⟨Mod.setCell _ _ _ (.inr ⟨rfl,rfl⟩),?_⟩;have cd:=LG w5 g ((s.ins.length-1)*5+2) v';have a7:∀x,B=x->x=hh\/w4.heap.size<=x:=by
   rintro x rfl;rcases cc with e|e
   .rw[o2] at e;cases e;exact .inl rfl
   .exact .inr e
  have nC:¬C B:=fun i=>by rcases a7 _ rfl with e|e;exact e9 (e▸i);have:=(m.cf _ i).2;omega
  have et:B≠b:=fun e=>by
   have eu:b<w4.heap.size:=lF w4 ⟨b,0,none⟩ m.c0;rcases a7 _ rfl with e'|e'
   .exact a6 (e'.symm.trans e)
   .omega
  have ch:B≠g:=fun e=>by
   rcases a7 _ rfl with e'|e'
   .exact T (e'.symm.trans e)
   .omega
  have ew:dv.ownBlock≠some B:=fun e=>by
   have:=b1 _ e;rcases a7 _ rfl with e'|e'
   .rw[e'] at e;exact b0 e
   .omega
  have mm:Mod (fun x=>x=hh\/x=g) w4 (w5.setCell ⟨g,(s.ins.length-1)*5+2,none⟩ v'):=(ay.mono fun _ _ e=>.inl e).trans (cd.mono fun _ _ e=>.inr e);have an:¬(b=hh\/b=g):=by rintro(e|e);exact a6 e.symm;exact e6 e.symm
  have V:∀x,C x->¬(x=hh\/x=g):=by rintro x i (rfl|rfl);exact e9 i;exact e5 i
  have cn:AE 0 21 1 Bz (w5.setCell ⟨g,(s.ins.length-1)*5+2,none⟩ v') v' (s.ins[s.ins.length-1].Ag++rs):=AE.mod r2 cd (fun x i e=>by rw[U] at i;cases i;exact ch e) fun _ _ _ h=>h;have X:FX s.ins rs set=s.ins.set (s.ins.length-1) ⟨s.ins[s.ins.length-1].kind,s.ins[s.ins.length-1].n,s.ins[s.ins.length-1].Ag++rs,s.ins[s.ins.length-1].set,s.ins[s.ins.length-1].patch⟩:=by
   unfold FX;rw[CX a8];simp only[c7,lT]
  have oA:=AE.Ki (AE.mod e3 ay (fun x i e=>by simp only [Value.ownBlock,i6] at i;exact T (e.symm.trans i.symm)) fun _ _ _ _=>trivial) I (show 2 < 5 by decide) bp.1;refine ⟨⟨dv,_,C,some B,mm.cell m.c0 an,mm.cell m.c1 an,mm.cell m.c2 an,fun q hq=>(m.lv q hq).mod mm an,.inl m.fb,m.nb,fun x i=>⟨.inl (m.cf x i).1,X8 (m.cf x i).2 mm.size⟩,
   AE.mod m.done mm (fun x i e=>by rcases e with rfl | rfl;exact b0 i;exact e7 i) fun r x _ i=>i.cmod mm V,fun x i=>⟨.inl (m.dF x i).1,(m.dF x i).2⟩,.inr ⟨g,gc,B,?_,rfl,?_,.inl e4,e5,e6,e7,?_,nC,et,ch,ew,?_,?_⟩⟩,?_⟩
  .rw[X,kJ]
  .exact AE.len oA _ (by rw[X,kJ])
  .rcases a7 _ rfl with e|e
   .exact .inl (e▸e8)
   .exact .inr (by omega)
  .rw[World.size_setCell];exact ca
  .rw[X];refine⟨by rw[kJ];exact a8,fun j hj=>?_⟩;rw[kJ] at hj;obtain⟨ey,eA,eB,a1,a2,a3,a4⟩:=bb.2 j hj;by_cases bc:j=s.ins.length-1
   .subst bc;have cv:NI w5 g (s.ins.length-1) s.ins[s.ins.length-1] rv ba pv:=c6.mod ay fun e=>T e.symm;refine⟨v',ba,pv,fun q u hu=>?_,?_,fun _=>?_,fun e=>by rw[kJ] at e;omega⟩
    .rw[nj] at hu;have hq:=(Ad.1 hu).1;simp only[S5,lG] at hq;by_cases cx:q=2
     .subst cx;simp only[oF,oG,i6] at hu;subst hu;obtain⟨u',eC⟩:=kH.1 b2.1;exact kQ _ _ _ eC
     .rw[S4 _ _ _ _ (by intro e;simp only[Addr.mk.injEq] at e;omega)];refine cv q u ?_;rw[<-hu];match q,hq,cx with
      |0,_,_=>rfl
      |1,_,_=>rfl
      |3,_,_=>rfl
      |4,_,_=>rfl
    .rw[nj];refine⟨v',ba,pv,rfl,?_,?_,?_⟩
     .exact Lx (by decide) ⟨cn,fun x i=>.inr (by rw[U] at i;exact(kW i).symm)⟩
     .exact o3.mono (fun _ _ i=>.inl i) (fun x hb i=>mm.same x hb (V x i)) (by decide) fun _ _ h=>h
     .exact o4.mono (fun _ _ i=>.inl i) (fun x hb i=>mm.same x hb (V x i)) (by decide) fun _ _ h=>h
    .rw[nj];exact⟨cn,U,o3.mono (fun _ _ i=>i) (fun x hb i=>mm.same x hb (V x i)) (by decide) fun _ _ h=>h,o4.mono (fun _ _ i=>i) (fun x hb i=>mm.same x hb (V x i)) (by decide) fun _ _ h=>h⟩
   .have da:=(a4 (by omega)).cmod mm V;refine⟨ey,eA,eB,fun q u hu=>?_,?_,fun e=>by rw[kJ] at e;omega,fun _=>?_⟩
    .rw[qA (by omega)] at hu;have hq:=(Ad.1 hu).1;simp only[S5,lG] at hq;rw[S4 _ _ _ _ (by intro e;simp only[Addr.mk.injEq] at e;omega)];exact ay.cell (a1 q u hu) fun e=>T e.symm
    .rw[qA (by omega)];exact da.mod (Mod.refl (fun _=>False) _) (fun _ _ _ h=>h) fun _ _ i=>.inl i
    .rw[qA (by omega)];exact da
  .refine(Grow.mod gd).trans (mm.mono fun x _ e=>?_);rcases e with rfl|rfl
   .exact e8
   .exact e4
 |false=>
  rw[FB,Bq (by simp)];have X:FX s.ins rs set=s.ins++[⟨2,0,rs,set,[]⟩]:=by
   unfold FX;unfold HQ at Z;cases hl:s.ins.getLast? with
   |none=>rfl
   |some o=>rw[hl] at Z;simp only[kV] at Z;simp only;rw[Bq Z]
  have eu:b<w4.heap.size:=lF w4 ⟨b,0,none⟩ m.c0;have av:(Value.slice ga s.ins.length gc).ownBlock≠some b/\(∀g,(Value.slice ga s.ins.length gc).ownBlock=some g->F g/\¬C g/\g≠b/\dv.ownBlock≠some g/\b8≠some g/\g<w4.heap.size):=by
   rcases m.ins with⟨Q,Y,_⟩|⟨g,c,hh,Q,Y,e3,e4,e5,e6,e7,e8,e9,a6,T,_⟩
   .simp only[nQ] at Y;obtain⟨rfl,_⟩:=Y;exact⟨fun h=>(nomatch h),fun g h=>(nomatch h)⟩
   .simp only[nQ,pM] at Q;obtain⟨rfl,rfl⟩:=Q;refine⟨fun e=>by simp only[Value.ownBlock,i6] at e;exact e6 e,fun g' e=>?_⟩;simp only[Value.ownBlock,i6] at e;subst e;exact⟨e4,e5,e6,e7,fun e=>by rw[Y] at e;cases e;exact T rfl,(AE.Ax e3 _ rfl).2⟩
  obtain⟨av,J⟩:=av;have ax:∀x,b8=some x->F x/\¬C x/\x≠b/\dv.ownBlock≠some x/\x<w4.heap.size:=by
   intro x i;rcases m.ins with⟨_,_,e⟩|⟨g,c,hh,Q,Y,e3,e4,e5,e6,e7,e8,e9,a6,T,b0,bn,_⟩
   .rw[e] at i;cases i
   .rw[Y] at i;cases i;exact⟨e8,e9,a6,b0,bn⟩
  refine Af (fun k x=>(k=11/\(Value.slice ga s.ins.length gc).ownBlock=some x)\/(k=14/\x=b)) ?_;rw[Bj,AG,AH];refine AU ⟨m.c1,fun j hj e=>by rcases e with⟨_,e⟩|⟨rfl,_⟩;exact av e;exact absurd hj (by decide)⟩ ?_;refine AA (KR bl ek) ?_;rintro t1 w5 ⟨n1,g5⟩;refine⟨Grow.mod g5,?_⟩;refine AA (Ej (c4.grow g5 (by decide) fun _ _ h=>h) en) ?_;rintro t2 w6 ⟨n2,g6⟩;refine⟨Grow.mod g6,?_⟩;have dk:=g5.trans g6;have z5:=g5.size;have z6:=g6.size;have h6:=m.grow dk;have dT:AE w4.heap.size 21 1 Bz w6 t1 rs:=AE.mod n1 g6 (fun _ _ h=>h) fun _ _ _ h=>h;obtain⟨eI,h7,b6,_,_,eL,eN⟩:=AE.shape dT;obtain⟨h8,h9,b7,_⟩:=AE.shape n2;refine⟨#[.int .u8 2,zI 0,t1,t2,.slice none 0 0],by subst b6;subst b7;kernel_rfl,?_⟩;have hn:∃B,t1.ownBlock=some B/\w4.heap.size<=B/\B<w6.heap.size:=by
   cases eI with
   |none=>exact(b9 (eN rfl)).elim
   |some p=>obtain⟨g',_,q1,q2,q3⟩:=eL p rfl;exact⟨g',q3,q1,q2⟩
  obtain⟨B,U,ca,cc⟩:=hn
  let C2:Nat->Prop:=fun x=>(C x\/b8=some x)/\x<w4.heap.size
  let C':Nat->Prop:=fun x=>C2 x\/t2.ownBlock=some x
  let R:World->List Value->Dop×Bool->Prop:=fun W r x=>match x.2 with
   |false=>Cb C2 W r x.1
   |true=>r=KZ x.1 t1 t2 (.slice none 0 0)/\AE 0 21 1 Bz W t1 x.1.Ag/\CR (fun x=>t2.ownBlock=some x) W t2 x.1.set/\x.1.patch=[]
  have bk:∀W r y,R W r y->∀u∈r,u.oneCell'=true:=by
   rintro W r ⟨o,t⟩ hy;cases t with
   |false=>exact Cb.one hy
   |true=>
    obtain⟨rfl,_⟩:=hy;intro u hu;simp only[K8,kU,mb] at hu;rcases hu with rfl|rfl|rfl|rfl|rfl
    .rfl
    .rfl
    .rw[b6];rfl
    .rw[b7];rfl
    .rfl
  have o6:AE 0 Xz 5 R w6 (.slice ga s.ins.length gc) (s.ins.map fun o=>(o,false)):=by
   rcases h6.ins with⟨Q,Y,_⟩|⟨g,c,hh,Q,Y,e3,e4,e5,e6,e7,e8,e9,a6,T,b0,bn,bb⟩
   .rw[Q] at Y ⊢;rw[Y];exact AE.nil
   .simp only[nQ,pM] at Q;obtain⟨rfl,rfl⟩:=Q;refine AE.conv (AE.len e3 (s.ins.map fun o=>(o,false)) (by simp)) fun j hj r hr bk bd=>?_;have eR:j<s.ins.length:=by simpa using hj
    obtain⟨rv,ak,pv,q1,q2,_,_⟩:=bb.2 j eR;have e:r=KZ s.ins[j] rv ak pv:=by
     refine mI fun q=>?_;by_cases hq:q<5
     .have h1:r[q]?=some r[q]:=By (by omega);have h2:(KZ s.ins[j] rv ak pv)[q]?=some (KZ s.ins[j] rv ak pv)[q]:=By (by simpa using hq);have h3:=bd q _ h1;rw[q1 q _ h2] at h3;rw[h1,h2,h3]
     .rw[kY (by omega),kY (by simp;omega)]
    subst e;rw[mS];refine q2.mod (Mod.refl (fun _=>False) _) (fun _ _ _ h=>h) fun x i hc=>?_;rcases hc with hc|hc
    .exact⟨.inl hc,(m.cf x hc).2⟩
    .subst hc;exact⟨.inr Y,(ax _ Y).2.2.2.2⟩
  have eX:∀W1 W2 r y,w6.heap.size<=W1.heap.size->Mod (fun x=>(Value.slice ga s.ins.length gc).ownBlock=some x\/w6.heap.size<=x) W1 W2->R W1 r y->R W2 r y:=by
   rintro W1 W2 r ⟨o,t⟩ hz hm hy;cases t with
   |false=>
    refine Cb.mod hy hm (fun x _ i e=>?_) fun _ _ h=>h;rcases e with e|e
    .obtain⟨_,q2,_,_,q5,_⟩:=J x e;rcases i.1 with hc|hc
     .exact q2 hc
     .exact q5 hc
    .have:=i.2;omega
   |true=>
    obtain⟨q1,q2,q3,q4⟩:=hy;refine⟨q1,AE.mod q2 hm (fun x i e=>?_) fun _ _ _ h=>h,q3.mono (fun _ _ h=>h) (fun x hb i=>hm.same x hb fun e=>?_) (by decide) fun _ _ h=>h,q4⟩
    .rw[U] at i;cases i;rcases e with e|e
     .have:=(J _ e).2.2.2.2.2;omega
     .omega
    .have h1:=AE.Ax n2 x i;rcases e with e|e
     .have:=(J _ e).2.2.2.2.2;omega
     .omega
  refine LO Fz o6 (Nn _) (cs:=KZ ⟨2,0,rs,set,[]⟩ t1 t2 (.slice none 0 0)) (x:=((⟨2,0,rs,set,[]⟩:Dop),true)) (by subst b6;subst b7;kernel_rfl) rfl ⟨rfl,AE.base dT fun _ _=>Nn _,BB.sub (AE.sl n2) (fun x _ i=>i.2) (by decide) fun _ _ h=>h,rfl⟩ bk eX (by simpa using eh) (by simp only[Iq,maxLen];omega) (fun _ g=>Grow.mod g) fun hd v' w7 o7 fa m7 f7=>?_;refine⟨fa.mono fun x _ e=>.inl ⟨rfl,e⟩,?_⟩;have z7:=m7.size;have ea:=AE.one o7;obtain⟨va,vc,rfl,_,_,fo,fs⟩:=AE.shape o7;cases va with
  |none=>have:=fs rfl;simp at this
  |some vp=>
  obtain⟨g7,rfl,_,hf,fv⟩:=fo _ rfl;have ec:(s.ins.map (fun o=>(o,false))++[((⟨2,0,rs,set,[]⟩:Dop),true)]).length=(FX s.ins rs set).length:=by rw[X];simp
  have O:=f7 g7 rfl;have bne:¬(Value.slice ga s.ins.length gc).ownBlock=some b:=av;have gb:∀x,C x->¬(Value.slice ga s.ins.length gc).ownBlock=some x:=fun x i e=>(J x e).2.1 i;have hg:Um F w7 b s dv (.slice ga s.ins.length gc) C b8->True:=fun _=>trivial;have l7:∀q,q<3->Live w7 ⟨b,q,none⟩:=fun q hq=>(h6.lv q hq).mod m7 bne;rw[Bj,AG,AH];refine(l7 1 (by decide)).st ea.1 ea.2 ⟨Mod.setCell _ _ _ (.inr ⟨rfl,rfl⟩),?_⟩;have al:=LG w7 b 1 (Value.slice (some ⟨g7,0,none⟩) (s.ins.map (fun o=>(o,false))++[((⟨2,0,rs,set,[]⟩:Dop),true)]).length vc);have gf:∀q,q≠1->(⟨b,1,none⟩:Addr)≠⟨b,q,none⟩:=fun q hq e=>by simp only[Addr.mk.injEq] at e;omega
  obtain⟨u1,gg⟩:=kH.1 (l7 1 (by decide)).1;have c8:∀q u,q≠1->w6.cell? ⟨b,q,none⟩=some u->(w7.setCell ⟨b,1,none⟩ (Value.slice (some ⟨g7,0,none⟩) (s.ins.map (fun o=>(o,false))++[((⟨2,0,rs,set,[]⟩:Dop),true)]).length vc)).cell? ⟨b,q,none⟩=some u:=fun q u hq hu=>(S4 _ _ _ _ (gf q hq)).trans (m7.cell hu bne);have ed:=kQ w7 ⟨b,1,none⟩ (Value.slice (some ⟨g7,0,none⟩) (s.ins.map (fun o=>(o,false))++[((⟨2,0,rs,set,[]⟩:Dop),true)]).length vc) gg;have ee:∀q,q<3->Live (w7.setCell ⟨b,1,none⟩ (Value.slice (some ⟨g7,0,none⟩) (s.ins.map (fun o=>(o,false))++[((⟨2,0,rs,set,[]⟩:Dop),true)]).length vc)) ⟨b,q,none⟩:=fun q hq=>(l7 q hq).set _ _;have b1:∀x,dv.ownBlock=some x->x<w4.heap.size:=fun x i=>(AE.Ax m.done x i).2;have ef:g7≠b:=fun e=>by rcases O with h|h;exact bne (e▸h);omega
  have gl:¬C' g7:=by
   rintro(⟨i|i,I⟩|i)
   .rcases O with h|h
    .exact(J _ h).2.1 i
    .omega
   .rcases O with h|h
    .exact(J _ h).2.2.2.2.1 i
    .omega
   .have:=AE.Ax n2 _ i;rcases O with h|h
    .have:=(J _ h).2.2.2.2.2;omega
    .omega
  have gm:dv.ownBlock≠some g7:=fun e=>by
   rcases O with h|h
   .exact(J _ h).2.2.2.1 e
   .have:=b1 _ e;omega
  have bs:∀x,C' x->¬x=b:=by
   rintro x (⟨i|i,I⟩|i) e
   .exact m.nb (e▸i)
   .exact(ax x i).2.2.1 e
   .have:=AE.Ax n2 _ i;omega
  have gw:¬C' B:=by
   rintro(⟨_,I⟩|i)
   .omega
   .have:=AE.Ax n2 _ i;have:=(AE.Ax (AE.mod n1 (Mod.refl (fun _=>False) _) (fun _ _ h=>h) fun _ _ _ h=>h) _ U).2;omega
  have Cd:∀x,C x->C' x:=fun x i=>.inl ⟨.inl i,(m.cf x i).2⟩;have o8:AE 0 Xz 5 R (w7.setCell ⟨b,1,none⟩ (Value.slice (some ⟨g7,0,none⟩) (s.ins.map (fun o=>(o,false))++[((⟨2,0,rs,set,[]⟩:Dop),true)]).length vc)) (Value.slice (some ⟨g7,0,none⟩) (s.ins.map (fun o=>(o,false))++[((⟨2,0,rs,set,[]⟩:Dop),true)]).length vc) (s.ins.map (fun o=>(o,false))++[((⟨2,0,rs,set,[]⟩:Dop),true)]):=by
   refine AE.mod o7 al (fun x i e=>?_) fun r y _ hy=>?_
   .simp only[Value.ownBlock,i6] at i;subst i;exact ef e
   .obtain⟨o,t⟩:=y;cases t with
    |false=>exact Cb.mod hy al (fun x _ i e=>bs x (.inl i) e) fun _ _ h=>h
    |true=>
     obtain⟨q1,q2,q3,q4⟩:=hy;refine⟨q1,AE.mod q2 al (fun x i e=>?_) fun _ _ _ h=>h,q3.mono (fun _ _ h=>h) (fun x hb i=>al.same x hb fun e=>bs x (.inr i) e) (by decide) fun _ _ h=>h,q4⟩;rw[U] at i;cases i;omega
  generalize hW:w7.setCell ⟨b,1,none⟩ (Value.slice (some ⟨g7,0,none⟩) (s.ins.map (fun o=>(o,false))++[((⟨2,0,rs,set,[]⟩:Dop),true)]).length vc)=W at al c8 ed ee o8 ⊢;have z8:=al.size;have bx:Mod (fun x=>(Value.slice ga s.ins.length gc).ownBlock=some x\/x=b) w6 W:=(m7.mono fun _ _ e=>.inl e).trans (al.mono fun _ _ e=>.inr e);have Cm:∀x,C x->¬((Value.slice ga s.ins.length gc).ownBlock=some x\/x=b):=by
   rintro x i (e|e)
   .exact gb x i e
   .exact m.nb (e▸i)
  refine⟨⟨dv,_,C',some B,c8 0 _ (by decide) h6.c0,ed,c8 2 _ (by decide) h6.c2,ee,.inl m.fb,fun i=>bs b i rfl,?_,?_,fun x i=>⟨.inl (m.dF x i).1,?_,(m.dF x i).2.2⟩,.inr ⟨g7,vc,B,?_,rfl,?_,?_,gl,ef,gm,.inr (by omega),gw,by omega,?_,?_,by omega,?_⟩⟩,?_⟩
  .rintro x (⟨i|i,I⟩|i)
   .exact⟨.inl (m.cf x i).1,by omega⟩
   .exact⟨.inl (ax x i).1,by omega⟩
   .have:=AE.Ax n2 _ i;exact⟨.inr (by omega),by omega⟩
  .refine AE.mod h6.done bx (fun x i e=>?_) fun r x _ i=>(i.cmod bx Cm).mod (Mod.refl (fun _=>False) _) (fun _ _ _ h=>h) fun y _ hy=>Cd y hy;rcases e with e|e
   .exact(J _ e).2.2.2.1 i
   .exact(m.dF x i).2.2 e
  .rintro(⟨hc|hc,I⟩|hc)
   .exact(m.dF x i).2.1 hc
   .exact(ax x hc).2.2.2.1 i
   .have:=AE.Ax n2 _ hc;have:=b1 x i;omega
  .rw[ec]
  .exact AE.len o8 _ ec.symm
  .rcases O with h|h
   .exact .inl (J _ h).1
   .exact .inr (by omega)
  .intro e;rcases O with h|h
   .have:=(J _ h).2.2.2.2.2;omega
   .omega
  .intro e;have:=b1 _ e;omega
  .rw[X];refine⟨by simp,fun j hj=>?_⟩;have gA:j<(s.ins.map (fun o=>(o,false))++[((⟨2,0,rs,set,[]⟩:Dop),true)]).length:=by simpa using hj
   obtain⟨r,hr,bd,hR,_⟩:=AE.cellsOf o8 gA;by_cases bc:j<s.ins.length
   .have Q:(s.ins.map (fun o=>(o,false))++[((⟨2,0,rs,set,[]⟩:Dop),true)])[j]=(s.ins[j],false):=by
     rw[mw (by simpa using bc)];simp
    have Y:(s.ins++[(⟨2,0,rs,set,[]⟩:Dop)])[j]=s.ins[j]:=by rw[mw bc]
    rw[Q] at hR;have gB:Cb C2 W r s.ins[j]:=hR;obtain⟨rv,ak,pv,rfl,p1,p2,p3⟩:=gB;rw[Y];have rd:Cb C' W (KZ s.ins[j] rv ak pv) s.ins[j]:=Cb.mod (D:=C2) ⟨rv,ak,pv,rfl,p1,p2,p3⟩ (Mod.refl (fun _=>False) _) (fun _ _ _ h=>h) fun x _ i=>.inl i;refine⟨rv,ak,pv,bd,rd.mod (Mod.refl (fun _=>False) _) (fun _ _ _ h=>h) fun x _ i=>.inl i,fun e=>?_,fun _=>rd⟩;simp at e;omega
   .have gW:j=s.ins.length:=by simp at hj;omega
    subst gW;have Q:(s.ins.map (fun o=>(o,false))++[((⟨2,0,rs,set,[]⟩:Dop),true)])[s.ins.length]=((⟨2,0,rs,set,[]⟩:Dop),true):=by
     rw[mU (by simp)];simp
    have Y:(s.ins++[(⟨2,0,rs,set,[]⟩:Dop)])[s.ins.length]=(⟨2,0,rs,set,[]⟩:Dop):=by rw[mU (by simp)];simp
    rw[Q] at hR;obtain⟨rfl,q2,q3,q4⟩:=hR;rw[Y];refine⟨t1,t2,.slice none 0 0,bd,⟨t1,t2,.slice none 0 0,rfl,?_,?_,BB.nil⟩,fun _=>⟨q2,U,?_,BB.nil⟩,fun e=>by simp at e⟩
    .exact Lx (by decide) ⟨q2,fun x i=>.inr (by rw[U] at i;exact(kW i).symm)⟩
    .exact BB.sub q3 (fun x _ i=>.inl (.inr i)) (by decide) fun _ _ h=>h
    .exact BB.sub q3 (fun x _ i=>.inr i) (by decide) fun _ _ h=>h
  .refine((Grow.mod gd).trans (Grow.mod dk)).trans (bx.mono fun x _ e=>?_);rcases e with e|e
   .exact(J _ e).1
   .rw[e];exact m.fb
def jZ(W:World)(b:Nat)(i j m:Value)(l:∀q,q<3->Live W ⟨b,q,none⟩):∀W',W'=((W.setCell ⟨b,0,none⟩ i).setCell ⟨b,1,none⟩ j).setCell ⟨b,2,none⟩ m->Mod (fun x=>x=b) W W'/\W'.cell? ⟨b,0,none⟩=some i/\W'.cell? ⟨b,1,none⟩=some j/\W'.cell? ⟨b,2,none⟩=some m/\(∀q,q<3->Live W' ⟨b,q,none⟩):=by
 rintro W' rfl;have ne:∀q o,q≠o->(⟨b,q,none⟩:Addr)≠⟨b,o,none⟩:=fun q o B e=>by simp only[Addr.mk.injEq] at e;omega
 have I:=LG W b 0 i;have J:=LG (W.setCell ⟨b,0,none⟩ i) b 1 j;have O:=LG ((W.setCell ⟨b,0,none⟩ i).setCell ⟨b,1,none⟩ j) b 2 m;refine⟨(I.trans J).trans O,?_,?_,?_,fun q B=>(((l q B).set _ _).set _ _).set _ _⟩
 .obtain⟨u,hu⟩:=kH.1 (l 0 (by decide)).1;rw[S4 _ _ _ _ (ne 2 0 (by decide)),S4 _ _ _ _ (ne 1 0 (by decide))];exact kQ _ _ _ hu
 .obtain⟨u,hu⟩:=kH.1 ((l 1 (by decide)).set ⟨b,0,none⟩ i).1;rw[S4 _ _ _ _ (ne 2 1 (by decide))];exact kQ _ _ _ hu
 .obtain⟨u,hu⟩:=kH.1 (((l 2 (by decide)).set ⟨b,0,none⟩ i).set ⟨b,1,none⟩ j).1;exact kQ _ _ _ hu
def Gc(d:List Dop)(p:List Chg):Bool:=match d.getLast? with|some o=>decide (o.kind=1/\o.patch=p)|none=>false
def Tt{b:Nat}{s:Gt}{n:Int}{p:List Chg}(h:Oy F w b s)(h1:Ey S w v p)(hS:∀x,S x->¬F x)
 (ey:s.done.length+s.ins.length+2<=1099511627776)(dT:p.length*56<=140737488355328) :
  AB prog 60 [.pointer (some ⟨b,0,none⟩),zI n,v] (fun _ w'=>Oy (fun x=>F x\/w.heap.size<=x) w' b (Mk s n p)/\Mod F w w') w:=by
 apply gu;have hI:=h;have ea:(s.ins.length+1)*88<=140737488355328:=by omega
 obtain⟨dv,iv,C,bl,h⟩:=h;refine AV (fun vs w1=>w1=w/\¬n<1) ?_ ?_;rotate_left
 .rw[JV];simp only[pD];rw[FB,Bq (by simp),Am];refine AF (fun e=>?_) fun e=>⟨trivial,e⟩;exact⟨by rw[Mk,DN e];exact hI.sub fun x i=>.inl i,Mod.refl _ _⟩
 rintro vs _ ⟨rfl,hn⟩ _;rename World=>w
 have key:Mk s n p=⟨FN (s.done++BH s.ins s.gone) n p,[],0⟩:=by rw[Mk,Bq hn]
 rw[key];have gl:(BH s.ins s.gone).length<=s.ins.length+1:=by unfold BH;split<;>simp
 have gd:Grow w w.drew:=Mod.drew _ _;have B:=h.grow gd;have zd:w.drew.heap.size=w.heap.size:=rfl;have bn:Ey (fun x=>S x/\x<w.heap.size) w.drew v p:=(h1.GN (by decide)).grow gd (by decide) fun _ _ h=>h;have ec:b<w.drew.heap.size:=lF w.drew ⟨b,0,none⟩ B.c0;have ed:∀x,dv.ownBlock=some x->x<w.drew.heap.size:=fun x i=>(AE.Ax B.done x i).2;have U:∀x,bl=some x->F x/\¬C x/\x≠b/\dv.ownBlock≠some x/\x<w.drew.heap.size:=by
  intro x i;rcases B.ins with⟨_,_,e⟩|⟨g,c,hh,e1,e2,e3,e4,e5,e6,e7,e8,e9,ee,eA,ef,eh,_⟩
  .rw[e] at i;cases i
  .rw[e2] at i;cases i;exact⟨e8,e9,ee,ef,eh⟩
 rw[<-zd];generalize w.drew=w4 at gd B zd bn ec ed U ⊢;have b9:dv.ownBlock≠some b:=fun e=>(B.dF b e).2.2 rfl
 let Z:Nat->Prop:=fun x=>(C x\/bl=some x)/\x<w4.heap.size
 have ba:¬Z b:=by
  rintro⟨i|i,_⟩
  .exact B.nb i
  .exact(U b i).2.2.1 rfl
 have bp:∀x,dv.ownBlock=some x->¬Z x:=by
  rintro x i ⟨hc|hc,_⟩
  .exact(B.dF x i).2.1 hc
  .exact(U x hc).2.2.2.1 i
 have bs:∀x,Z x->F x:=by
  rintro x ⟨hc|hc,_⟩
  .exact(B.cf x hc).1
  .exact(U x hc).1
 refine Af (fun k x=>(k=7/\dv.ownBlock=some x)\/(k=10/\x=b)) ?_;rw[Bj,AG,AH];refine AU ⟨B.c0,fun j hj e=>by rcases e with⟨_,e⟩|⟨rfl,_⟩;exact b9 e;exact absurd hj (by decide)⟩ ?_;refine AA (Vk B ea) ?_;rintro v5 w5 ⟨o5,g5⟩;refine⟨Grow.mod g5,?_⟩;have h5:=B.grow g5;have z5:=g5.size;have d5:AE 0 Xz 5 (Cb Z) w5 dv s.done:=AE.mod h5.done (Mod.refl (fun _=>False) _) (fun _ _ h=>h) fun r x _ i=>i.mod (Mod.refl (fun _=>False) _) (fun _ _ _ h=>h) fun y _ Q=>⟨.inl Q,(B.cf y Q).2⟩;obtain⟨v6,w6,r1,o6,r3,r4⟩:=AE.append (ty:=34) Fz d5 (AE.sl o5) (fun _ _=>Cb.one) (by omega) (Nn _) (by simp only[maxLen];omega) fun w' hg r y Q=>Q.mod (Mod.of_grownBy hg) (fun x _ i e=>bp x e i) fun _ _ h=>h;have a1:Mod (fun x=>dv.ownBlock=some x) w5 w6:=Mod.of_grownBy r3;refine Ae r1 ⟨a1.mono fun x _ e=>.inl ⟨rfl,e⟩,?_⟩;have z6:=a1.size;have bx:=AE.one o6;have l6:∀q,q<3->Live w6 ⟨b,q,none⟩:=fun q hq=>(h5.lv q hq).mod a1 b9;have V:∀x,v6.ownBlock=some x->dv.ownBlock=some x\/w4.heap.size<=x:=fun x i=>by rcases r4 x i with h|h;exact .inl h;exact .inr (by omega)
 rw[Bj,AG,AH];refine(l6 0 (by decide)).st bx.1 bx.2 ⟨Mod.setCell _ _ _ (.inr ⟨rfl,rfl⟩),?_⟩;rw[Bj,AG,AH];refine((l6 1 (by decide)).set _ _).st rfl rfl ?_;rw[Bj,AG,AH];refine(((l6 2 (by decide)).set _ _).set _ _).st rfl rfl ?_;generalize c4:((w6.setCell ⟨b,0,none⟩ v6).setCell ⟨b,1,none⟩ (.slice none 0 0)).setCell ⟨b,2,none⟩ (zI 0)=w7;obtain⟨a6,a7,a8,ak,l7⟩:=jZ w6 b v6 (.slice none 0 0) (zI 0) l6 w7 c4.symm;clear c4;have z7:=a6.size
 let F1:Nat->Prop:=fun x=>F x\/w4.heap.size<=x
 have c6:v6.ownBlock≠some b:=fun e=>by rcases V b e with h|h;exact b9 h;omega
 have d7:AE 0 Xz 5 (Cb Z) w7 v6 (s.done++BH s.ins s.gone):=AE.mod o6 a6 (fun x i e=>c6 (e▸i)) fun r x _ i=>i.cmod a6 fun y Q e=>ba (e▸Q);have K7:Um F1 w7 b ⟨s.done++BH s.ins s.gone,[],0⟩ v6 (.slice none 0 0) Z none:=by
  refine⟨a7,a8,ak,l7,.inl B.fb,ba,fun x i=>⟨.inl (bs x i),by have:=i.2;omega⟩,d7,fun x i=>⟨?_,?_,fun e=>c6 (e▸i)⟩,.inl ⟨rfl,rfl,rfl⟩⟩
  .rcases V x i with h|h
   .exact .inl (B.dF x h).1
   .exact .inr h
  .intro hc;rcases V x i with h|h
   .exact bp x h hc
   .have:=hc.2;omega
 have c7:Mod F w4 w7:=((Grow.mod g5).trans (a1.mono fun x _ e=>(B.dF x e).1)).trans (a6.mono fun x _ e=>by rw[e];exact B.fb);have ej:Mod F w w7:=(Grow.mod gd).trans c7;have p7:Ey (fun x=>S x/\x<w.heap.size) w7 v p:=bn.mono (fun _ _ h=>h) (fun x hb i=>c7.same x hb (hS x i.1)) (by decide) fun _ _ h=>h;have c8:(s.done++BH s.ins s.gone).length<=s.done.length+s.ins.length+1:=by simp;omega
 generalize hD:s.done++BH s.ins s.gone=D at K7 d7 c8 ⊢;clear o6 r1 r3 r4 V a7 a8 ak l6 a1 a6 o5 h5 d5;obtain⟨va,vc,rfl,_,_,ek,en⟩:=AE.shape d7;rw[Bj,AG,AH];refine AL K7.c0 ?_;rw[AP,Aq,wrap64 (by omega) (by omega)];refine AV (fun vs J=>vs=[.bool (Gc D p)]/\Grow w7 J) ?_ ?_;rotate_left
 .rw[DW];refine AF (fun eo=>?_) fun eo=>?_
  .have T:0<D.length:=by omega
   have O:D.length-1<D.length:=by omega
   rw[show((D.length:Int)-1)=((D.length-1:Nat):Int) by omega];rw[Bj,AG,AH];refine AL K7.c0 ?_;obtain⟨q,r,rfl,_,hr,hc,rv,bb,bc,rfl,q1,q2,q3⟩:=(AE.sl d7).get O;refine AT O ?_;rw[AG,Addr.add_add];refine AL (hc 0 _ rfl) ?_;rw[Aj];refine AF (fun hk=>?_) fun hk=>⟨by rw[Gc,CX T];simp[hk],Mod.refl _ _⟩;rw[Bj,AG,AH];refine AL K7.c0 ?_;refine AT O ?_;rw[AG,Addr.add_add];refine AL (hc 4 _ rfl) ?_;refine AA (XI q3 p7) ?_;rintro v1 J ⟨rfl,g8⟩;exact⟨by rw[Gc,CX T];simp[hk],g8⟩
  .have:D=[]:=QC (by omega);exact⟨by rw[Gc,this];rfl,Mod.refl _ _⟩
 rintro vs J ⟨rfl,g8⟩ _;rw[Bl,Nr];have I:=K7.grow g8;have z8:=g8.size;have d8:AE 0 Xz 5 (Cb Z) J (.slice va D.length vc) D:=I.done;have p8:Ey (fun x=>S x/\x<w.heap.size) J v p:=p7.grow g8 (by decide) fun _ _ h=>h;have c9:Mod F w J:=ej.trans (Grow.mod g8);have vb:(Value.slice va D.length vc).ownBlock≠some b:=fun e=>(I.dF b e).2.2 rfl;cases m:Gc D p with
 |true=>
  rw[FB,DN rfl];have T:0<D.length:=by
   cases hn:D with
   |nil=>rw[Gc,hn] at m;cases m
   |cons a l=>simp
  have O:D.length-1<D.length:=by omega
  rw[Gc,CX T] at m;simp only[TC] at m;rw[show((D.length:Int)-1)=((D.length-1:Nat):Int) by omega];cases va with
  |none=>rw[en rfl] at T;simp at T
  |some vp=>
  obtain⟨g7,rfl,_,eB,_⟩:=ek _ rfl;rw[Bj,AG,AH];refine AL I.c0 ?_;obtain⟨q,r,e,_,hr,hc,rv,bb,bc,rfl,q1,q2,q3⟩:=(AE.sl d8).get O;cases e;refine AT O ?_;rw[AG,Addr.add_add];refine AL (hc 1 _ rfl) ?_;rw[AQ];refine AT O ?_;rw[AG,Addr.add_add];obtain⟨ep,ca,ax⟩:=I.dF g7 rfl;obtain⟨⟨u,hu⟩,hf,ho,hm⟩:=AE.store (R':=Cb Z) (u:=zI (IntKind.i64.wrap (D[D.length-1].n+n))) (x':=⟨D[D.length-1].kind,IntKind.i64.wrap (D[D.length-1].n+n),D[D.length-1].Ag,D[D.length-1].set,D[D.length-1].patch⟩) d8 O (show 1<5 by decide) rfl
   (fun r y _ Q=>Q.mod (Mod.setCell (M:=fun x=>x=g7) _ _ _ (by rw[AH])) (fun x _ i e=>ca (e▸i)) fun _ _ h=>h)
   (fun r Q=>by
    obtain ⟨rv,bb,bc,rfl,p1,p2,p3⟩:=Q.mod (D':=Z) (Mod.setCell (M:=fun x=>x=g7) J ((⟨g7,0,none⟩:Addr).add ((D.length - 1) * 5+1)) (zI (IntKind.i64.wrap (D[D.length - 1].n+n))) (by rw [AH])) (fun x _ i e=>ca (e ▸ i)) fun _ _ h=>h;exact ⟨rv,bb,bc,rfl,p1,p2,p3⟩)
  refine Kg rfl rfl hu hf ?_;have al:FN D n p=D.set (D.length-1) ⟨D[D.length-1].kind,IntKind.i64.wrap (D[D.length-1].n+n),D[D.length-1].Ag,D[D.length-1].set,D[D.length-1].patch⟩:=by
   unfold FN;rw[CX T];simp only[m,and_self,lT]
  have X:Mod (fun x=>x=g7) J (J.setCell ((⟨g7,0,none⟩:Addr).add ((D.length-1)*5+1)) (zI (IntKind.i64.wrap (D[D.length-1].n+n)))):=hm;refine⟨⟨_,_,Z,none,X.cell I.c0 (fun e=>ax e.symm),X.cell I.c1 (fun e=>ax e.symm),X.cell I.c2 (fun e=>ax e.symm),fun q hq=>(I.lv q hq).mod X (fun e=>ax e.symm),I.fb,I.nb,fun x i=>⟨(I.cf x i).1,X8 (I.cf x i).2 X.size⟩,by rw[al];exact ho,I.dF,.inl ⟨rfl,rfl,rfl⟩⟩,?_⟩;refine c9.next X fun x i e=>?_;subst e;rcases ep with h|h
  .exact h
  .omega
 |false=>
  rw[FB,Bq (by simp)];have ay:Grow J J.drew:=Mod.drew _ _;have K9:=I.grow ay;have er:J.drew.heap.size=J.heap.size:=rfl;have p9:Ey (fun x=>S x/\x<w.heap.size) J.drew v p:=p8.grow ay (by decide) fun _ _ h=>h;have cc:Mod F w J.drew:=c9.trans (Grow.mod ay);generalize J.drew=w9 at ay K9 er p9 cc ⊢;refine Af (fun k x=>(k=10/\(Value.slice va D.length vc).ownBlock=some x)\/(k=13/\x=b)) ?_;rw[Bj,AG,AH];refine AU ⟨K9.c0,fun j hj e=>by rcases e with⟨_,e⟩|⟨rfl,_⟩;exact vb e;exact absurd hj (by decide)⟩ ?_;refine AA (P6 p9 dT) ?_;rintro t1 bd ⟨n1,b0⟩;refine⟨Grow.mod b0,?_⟩;have b1:=K9.grow b0;have eC:=b0.size;obtain⟨eI,eL,b6,_⟩:=AE.shape n1;refine⟨#[.int .u8 1,zI n,.slice none 0 0,.slice none 0 0,t1],by subst b6;kernel_rfl,?_⟩
  let C2:Nat->Prop:=fun x=>Z x\/t1.ownBlock=some x
  have an:∀x,t1.ownBlock=some x->w9.heap.size<=x/\x<bd.heap.size:=fun x i=>AE.Ax n1 x i;have et:∀x,(Value.slice va D.length vc).ownBlock=some x->x<J.heap.size:=fun x i=>(AE.Ax d8 x i).2;have cd:∀x,(Value.slice va D.length vc).ownBlock=some x->¬C2 x:=by
   rintro x i (hc|hc)
   .exact(I.dF x i).2.1 hc
   .have:=an x hc;have:=et x i;omega
  have ch:¬C2 b:=by
   rintro(hc|hc)
   .exact ba hc
   .have:=an b hc;omega
  have eu:AE 0 Xz 5 (Cb C2) bd (.slice va D.length vc) D:=AE.mod b1.done (Mod.refl (fun _=>False) _) (fun _ _ h=>h) fun r x _ i=>i.mod (Mod.refl (fun _=>False) _) (fun _ _ _ h=>h) fun y _ Q=>.inl Q;have al:FN D n p=D++[⟨1,n,[],[],p⟩]:=by
   unfold FN;unfold Gc at m;cases hl:D.getLast? with
   |none=>rfl
   |some o=>rw[hl] at m;simp only[kV] at m;simp only;rw[Bq m]
  refine LO Fz eu (Nn _) (cs:=KZ ⟨1,n,[],[],p⟩ (.slice none 0 0) (.slice none 0 0) t1) (x:=⟨1,n,[],[],p⟩) (by subst b6;kernel_rfl) rfl ⟨_,_,_,rfl,BB.nil,BB.nil,BB.sub (AE.sl n1) (fun x _ i=>.inr i.2) (by decide) fun _ _ h=>h⟩ (fun _ _ _=>Cb.one) ?_ (by omega) (by simp only[maxLen];omega) (fun _ g=>Grow.mod g) fun ew v' Y cn cv b2 cx=>?_
  .intro W1 W2 r y hz hm Q;refine Q.mod hm (fun x _ i e=>?_) fun _ _ h=>h;rcases e with e|e
   .exact cd x e i
   .rcases i with hc|hc
    .have:=hc.2;omega
    .have:=an x hc;omega
  refine⟨cv.mono fun x _ e=>.inl ⟨rfl,e⟩,?_⟩;have eN:=b2.size;have b7:=AE.one cn;rw[Bj,AG,AH];have bk:∀q,q<3->Live Y ⟨b,q,none⟩:=fun q hq=>(b1.lv q hq).mod b2 vb;refine(bk 0 (by decide)).st b7.1 b7.2 ⟨Mod.setCell _ _ _ (.inr ⟨rfl,rfl⟩),?_⟩;have av:=LG Y b 0 v';have ne:∀q,q≠0->(⟨b,0,none⟩:Addr)≠⟨b,q,none⟩:=fun q hq e=>by simp only[Addr.mk.injEq] at e;omega
  obtain⟨u,hu⟩:=kH.1 (bk 0 (by decide)).1;have da:v'.ownBlock≠some b:=fun e=>by rcases cx b e with h|h;exact vb h;omega
  have b8:∀q,q<3->Live (Y.setCell ⟨b,0,none⟩ v') ⟨b,q,none⟩:=fun q hq=>(bk q hq).set _ _;have dk:=kQ Y ⟨b,0,none⟩ v' hu;have co:∀q u,q≠0->bd.cell? ⟨b,q,none⟩=some u->(Y.setCell ⟨b,0,none⟩ v').cell? ⟨b,q,none⟩=some u:=fun q u hq hu=>(S4 _ _ _ _ (ne q hq)).trans (b2.cell hu vb);generalize Y.setCell ⟨b,0,none⟩ v'=W at av b8 dk co ⊢;have eR:=av.size;refine⟨⟨v',_,C2,none,dk,co 1 _ (by decide) b1.c1,co 2 _ (by decide) b1.c2,b8,.inl B.fb,ch,fun x i=>?_,?_,fun x i=>?_,.inl ⟨rfl,rfl,rfl⟩⟩,?_⟩
  .rcases i with hc|hc
   .exact⟨.inl (bs x hc),by have:=hc.2;omega⟩
   .have:=an x hc;exact⟨.inr (by omega),by omega⟩
  .rw[al];exact AE.mod cn av (fun x i e=>da (e▸i)) fun r x _ i=>i.cmod av fun y Q e=>ch (e▸Q)
  .rcases cx x i with h|h
   .exact⟨(I.dF x h).1,cd x h,(I.dF x h).2.2⟩
   .refine⟨.inr (by omega),?_,fun e=>da (e▸i)⟩;rintro(hc|hc)
    .have:=hc.2;omega
    .have:=an x hc;omega
  .refine((cc.trans (Grow.mod b0)).next b2 fun x i e=>?_).next av fun x _ e=>by rw[e];exact B.fb
   rcases(I.dF x e).1 with h|h
   .exact h
   .omega
def Ds(l m:List Dop):BA (l++m)=BA l+BA m:=by simp[BA]
def Fj(o:Dop):BA [o]=Ef o:=by simp[BA]
def V0(ins:List Dop)(g:Int):BA (BH ins g)<=BA ins+1:=by
 unfold BH;split
 .rw[Ds,Fj];simp[Ef,JC,JX]
 .omega
def dn(d:List Dop)(n:Int)(p:List Chg):BA (FN d n p)<=BA d+1+JX p:=by
 rcases Dm d with rfl|⟨i,b,rfl⟩
 .simp[FN,BA,Ef,JC]
 .unfold FN;rw[WL,gC,lM];simp only;split
  .rw[JU];simp only[Ds,Fj,Ef];omega
  .simp only[Ds,Fj,Ef,JC,lG,lp,my];omega
def dH(d:List Dop)(rs:List Int)(set:List Attr):BA (FX d rs set)<=BA d+1+rs.length+JC set:=by
 rcases Dm d with rfl|⟨i,b,rfl⟩
 .simp[FX,BA,Ef,JX]
 .unfold FX;rw[WL,gC,lM];simp only;split
  .rw[JU];simp only[Ds,Fj,Ef,Bp];omega
  .simp only[Ds,Fj,Ef,JX,lp,my];omega
def aj(s:Gt)(o:Dop):BA (CI s o).done+BA (CI s o).ins<=BA s.done+BA s.ins+2*Ef o:=by
 have h0:1<=Ef o:=by simp[Ef];omega
 unfold CI;split
 .unfold Mk;split
  .omega
  .have h1:=dn (s.done++BH s.ins s.gone) o.n o.patch;have i:=V0 s.ins s.gone;rw[Ds] at h1;simp only[Ef] at h0 ⊢;simp only[BA,lp,my] at h1 i ⊢;omega
 .split
  .unfold Mr;split
   .omega
   .have h1:=dH s.ins o.Ag o.set;simp only[Ef] at h0 ⊢;omega
  .simp only[Ql];omega
def VN(x:List Dop):BA (Be x).done+BA (Be x).ins<=2*BA x:=by
 induction x using IX with
 |h0=>exact Nn _
 |h1 x o i=>
  have e:Be (x++[o])=CI (Be x) o:=by simp[Be]
  rw[e,Ds,Fj];have:=aj (Be x) o;omega
def Tx{l:List Dop}:BA (EG l)<=BA l:=by
 unfold EG;split
 .split
  .rw[od];exact Qn _ _
  .exact Mp _
 .exact Mp _
def eH{b:Nat}{s:Gt}(h:Oy F w b s)(hb:BA s.done+BA s.ins<=274877906944) :
  AB prog 63 [.pointer (some ⟨b,0,none⟩)] (fun v' w'=>ML w.heap.size w' v' (RH s)/\Grow w w') w:=by
 apply fN;obtain⟨dv,iv,C,O,h⟩:=h;have al:=E2 s.done;have an:=E2 s.ins;have av:=V0 s.ins s.gone;have ax:=E2 (BH s.ins s.gone);rw[JV];simp only[pD];rw[FB,Bq (by simp)];have V:Grow w w.drew:=Mod.drew _ _;have Q:=h.grow V;have zd:w.drew.heap.size=w.heap.size:=rfl;rw[<-zd];have fin:∀{W':World},Grow w.drew W'->Grow w W':=fun g=>V.trans g;generalize w.drew=X at V Q zd fin ⊢;refine Af (fun _ _=>False) ?_;rw[Bj,AG,AH];refine AU ⟨Q.c0,fun j hj e=>e⟩ ?_;refine AA (Vk Q (by omega)) ?_;rintro v2 w2 ⟨o2,g2⟩;refine⟨g2,?_⟩;obtain⟨a1,c1,Y,ay,_⟩:=AE.shape Q.done;obtain⟨a2,c2,Z,b0,_⟩:=AE.shape o2;refine GF (cs:=[dv,v2]) (by subst Y;subst Z;kernel_rfl) ?_;have T:Grow w2 (w2.alloc (.cells [dv,v2].toArray 34)):=Mod.alloc _ _ _;have o:∀j v,[dv,v2][j]?=some v->(w2.alloc (.cells [dv,v2].toArray 34)).cell? ((⟨w2.heap.size,0,none⟩:Addr).add j)=some v:=fun j v hv=>G6 hv;generalize w2.alloc (.cells [dv,v2].toArray 34)=w3 at T o ⊢;refine⟨T,?_⟩;have B:=g2.trans T;have z3:=B.size;have rd:BE (fun _=>True) (fun x=>C x) w3 dv s.done:=BB.sub (AE.sl (Q.grow B).done) (fun _ _ _=>trivial) (by decide) fun _ _ h=>h;have rg:BE (fun _=>True) (fun x=>(C x\/O=some x)/\x<X.heap.size) w3 v2 (BH s.ins s.gone):=by
  have:=AE.mod (R':=Cb fun x=>(C x\/O=some x)/\x<X.heap.size) o2 T (fun _ _ h=>h) fun r y _ hy=>hy.mod T (fun _ _ _ h=>h) fun _ _ h=>h;exact BB.sub (AE.sl this) (fun _ _ _=>trivial) (by decide) fun _ _ h=>h
 refine AA (QD rd rg (by rw[<-AH w2.heap.size 0];exact o 0 _ rfl) (o 1 _ rfl) (by omega)) ?_;rintro v4 w4 ⟨o4,g4⟩;refine⟨g4,?_⟩;have m:=B.trans g4;have b1:=m.size;have a6:BA (s.done++BH s.ins s.gone)<=549755813888:=by rw[Ds];omega
 have a7:RH s=EG (s.done++BH s.ins s.gone):=rfl;rw[a7];generalize s.done++BH s.ins s.gone=L at o4 a6 ⊢;have b2:=E2 L;have r4:=AE.sl o4;obtain⟨va,vc,rfl,_,_,_⟩:=AE.shape o4;refine AV (fun vs w5=>∃v,vs=[v]/\Grow X w5/\BE (fun _=>True) (fun _=>True) w5 v (EG L)) ?_ ?_
 .rintro vs w5 ⟨v,rfl,g5,h5⟩ _;rw[Bl,Nr];refine AA (Tw h5 (by have:=Tx (l:=L);omega)) ?_;rintro v6 w6 ⟨o6,g6⟩;have:=g5.size;refine⟨?_,fin (g5.trans g6)⟩;refine AE.mod (AE.base o6 fun g hg=>by have:=(AE.Ax o6 g hg).1;omega) (Mod.refl (fun _=>False) _) (fun _ _ h=>h) fun r x _ hx=>hx.mod (Mod.refl (fun _=>False) _) (fun _ _ _ h=>h) fun y _ hy=>⟨by omega,hy.2⟩
 .have U:BE (fun _=>True) (fun _=>True) w4 (.slice va L.length vc) L:=BB.sub r4 (fun _ _ _=>trivial) (by decide) fun r x hx=>hx.mod (Mod.refl (fun _=>False) _) (fun _ _ _ h=>h) fun _ _ _=>trivial;rw[AP,Aq,wrap64 (by omega) (by omega),DW];refine AF (fun a8=>?_) fun a8=>?_
  .have I:0<L.length:=by omega
   have J:L.length-1<L.length:=by omega
   rw[show((L.length:Int)-1)=((L.length-1:Nat):Int) by omega];obtain⟨q,r,rfl,_,hr,hc,rv,b6,b7,rfl,q1,q2,q3⟩:=U.get J;refine AT J ?_;rw[AG,Addr.add_add];refine AL (hc 0 _ rfl) ?_;rw[Aj];refine AF (fun hk=>?_) fun hk=>⟨_,rfl,m,by rw[EG,CX I];simp only;rw[Bq (fun h=>hk h.1)];exact U⟩;refine AT J ?_;rw[AG,Addr.add_add];refine AL (hc 4 _ rfl) ?_;obtain⟨pa,pc,rfl,_⟩:=q3.shape;rw[AP,Aj];refine AF (fun hp=>?_) fun hp=>⟨_,rfl,m,by rw[EG,CX I];simp only;rw[Bq (fun h=>hp (Rx.2 h.2))];exact U⟩;refine Mq (e:=83) (i:=Tryz.t83) (by kernel_rfl) (by kernel_rfl) (by kernel_rfl) U (Nat.sub_le _ _) fun v' ak=>?_;refine⟨v',rfl,m,?_⟩;rw[EG,CX I];simp only;rw[DN ⟨hk,Rx.1 hp⟩,od];exact ak
  .have:L=[]:=QC (by omega);subst this;exact⟨_,rfl,m,U⟩
def TK{k:Nat}:∀(rows:List (List Value)) (j:Nat),(∀r∈rows,r.length=k)->rows.flatten.take (j*k)=(rows.take j).flatten:=by
 intro rows;induction rows with
 |nil=>intro j _;simp
 |cons r rows i=>
  intro j h;have h0:=h r (by simp);cases j with
  |zero=>simp
  |succ j=>
   rw[og,mh,og,<-i j fun x m=>h x (by simp[m])];rw[nd,mJ (by rw[h0,lO];omega)];congr 2
   rw[h0,lO];omega
def AE.take{B e k:Nat}{R:World->List Value->α->Prop}{g n c:Nat}{l:List α}(h:AE B e k R w (.slice (some ⟨g,0,none⟩) n c) l)(o:j<=l.length):AE B e k R w (.slice (some ⟨g,0,none⟩) j c) (l.take j):=by
 obtain⟨rows,h1,O,Q,U⟩:=h;have m:∀r∈rows,r.length=k:=fun r hr=>(Q r hr).1;refine⟨rows.take j,⟨?_,?_⟩,by rw[Lc,Lc,O],fun r hr=>Q r (i7 hr),fun i r x hr q=>?_⟩
 .rw[FF _ fun r hr=>m r (i7 hr),Lc,Lc,O]
 .rcases h1.2 with⟨T,_⟩|⟨g',V,I,X,hb,Y,T,hm,Z,ht⟩
  .cases T
  .cases X;refine .inr ⟨g,c,I,by rw[Lc,lA o],hb,Y,by rw[Lc];omega,hm,Z,?_⟩;rw[<-TK rows j m,<-ht,mf,Lc];congr 1
   rw[lA o,lA (lW _ o)]
 .rw[mE] at hr q;split at hr
  .rename_i J;rw[DN J] at q;exact U i r x hr q
  .cases hr
def Fa{t e k:Nat}{i:TypeInfo}{g n c j:Nat}(ht:P.underlying t=some (.slice e))(hi:P.info? e=some i)(hk:i.size=k)(o:j<=c)(w:World):(Instr.sliceAt t (.slice (some ⟨g,0,none⟩) n c) none (some (zI j)) none).run P w=.ok (.slice (some ⟨g,0,none⟩) j c) w:=by
 have m:P.elem t=e:=by simp[Program.elem,ht]
 rw[nS _ _ _ _ _ _ (by rw[m];exact ht),run_slice_h _ _ _ _ _ (by rw[m];exact ht) _ _ (by omega) (by omega),m];simp[sizeOf,typeInfo,hi,hk,sliced,Addr.add]
def Fg{b:Nat}{q:Nat}{u:Value}{K:World->Prop}(hc:∀j v,vs[j]?=some v->W.cell? ⟨b,j,none⟩=some v)(hl:∀j,j<vs.length->Live W ⟨b,j,none⟩)(m:q<vs.length)(h1:u.oneCell'=true)(B:u.cells=#[u])
 (I:∀W',Mod (fun x=>x=b) W W'->(∀j v,(vs.set q u)[j]?=some v->W'.cell? ⟨b,j,none⟩=some v)->(∀j,j<(vs.set q u).length->Live W' ⟨b,j,none⟩)->K W'):Av (.pointer (some ⟨b,q,none⟩)) u K W:=by
 refine(hl q m).st h1 B (I _ (Mod.setCell (M:=fun x=>x=b) W ⟨b,q,none⟩ u rfl) (fun j v i=>?_) fun j J=>(hl j (by simpa using J)).set _ _);by_cases e:j=q
 .subst e;rw[kP m] at i;cases i;obtain⟨O,o⟩:=kH.1 (hl j m).1;exact kQ _ _ _ o
 .rw[lI (nY e)] at i;rw[S4 _ _ _ _ (fun e'=>by simp only[Addr.mk.injEq] at e';exact e e'.2.1.symm)];exact hc j v i
section
variable {α:Type}{e k:Nat}{R R':World->List Value->α->Prop}{w w':World}{v:Value}{l:List α}{M:Nat->Prop}
end
def I7:List Value->Nat->List Value->List Value
 |r,_,[]=>r
 |r,p,v::vs=>I7 (r.set p v) (p+1) vs
def LS:∀(vs r:List Value) (p:Nat),(I7 r p vs).length=r.length:=by
 intro vs;induction vs with
 |nil=>intro r p;rfl
 |cons v vs i=>intro r p;rw[I7,i,kJ]
def MY:∀(vs r:List Value) (p:Nat),p+vs.length<=r.length->I7 r p vs=r.take p++vs++r.drop (p+vs.length):=by
 intro vs;induction vs with
 |nil=>intro r p _;simp[I7]
 |cons v vs i=>
  intro r p h;rw[S5] at h;rw[I7,i _ _ (by rw[kJ];omega)];have h1:(r.set p v).take (p+1)=r.take p++[v]:=by
   rw[No,kP (by omega),List.take_set_of_le (Mp _)];rfl
  rw[h1,qB (by omega),S5,show p+1+vs.length=p+(vs.length+1) by omega];simp
def LU{vs r:List Value}(h:vs.length=r.length):I7 r 0 vs=vs:=by
 rw[MY _ _ _ (by omega),mG,mW (by omega)];simp
def Hp{vs r t:List Value}(h:vs.length=r.length):I7 (r++t) 0 vs=vs++t:=by
 rw[MY _ _ _ (by simp;omega),mG];simp[h]
def aH{vs r q t:List Value}{p:Nat}(i:q.length=p)(h:vs.length=r.length):I7 (q++r++t) p vs=q++vs++t:=by
 subst i;rw[MY _ _ _ (by simp;omega)];simp[h]
def AE.rows{B e k:Nat}{R:World->List Value->α->Prop}{l:List α}(h:AE B e k R w v l) :
  ∃rows:List (List Value),AE B e k (fun _ r y=>y=r) w v rows/\rows.length=l.length/\(∀r∈rows,r.length=k/\∀u∈r,u.oneCell'=true)/\∀(i:Nat) (r:List Value) (x:α),rows[i]?=some r->l[i]?=some x->R w r x:=by
 obtain⟨rows,h1,j,m,q⟩:=h;exact⟨rows,⟨rows,by rw[j];exact h1,rfl,m,fun i r x hr o=>by rw[hr] at o;cases o;rfl⟩,j,m,q⟩
def AE.fw{B e k:Nat}{R:World->List Value->α->Prop}{l:List α}{rows:List (List Value)}(h:AE B e k (fun _ r y=>y=r) w v rows)(hl:rows.length=l.length)(o:∀(i:Nat) (r:List Value) (x:α),rows[i]?=some r->l[i]?=some x->R w r x):AE B e k R w v l:=by
 obtain⟨j,h1,q,I,J⟩:=h;have e:j=rows:=by
  refine List.ext_getElem q fun i hi m=>?_;exact(J i j[i] rows[i] (by simp[hi]) (by simp[m])).symm
 subst e;exact⟨j,by rw[<-hl];exact h1,hl,I,o⟩
def Qz{B e k:Nat}{a:Addr}{n c i:Nat}:∀(vs:List Value) (p j:Nat) (w:World) (rows:List (List Value)),AE B e k (fun _ r y=>y=r) w (.slice (some a) n c) rows->(hi:i<rows.length)->p+j+vs.length<=k->(∀u∈vs,u.oneCell'=true)->
  AE B e k (fun _ r y=>y=r) (EW w (a.add (i*k+p)) j vs) (.slice (some a) n c) (rows.set i (I7 rows[i] (p+j) vs))/\Mod (fun b=>b=a.block) w (EW w (a.add (i*k+p)) j vs):=by
 intro vs;induction vs with
 |nil=>intro p j w rows h hi _ _;simp only[EW,I7,q9];exact⟨h,Mod.refl _ _⟩
 |cons v vs q=>
  intro p j w rows h hi hk h1;rw[S5] at hk;simp only[EW,I7,Addr.add_add];obtain⟨_,_,I,hm⟩:=AE.store (R':=fun _ r y=>y=r) (u:=v) (x':=rows[i].set (p+j) v) (j:=p+j) h hi (by omega) (h1 v (by simp)) (fun r y _ J=>J) (fun r hr=>by rw[hr]);have m:i<(rows.set i (rows[i].set (p+j) v)).length:=by rw[kJ];exact hi
  obtain⟨o,O⟩:=q p (j+1) _ _ I m (by omega) fun u hu=>h1 u (by simp[hu]);rw[nj,rT] at o;rw[show i*k+(p+j)=i*k+p+j by omega] at *;exact⟨o,hm.trans O⟩
def AE.OI{B e k:Nat}{R R':World->List Value->α->Prop}{a:Addr}{n c i p m:Nat}{l:List α}{x':α}{K:World->Prop}(h:AE B e k R w (.slice (some a) n c) l)(hi:i<l.length)(hm:vs.length=m)(hk:p+m<=k)(h1:∀u∈vs,u.oneCell'=true)
 (U:∀w' r y,Mod (fun b=>b=a.block) w w'->y∈l->R w r y->R' w' r y)(V:∀w' r,Mod (fun b=>b=a.block) w w'->R w r l[i]->r.length=k->(∀u∈r,u.oneCell'=true)->R' w' (I7 r p vs) x')
 (X:∀w',AE B e k R' w' (.slice (some a) n c) (l.set i x')->Mod (fun b=>b=a.block) w w'->K w'):Ab m (.pointer (some (a.add (i*k+p)))) (.agg vs.toArray) K w:=by
 obtain⟨rows,T,hl,Y,hr⟩:=h.rows;have o:i<rows.length:=by omega
 obtain⟨Z,O⟩:=Qz vs p 0 w rows T o (by omega) h1;refine⟨_,vs,rfl,rfl,hm,h1,fun j hj=>?_,X _ (AE.fw Z (by rw[kJ,kJ,hl]) fun q r x J I=>?_) O⟩
 .obtain⟨g,e1,_,Q⟩:=AE.live T o (j:=p+j) (by omega);cases e1;rw[Addr.add_add,show i*k+p+j=i*k+(p+j) by omega];exact Q
 .by_cases e:i=q
  .subst e;rw[kP o] at J;rw[kP hi] at I;cases J;cases I;have:=Y rows[i] (WJ o);rw[lD];exact V _ _ O (hr i _ _ (By o) (By hi)) this.1 this.2
  .rw[lI e] at J I;exact U _ _ _ O (lS I) (hr q r x J I)
def UL:∀(vs:List Value) (l:List Value) (p j:Nat),(vs.zipIdx j).foldl (fun cs (x:Value×Nat)=>cs.setIfInBounds (p+x.2) x.1) l.toArray=(I7 l (p+j) vs).toArray:=by
 intro vs;induction vs with
 |nil=>intro l p j;rfl
 |cons v vs i=>
  intro l p j;have:=i (l.set (p+j) v) p (j+1);rw[<-mL] at this;rw[List.zipIdx_cons,me,I7,<-this];simp
def DB{j:Nat->Option (Nat×Nat)}{l vs:List Value}{i off len:Nat}{m:List (Nat×Value)}(hp:j i=some (off,len))(B:v.cells=vs.toArray)(hl:vs.length=len)(I:off+len<=l.length):Instr.fill j l.toArray ((i,v)::m)=Instr.fill j (I7 l off vs).toArray m:=by
 have q:=UL vs l off 0;rw[lD] at q;have o:(vs.toArray.zipIdx.foldl (fun cs (x:Value×Nat)=>cs.setIfInBounds (off+x.2) x.1) l.toArray)=(I7 l off vs).toArray:=by
  rw[<-q,<-Array.foldl_toList];simp
 have hc:(decide (vs.toArray.size≠len)||decide (off+vs.toArray.size>l.toArray.size))=false:=by simp[hl];omega
 simp only[Instr.fill,hp,B,hc,o];simp
def FQ{i:Nat->Option (Nat×Nat)}{l:List Value}:Instr.fill i l.toArray []=some l.toArray:=rfl
def range_zero{j:List Value}{k:Nat}(o:j.length=k)(hk:0<k):(Array.range (1*k)).map (j.toArray[· % j.toArray.size]!)=j.toArray:=by
 subst o;rw[qW];refine Array.ext (by simp) fun i h1 m=>?_;simp at h1 m;simp[Nat.mod_eq_of_lt m,m]
def DC{j vs:List Value}{k:Nat}(m:j.length=k)(hk:0<k)(o:v.cells=vs.toArray)(hl:vs.length=k):Instr.fill (fun i=>some (i*k,k)) ((Array.range (1*k)).map (j.toArray[· % j.toArray.size]!)) [(0,v)]=some vs.toArray:=by
 rw[range_zero m hk,DB (off:=0) (by simp) o hl (by omega),FQ,LU (by omega)]
end Go.Proofs.YtmdhibffnkhcnaaGreatDoor
