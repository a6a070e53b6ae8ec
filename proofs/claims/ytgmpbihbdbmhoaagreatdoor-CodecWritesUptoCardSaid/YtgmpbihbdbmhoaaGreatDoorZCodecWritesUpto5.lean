/- By a program of ours: of each function below the predicate that its code comes to, and that it is sound. No conditions. Contracts of the codec's writer: numbers, bytes, values. Conditions: the sizes. Contracts: the program's values (value.Flag, Int, Float, Text, May). Conditions: the size of a text; the two tables lie in memory as they are laid. The sort's worlds in our own words: a row of one's own, sorted. No conditions. slices.SortFunc at keys: the shelf's contract, laid; sorted rows of keys. No conditions. Contract of schema.New; known04; the plain law of keys. No conditions. What is known of schemas; the law SchemaGroups: it answers true, and leaves all memory as it was. No conditions. Contract of Schema.Fits; the law SchemaFits: it answers true, and leaves all memory as it was. Conditions: the two tables lie in memory as they are laid. Contracts: the text of a set (intern.text); why a set may not be (attrs.May). Conditions: the sets' numbers lie in their types; of the text: the set may be. Contracts: why a patch, an op, a delta may not be. Conditions: the two tables. Contracts: the bytes of runes (utf8.AppendRune, runes.Bytes). Conditions: the sizes. Plain law: reading a form: what stands at a place is told, or nothing that may is there. No program in sight. Conditions: the sizes. Plain law: reading attributes, changes, ops, deltas out of their parts. No program in sight. Conditions: the sizes. Plain law: a delta that may be has bytes that are read back, and its normal form may be. No program in sight. Conditions: the sizes. -/
import Derived.Test.YtgmpbihbdbmhoaaGreatDoorZCodecWritesUpto4
import Derived.Shelf.GgSortFunc.InsertionK
import Derived.Shelf.SlSortCmp.WholeK
import Derived.Shelf.SlSortCmp.NoneTotal
namespace Go.Proofs.YtgmpbihbdbmhoaaGreatDoor
open Go Go.K
def S9 (v0 v1:Value) (K:Cont) (w:World):Prop:=
 callK Tryz.prog 19 [v0,v1] (fun t10 w1=>
 neK .i64 t10 (.int .i64 0) fun t12=>
 condK t12
 (K (.tuple #[(.slice none 0 0),t10]) w1)
 (buildK [(0,1)] [(.slice none 0 0)] [] fun t14=>
 boxnK 67 t14 (fun t15 w2=>
 callK Tryz.prog 21 [v1] (fun t18 w3=>
 callK Tryz.prog 20 [t15,t18,(.func (.func 22) #[t15] #[])] (fun _t21 w4=>
 nilckK t15 fun t23=>
 faK 0 t23 fun t24=>
 ld1K t24 (fun t25 w5=>
 K (.tuple #[t25,(.int .i64 0)]) w5) w4) w3) w2) w1)) w
theorem S9_eq (v0 v1:Value) (K:Cont) (w:World):S9 v0 v1 K w=D Tryz.prog okf 26 (bodyOf Tryz.f9) (.node [] [] .nil (.node [] [] (.node [] [] .nil (.node [] [] .nil (.node [] [] (.node [] [] .nil .nil) .nil))) (.node [] [] .nil (.node [] [] .nil (.node [] [] .nil .nil))))) (retK Tryz.prog [.tmp 4,.tmp 5] K) (nth [v0,v1]) w:=by kernel_rfl
theorem S9_ok {v0 v1:Value} {K:Cont} {w:World} (h:S9 v0 v1 K w):callK Tryz.prog 9 [v0,v1] K w:=
 callK_of (P:=Tryz.prog) (ok:=okf) (n:=26) (fn:=Tryz.f9) (c:=bodyOf Tryz.f9) (rs:=[.tmp 4,.tmp 5]) (an:=(.node [] [] .nil (.node [] [] (.node [] [] .nil (.node [] [] .nil (.node [] [] (.node [] [] .nil .nil) .nil))) (.node [] [] .nil (.node [] [] .nil (.node [] [] .nil .nil)))))) good mixed Tryz.func9 (by kernel_rfl) (by kernel_rfl) (by kernel_rfl) (by kernel_rfl) (Eq.mp (S9_eq v0 v1 K w) h)

def S20 (v0 v1 v2:Value) (K:Cont) (w:World):Prop:=
 lenK v1 fun t10=>
 runK Tryz.prog (convert 3 57 t10) (fun t11 w1=>
 callK Tryz.prog 45 [v0,t11] (fun _t12 w2=>
 lenK v1 fun t14=>
 LoopK [(.int .i64 0)] (fun vs again w3=>∀ _h:Env,
 ltK .i64 (nth vs 0) t14 fun t16=>
 condK t16
 (ixK 5 v1 (nth vs 0) fun t17=>
 ldnK 5 t17 (fun t18 w4=>
 newK 56 [(.int .u8 0),(.int .i64 0),(.slice none 0 0),(.slice none 0 0),(.slice none 0 0)] (fun t7 w5=>
 stnK 5 t7 t18 (fun w6=>
 ldnK 5 t7 (fun t20 w7=>
 callyK Tryz.prog okf v2 [t20] (fun _t21 w8=>
 addK .i64 (nth vs 0) (.int .i64 1) fun t22=>
 again [t22] w8) w7) w6) w5) w4) w3)
 (K (.tuple #[]) w3)) w2) w1) w
theorem S20_eq (v0 v1 v2:Value) (K:Cont) (w:World):S20 v0 v1 v2 K w=D Tryz.prog okf 23 (bodyOf Tryz.f20) (.node [] [] .nil (.node [] [] .nil (.node [15] [(7,7),(15,22)] (.node [] [] .nil (.node [] [] (.node [] [] .nil .nil) (.node [] [] (.node [] [] .nil .nil) .nil))) .nil))) (retK Tryz.prog [] K) (nth [v0,v1,v2]) w:=by kernel_rfl
theorem S20_ok {v0 v1 v2:Value} {K:Cont} {w:World} (h:S20 v0 v1 v2 K w):callK Tryz.prog 20 [v0,v1,v2] K w:=
 callK_of (P:=Tryz.prog) (ok:=okf) (n:=23) (fn:=Tryz.f20) (c:=bodyOf Tryz.f20) (rs:=[]) (an:=(.node [] [] .nil (.node [] [] .nil (.node [15] [(7,7),(15,22)] (.node [] [] .nil (.node [] [] (.node [] [] .nil .nil) (.node [] [] (.node [] [] .nil .nil) .nil))) .nil)))) good mixed Tryz.func20 (by kernel_rfl) (by kernel_rfl) (by kernel_rfl) (by kernel_rfl) (Eq.mp (S20_eq v0 v1 v2 K w) h)

def S99 (v0 v1 v2:Value) (K:Cont) (w:World):Prop:=
 lenK v1 fun t10=>
 runK Tryz.prog (convert 3 57 t10) (fun t11 w1=>
 callK Tryz.prog 45 [v0,t11] (fun _t12 w2=>
 lenK v1 fun t14=>
 LoopK [(.int .i64 0)] (fun vs again w3=>∀ _h:Env,
 ltK .i64 (nth vs 0) t14 fun t16=>
 condK t16
 (ixK 6 v1 (nth vs 0) fun t17=>
 ldnK 6 t17 (fun t18 w4=>
 newK 63 [(.int .i64 0),(.bool false),(.int .u8 0),(.int .i64 0),(.int .u64 0),(.string (ByteArray.mk #[]))] (fun t7 w5=>
 stnK 6 t7 t18 (fun w6=>
 ldnK 6 t7 (fun t20 w7=>
 callyK Tryz.prog okf v2 [t20] (fun _t21 w8=>
 addK .i64 (nth vs 0) (.int .i64 1) fun t22=>
 again [t22] w8) w7) w6) w5) w4) w3)
 (K (.tuple #[]) w3)) w2) w1) w
theorem S99_eq (v0 v1 v2:Value) (K:Cont) (w:World):S99 v0 v1 v2 K w=D Tryz.prog okf 23 (bodyOf Tryz.f99) (.node [] [] .nil (.node [] [] .nil (.node [15] [(7,7),(15,22)] (.node [] [] .nil (.node [] [] (.node [] [] .nil .nil) (.node [] [] (.node [] [] .nil .nil) .nil))) .nil))) (retK Tryz.prog [] K) (nth [v0,v1,v2]) w:=by kernel_rfl
theorem S99_ok {v0 v1 v2:Value} {K:Cont} {w:World} (h:S99 v0 v1 v2 K w):callK Tryz.prog 99 [v0,v1,v2] K w:=
 callK_of (P:=Tryz.prog) (ok:=okf) (n:=23) (fn:=Tryz.f99) (c:=bodyOf Tryz.f99) (rs:=[]) (an:=(.node [] [] .nil (.node [] [] .nil (.node [15] [(7,7),(15,22)] (.node [] [] .nil (.node [] [] (.node [] [] .nil .nil) (.node [] [] (.node [] [] .nil .nil) .nil))) .nil)))) good mixed Tryz.func99 (by kernel_rfl) (by kernel_rfl) (by kernel_rfl) (by kernel_rfl) (Eq.mp (S99_eq v0 v1 v2 K w) h)

def S104 (v0 v1 v2:Value) (K:Cont) (w:World):Prop:=
 lenK v1 fun t10=>
 runK Tryz.prog (convert 3 57 t10) (fun t11 w1=>
 callK Tryz.prog 45 [v0,t11] (fun _t12 w2=>
 lenK v1 fun t14=>
 LoopK [(.int .i64 0)] (fun vs again w3=>∀ _h:Env,
 ltK .i64 (nth vs 0) t14 fun t16=>
 condK t16
 (ixK 5 v1 (nth vs 0) fun t17=>
 ldnK 5 t17 (fun t18 w4=>
 newK 61 [(.int .i64 0),(.int .u8 0),(.int .i64 0),(.int .u64 0),(.string (ByteArray.mk #[]))] (fun t7 w5=>
 stnK 5 t7 t18 (fun w6=>
 ldnK 5 t7 (fun t20 w7=>
 callyK Tryz.prog okf v2 [t20] (fun _t21 w8=>
 addK .i64 (nth vs 0) (.int .i64 1) fun t22=>
 again [t22] w8) w7) w6) w5) w4) w3)
 (K (.tuple #[]) w3)) w2) w1) w
theorem S104_eq (v0 v1 v2:Value) (K:Cont) (w:World):S104 v0 v1 v2 K w=D Tryz.prog okf 23 (bodyOf Tryz.f104) (.node [] [] .nil (.node [] [] .nil (.node [15] [(7,7),(15,22)] (.node [] [] .nil (.node [] [] (.node [] [] .nil .nil) (.node [] [] (.node [] [] .nil .nil) .nil))) .nil))) (retK Tryz.prog [] K) (nth [v0,v1,v2]) w:=by kernel_rfl
theorem S104_ok {v0 v1 v2:Value} {K:Cont} {w:World} (h:S104 v0 v1 v2 K w):callK Tryz.prog 104 [v0,v1,v2] K w:=
 callK_of (P:=Tryz.prog) (ok:=okf) (n:=23) (fn:=Tryz.f104) (c:=bodyOf Tryz.f104) (rs:=[]) (an:=(.node [] [] .nil (.node [] [] .nil (.node [15] [(7,7),(15,22)] (.node [] [] .nil (.node [] [] (.node [] [] .nil .nil) (.node [] [] (.node [] [] .nil .nil) .nil))) .nil)))) good mixed Tryz.func104 (by kernel_rfl) (by kernel_rfl) (by kernel_rfl) (by kernel_rfl) (Eq.mp (S104_eq v0 v1 v2 K w) h)

def S22 (v0 v1:Value) (K:Cont) (w:World):Prop:=
 boxnK 56 v1 (fun t3 w1=>
 faK 0 t3 fun t7=>
 ld1K t7 (fun t8 w2=>
 runK Tryz.prog (convert 5 57 t8) (fun t9 w3=>
 callK Tryz.prog 45 [v0,t9] (fun _t10 w4=>
 faK 0 t3 fun t11=>
 ld1K t11 (fun t12 w5=>
 eqK .u8 t12 (.int .u8 1) fun t14=>
 condK t14
 (faK 1 t3 fun t16=>
 ld1K t16 (fun t17 w6=>
 runK Tryz.prog (convert 3 57 t17) (fun t18 w7=>
 callK Tryz.prog 45 [v0,t18] (fun _t19 w8=>
 faK 4 t3 fun t21=>
 ld1K t21 (fun t22 w9=>
 callK Tryz.prog 51 [v0,t22] (fun _t23 w10=>
 K (.tuple #[]) w10) w9) w8) w7) w6) w5)
 (eqK .u8 t12 (.int .u8 2) fun t25=>
 condK t25
 (faK 2 t3 fun t27=>
 ld1K t27 (fun t28 w11=>
 callK Tryz.prog 52 [t28] (fun t29 w12=>
 extK 0 t29 fun t30=>
 extK 1 t29 fun _t31=>
 callK Tryz.prog 53 [v0,t30] (fun _t34 w13=>
 faK 3 t3 fun t36=>
 ld1K t36 (fun t37 w14=>
 callK Tryz.prog 54 [v0,t37] (fun _t38 w15=>
 K (.tuple #[]) w15) w14) w13) w12) w11) w5)
 (eqK .u8 t12 (.int .u8 3) fun t40=>
 condK t40
 (faK 1 t3 fun t42=>
 ld1K t42 (fun t43 w16=>
 runK Tryz.prog (convert 3 57 t43) (fun t44 w17=>
 callK Tryz.prog 45 [v0,t44] (fun _t45 w18=>
 K (.tuple #[]) w18) w17) w16) w5)
 (K (.tuple #[]) w5)))) w4) w3) w2) w1) w
theorem S22_eq (v0 v1:Value) (K:Cont) (w:World):S22 v0 v1 K w=D Tryz.prog okf 46 (bodyOf Tryz.f22) (.node [] [] .nil (.node [] [] .nil (.node [] [] .nil (.node [] [] .nil (.node [] [] (.node [] [] .nil .nil) (.node [] [] .nil (.node [] [] (.node [] [] .nil (.node [] [] .nil .nil)) (.node [] [] .nil (.node [] [] .nil .nil))))))))) (retK Tryz.prog [] K) (nth [v0,v1]) w:=by kernel_rfl
theorem S22_ok {v0 v1:Value} {K:Cont} {w:World} (h:S22 v0 v1 K w):callK Tryz.prog 22 [v0,v1] K w:=
 callK_of (P:=Tryz.prog) (ok:=okf) (n:=46) (fn:=Tryz.f22) (c:=bodyOf Tryz.f22) (rs:=[]) (an:=(.node [] [] .nil (.node [] [] .nil (.node [] [] .nil (.node [] [] .nil (.node [] [] (.node [] [] .nil .nil) (.node [] [] .nil (.node [] [] (.node [] [] .nil (.node [] [] .nil .nil)) (.node [] [] .nil (.node [] [] .nil .nil)))))))))) good mixed Tryz.func22 (by kernel_rfl) (by kernel_rfl) (by kernel_rfl) (by kernel_rfl) (Eq.mp (S22_eq v0 v1 K w) h)

def S45 (v0 v1:Value) (K:Cont) (w:World):Prop:=
 LoopK [v1] (fun vs again w1=>∀ _h:Env,
 gtK .u64 (nth vs 0) (.int .u64 127) fun t5=>
 condK t5
 (nilckK v0 fun t10=>
 faK 0 t10 fun t11=>
 ld1K t11 (fun t12 w2=>
 runK Tryz.prog (convert 57 5 (nth vs 0)) (fun t14 w3=>
 runK Tryz.prog (binS .or 5 (.tmp 14) (.const (.int .u8 128)) t14 (.int .u8 128)) (fun t15 w4=>
 rowK 5 1 1 [(.int .u8 0)] [(0,t15)] (fun t16 w5=>
 runK Tryz.prog (Builtin.append_ #[31,31] 31 [t12,t16].toArray) (fun t17 w6=>
 nilckK v0 fun t18=>
 faK 0 t18 fun t19=>
 st1K t19 t17 (fun w7=>
 runK Tryz.prog (binS .shr 57 (.tmp 6) (.const (.int .u64 7)) (nth vs 0) (.int .u64 7)) (fun t7 w8=>
 again [t7] w8) w7) w6) w5) w4) w3) w2) w1)
 (nilckK v0 fun t22=>
 faK 0 t22 fun t23=>
 ld1K t23 (fun t24 w9=>
 runK Tryz.prog (convert 57 5 (nth vs 0)) (fun t26 w10=>
 rowK 5 1 1 [(.int .u8 0)] [(0,t26)] (fun t27 w11=>
 runK Tryz.prog (Builtin.append_ #[31,31] 31 [t24,t27].toArray) (fun t28 w12=>
 nilckK v0 fun t29=>
 faK 0 t29 fun t30=>
 st1K t30 t28 (fun w13=>
 K (.tuple #[]) w13) w12) w11) w10) w9) w1)) w
theorem S45_eq (v0 v1:Value) (K:Cont) (w:World):S45 v0 v1 K w=D Tryz.prog okf 31 (bodyOf Tryz.f45) (.node [] [] (.node [1] [(1,1),(4,19)] (.node [] [] (.node [] [] .nil (.node [] [] .nil .nil)) (.node [] [] .nil .nil)) .nil) .nil) (retK Tryz.prog [] K) (nth [v0,v1]) w:=by kernel_rfl
theorem S45_ok {v0 v1:Value} {K:Cont} {w:World} (h:S45 v0 v1 K w):callK Tryz.prog 45 [v0,v1] K w:=
 callK_of (P:=Tryz.prog) (ok:=okf) (n:=31) (fn:=Tryz.f45) (c:=bodyOf Tryz.f45) (rs:=[]) (an:=(.node [] [] (.node [1] [(1,1),(4,19)] (.node [] [] (.node [] [] .nil (.node [] [] .nil .nil)) (.node [] [] .nil .nil)) .nil) .nil)) good mixed Tryz.func45 (by kernel_rfl) (by kernel_rfl) (by kernel_rfl) (by kernel_rfl) (Eq.mp (S45_eq v0 v1 K w) h)

def S51 (v0 v1:Value) (K:Cont) (w:World):Prop:=
 box1K 65 v0 (fun t2 w1=>
 ld1K t2 (fun t4 w2=>
 callK Tryz.prog 99 [t4,v1,(.func (.func 100) #[] #[t2])] (fun _t7 w3=>
 K (.tuple #[]) w3) w2) w1) w
theorem S51_eq (v0 v1:Value) (K:Cont) (w:World):S51 v0 v1 K w=D Tryz.prog okf 8 (bodyOf Tryz.f51) (.node [] [] .nil .nil) (retK Tryz.prog [] K) (nth [v0,v1]) w:=by kernel_rfl
theorem S51_ok {v0 v1:Value} {K:Cont} {w:World} (h:S51 v0 v1 K w):callK Tryz.prog 51 [v0,v1] K w:=
 callK_of (P:=Tryz.prog) (ok:=okf) (n:=8) (fn:=Tryz.f51) (c:=bodyOf Tryz.f51) (rs:=[]) (an:=(.node [] [] .nil .nil)) good mixed Tryz.func51 (by kernel_rfl) (by kernel_rfl) (by kernel_rfl) (by kernel_rfl) (Eq.mp (S51_eq v0 v1 K w) h)

def S53 (v0 v1:Value) (K:Cont) (w:World):Prop:=
 lenK v1 fun t6=>
 runK Tryz.prog (convert 3 57 t6) (fun t7 w1=>
 callK Tryz.prog 45 [v0,t7] (fun _t8 w2=>
 nilckK v0 fun t11=>
 faK 0 t11 fun t12=>
 ld1K t12 (fun t13 w3=>
 runK Tryz.prog (Builtin.append_ #[31,31] 31 [t13,v1].toArray) (fun t15 w4=>
 nilckK v0 fun t16=>
 faK 0 t16 fun t17=>
 st1K t17 t15 (fun w5=>
 K (.tuple #[]) w5) w4) w3) w2) w1) w
theorem S53_eq (v0 v1:Value) (K:Cont) (w:World):S53 v0 v1 K w=D Tryz.prog okf 18 (bodyOf Tryz.f53) (.node [] [] .nil .nil) (retK Tryz.prog [] K) (nth [v0,v1]) w:=by kernel_rfl
theorem S53_ok {v0 v1:Value} {K:Cont} {w:World} (h:S53 v0 v1 K w):callK Tryz.prog 53 [v0,v1] K w:=
 callK_of (P:=Tryz.prog) (ok:=okf) (n:=18) (fn:=Tryz.f53) (c:=bodyOf Tryz.f53) (rs:=[]) (an:=(.node [] [] .nil .nil)) good mixed Tryz.func53 (by kernel_rfl) (by kernel_rfl) (by kernel_rfl) (by kernel_rfl) (Eq.mp (S53_eq v0 v1 K w) h)

def S54 (v0 v1:Value) (K:Cont) (w:World):Prop:=
 box1K 65 v0 (fun t2 w1=>
 ld1K t2 (fun t4 w2=>
 callK Tryz.prog 104 [t4,v1,(.func (.func 105) #[] #[t2])] (fun _t7 w3=>
 K (.tuple #[]) w3) w2) w1) w
theorem S54_eq (v0 v1:Value) (K:Cont) (w:World):S54 v0 v1 K w=D Tryz.prog okf 8 (bodyOf Tryz.f54) (.node [] [] .nil .nil) (retK Tryz.prog [] K) (nth [v0,v1]) w:=by kernel_rfl
theorem S54_ok {v0 v1:Value} {K:Cont} {w:World} (h:S54 v0 v1 K w):callK Tryz.prog 54 [v0,v1] K w:=
 callK_of (P:=Tryz.prog) (ok:=okf) (n:=8) (fn:=Tryz.f54) (c:=bodyOf Tryz.f54) (rs:=[]) (an:=(.node [] [] .nil .nil)) good mixed Tryz.func54 (by kernel_rfl) (by kernel_rfl) (by kernel_rfl) (by kernel_rfl) (Eq.mp (S54_eq v0 v1 K w) h)

def S100 (v0 v1:Value) (K:Cont) (w:World):Prop:=
 boxnK 63 v0 (fun t2 w1=>
 ld1K v1 (fun t3 w2=>
 faK 0 t2 fun t4=>
 ld1K t4 (fun t5 w3=>
 runK Tryz.prog (convert 3 57 t5) (fun t6 w4=>
 callK Tryz.prog 45 [t3,t6] (fun _t7 w5=>
 faK 1 t2 fun t8=>
 ld1K t8 (fun t9 w6=>
 condK t9
 (ld1K v1 (fun t10 w7=>
 callK Tryz.prog 45 [t10,(.int .u64 0)] (fun _t11 w8=>
 K (.tuple #[]) w8) w7) w6)
 (ld1K v1 (fun t12 w9=>
 faK 2 t2 fun t13=>
 ldnK 4 t13 (fun t14 w10=>
 callK Tryz.prog 101 [t12,t14] (fun _t15 w11=>
 K (.tuple #[]) w11) w10) w9) w6)) w5) w4) w3) w2) w1) w
theorem S100_eq (v0 v1:Value) (K:Cont) (w:World):S100 v0 v1 K w=D Tryz.prog okf 16 (bodyOf Tryz.f100) (.node [] [] .nil (.node [] [] .nil (.node [] [] .nil (.node [] [] .nil .nil)))) (retK Tryz.prog [] K) (nth [v0,v1]) w:=by kernel_rfl
theorem S100_ok {v0 v1:Value} {K:Cont} {w:World} (h:S100 v0 v1 K w):callK Tryz.prog 100 [v0,v1] K w:=
 callK_of (P:=Tryz.prog) (ok:=okf) (n:=16) (fn:=Tryz.f100) (c:=bodyOf Tryz.f100) (rs:=[]) (an:=(.node [] [] .nil (.node [] [] .nil (.node [] [] .nil (.node [] [] .nil .nil))))) good mixed Tryz.func100 (by kernel_rfl) (by kernel_rfl) (by kernel_rfl) (by kernel_rfl) (Eq.mp (S100_eq v0 v1 K w) h)

def S105 (v0 v1:Value) (K:Cont) (w:World):Prop:=
 boxnK 61 v0 (fun t2 w1=>
 ld1K v1 (fun t3 w2=>
 faK 0 t2 fun t4=>
 ld1K t4 (fun t5 w3=>
 runK Tryz.prog (convert 3 57 t5) (fun t6 w4=>
 callK Tryz.prog 45 [t3,t6] (fun _t7 w5=>
 ld1K v1 (fun t8 w6=>
 faK 1 t2 fun t9=>
 ldnK 4 t9 (fun t10 w7=>
 callK Tryz.prog 101 [t8,t10] (fun _t11 w8=>
 K (.tuple #[]) w8) w7) w6) w5) w4) w3) w2) w1) w
theorem S105_eq (v0 v1:Value) (K:Cont) (w:World):S105 v0 v1 K w=D Tryz.prog okf 12 (bodyOf Tryz.f105) (.node [] [] .nil (.node [] [] .nil .nil)) (retK Tryz.prog [] K) (nth [v0,v1]) w:=by kernel_rfl
theorem S105_ok {v0 v1:Value} {K:Cont} {w:World} (h:S105 v0 v1 K w):callK Tryz.prog 105 [v0,v1] K w:=
 callK_of (P:=Tryz.prog) (ok:=okf) (n:=12) (fn:=Tryz.f105) (c:=bodyOf Tryz.f105) (rs:=[]) (an:=(.node [] [] .nil (.node [] [] .nil .nil))) good mixed Tryz.func105 (by kernel_rfl) (by kernel_rfl) (by kernel_rfl) (by kernel_rfl) (Eq.mp (S105_eq v0 v1 K w) h)

def S101 (v0 v1:Value) (K:Cont) (w:World):Prop:=
 boxnK 59 v1 (fun t3 w1=>
 faK 0 t3 fun t5=>
 ld1K t5 (fun t6 w2=>
 runK Tryz.prog (convert 5 57 t6) (fun t7 w3=>
 callK Tryz.prog 45 [v0,t7] (fun _t8 w4=>
 faK 0 t3 fun t9=>
 ld1K t9 (fun t10 w5=>
 JoinK (fun _vs w6=>∀ _h:Env,
 DrawC [7,8,11] [[],[],[1],[1,2],[1,2,3],[],[5],[5,6],[1,2,3,4,5,6,7],[0,1,2,3,4,5,6,7,8],[0,1,2,3,4,5,6,7,8,9],[0,1,2,3,4,5,6,7,8,9,10]] w6.drew (fun M St=>
 nilckK v0 fun t21=>
 faK 0 t21 fun t22=>
 sld1 (St 4) t22 fun t23=>
 faK 1 t3 fun t24=>
 sld1 (St 6) t24 fun t25=>
 callK Tryz.prog 139 [(.slice none 0 0),t25] (fun t26 w7=>
 Mod (M 7) w6.drew w7∧
 runK Tryz.prog (Builtin.append_ #[31,31] 31 [t23,t26].toArray) (fun t27 w8=>
 Mod (M 8) w7 w8∧
 nilckK v0 fun t28=>
 faK 0 t28 fun t29=>
 st1K t29 t27 (fun w9=>
 Mod (M 11) w8 w9∧
 K (.tuple #[]) w9) w8) w7) w6.drew)) (fun J=>
 eqK .u8 t10 (.int .u8 1) fun t12=>
 condK t12
 (J [] w5)
 (eqK .u8 t10 (.int .u8 2) fun t14=>
 condK t14
 (J [] w5)
 (eqK .u8 t10 (.int .u8 3) fun t16=>
 condK t16
 (faK 2 t3 fun t31=>
 ld1K t31 (fun t32 w10=>
 callK Tryz.prog 45 [v0,t32] (fun _t33 w11=>
 K (.tuple #[]) w11) w10) w5)
 (eqK .u8 t10 (.int .u8 4) fun t18=>
 condK t18
 (faK 3 t3 fun t35=>
 ld1K t35 (fun t36 w12=>
 runK Tryz.prog (convert 9 31 t36) (fun t37 w13=>
 callK Tryz.prog 53 [v0,t37] (fun _t38 w14=>
 K (.tuple #[]) w14) w13) w12) w5)
 (K (.tuple #[]) w5)))))) w4) w3) w2) w1) w
theorem S101_eq (v0 v1:Value) (K:Cont) (w:World):S101 v0 v1 K w=D Tryz.prog okf 39 (bodyOf Tryz.f101) (.node [] [] .nil (.node [] [] .nil (.node [] [] .nil (.node [] [] (.node [] [] (.cut [] [(11,18)] (.node [] [] (.node [] [] (.node [] [] .nil (.node [] [] .nil .nil)) (.node [] [] (.node [] [] .nil (.node [] [] .nil .nil)) (.node [] [] (.node [] [] .nil (.node [] [] .nil .nil)) (.node [] [] .nil (.node [] [] .nil .nil))))) .nil) (.node [] [] (.dc [7,8,11] [[],[],[1],[1,2],[1,2,3],[],[5],[5,6],[1,2,3,4,5,6,7],[0,1,2,3,4,5,6,7,8],[0,1,2,3,4,5,6,7,8,9],[0,1,2,3,4,5,6,7,8,9,10]] [[7,8]]) .nil)) (.node [] [] .nil .nil)) (.node [] [] .nil .nil))))) (retK Tryz.prog [] K) (nth [v0,v1]) w:=by kernel_rfl
theorem S101_ok {v0 v1:Value} {K:Cont} {w:World} (h:S101 v0 v1 K w):callK Tryz.prog 101 [v0,v1] K w:=
 callK_of (P:=Tryz.prog) (ok:=okf) (n:=39) (fn:=Tryz.f101) (c:=bodyOf Tryz.f101) (rs:=[]) (an:=(.node [] [] .nil (.node [] [] .nil (.node [] [] .nil (.node [] [] (.node [] [] (.cut [] [(11,18)] (.node [] [] (.node [] [] (.node [] [] .nil (.node [] [] .nil .nil)) (.node [] [] (.node [] [] .nil (.node [] [] .nil .nil)) (.node [] [] (.node [] [] .nil (.node [] [] .nil .nil)) (.node [] [] .nil (.node [] [] .nil .nil))))) .nil) (.node [] [] (.dc [7,8,11] [[],[],[1],[1,2],[1,2,3],[],[5],[5,6],[1,2,3,4,5,6,7],[0,1,2,3,4,5,6,7,8],[0,1,2,3,4,5,6,7,8,9],[0,1,2,3,4,5,6,7,8,9,10]] [[7,8]]) .nil)) (.node [] [] .nil .nil)) (.node [] [] .nil .nil)))))) good mixed Tryz.func101 (by kernel_rfl) (by kernel_rfl) (by kernel_rfl) (by kernel_rfl) (Eq.mp (S101_eq v0 v1 K w) h)

def S52 (v0:Value) (K:Cont) (w:World):Prop:=
 lenK v0 fun t8=>
 LoopK [(.slice none 0 0),(.int .i64 0)] (fun vs again w1=>∀ _h:Env,
 ltK .i64 (nth vs 1) t8 fun t10=>
 condK t10
 (ixK 1 v0 (nth vs 1) fun t11=>
 ld1K t11 (fun t12 w2=>
 callK Tryz.prog 102 [t12] (fun t14 w3=>
 notK t14 fun t15=>
 condK t15
 (K (.tuple #[(.slice none 0 0),(.int .i64 3)]) w3)
 (callK Tryz.prog 103 [(nth vs 0),t12] (fun t18 w4=>
 addK .i64 (nth vs 1) (.int .i64 1) fun t19=>
 again [t18,t19] w4) w3)) w2) w1)
 (K (.tuple #[(nth vs 0),(.int .i64 0)]) w1)) w
theorem S52_eq (v0:Value) (K:Cont) (w:World):S52 v0 K w=D Tryz.prog okf 21 (bodyOf Tryz.f52) (.node [] [] .nil (.node [] [] .nil (.node [] [] (.node [] [] .nil (.node [4,9] [(2,4),(6,6),(9,19)] (.node [] [] .nil (.node [] [] (.node [] [] .nil .nil) (.node [] [] (.node [] [] .nil (.node [] [] (.node [] [] .nil (.node [] [] (.node [] [] .nil .nil) .nil)) .nil)) .nil))) .nil)) (.node [] [] .nil .nil)))) (retK Tryz.prog [.tmp 2,.tmp 3] K) (nth [v0]) w:=by kernel_rfl
theorem S52_ok {v0:Value} {K:Cont} {w:World} (h:S52 v0 K w):callK Tryz.prog 52 [v0] K w:=
 callK_of (P:=Tryz.prog) (ok:=okf) (n:=21) (fn:=Tryz.f52) (c:=bodyOf Tryz.f52) (rs:=[.tmp 2,.tmp 3]) (an:=(.node [] [] .nil (.node [] [] .nil (.node [] [] (.node [] [] .nil (.node [4,9] [(2,4),(6,6),(9,19)] (.node [] [] .nil (.node [] [] (.node [] [] .nil .nil) (.node [] [] (.node [] [] .nil (.node [] [] (.node [] [] .nil (.node [] [] (.node [] [] .nil .nil) .nil)) .nil)) .nil))) .nil)) (.node [] [] .nil .nil))))) good mixed Tryz.func52 (by kernel_rfl) (by kernel_rfl) (by kernel_rfl) (by kernel_rfl) (Eq.mp (S52_eq v0 K w) h)

def S103 (v0 v1:Value) (K:Cont) (w:World):Prop:=
 runK Tryz.prog (convert 21 132 v1) (fun t6 w1=>
 leK .u32 t6 (.int .u32 127) fun t7=>
 condK t7
 (runK Tryz.prog (convert 21 5 v1) (fun t10 w2=>
 rowK 5 1 1 [(.int .u8 0)] [(0,t10)] (fun t11 w3=>
 runK Tryz.prog (Builtin.append_ #[31,31] 31 [v0,t11].toArray) (fun t12 w4=>
 K t12 w4) w3) w2) w1)
 (callK Tryz.prog 141 [v0,v1] (fun t15 w5=>
 K t15 w5) w1)) w
theorem S103_eq (v0 v1:Value) (K:Cont) (w:World):S103 v0 v1 K w=D Tryz.prog okf 16 (bodyOf Tryz.f103) (.node [] [] .nil (.node [] [] (.node [] [] .nil (.node [] [] (.node [] [] .nil .nil) .nil)) (.node [] [] .nil .nil))) (retK Tryz.prog [.tmp 4] K) (nth [v0,v1]) w:=by kernel_rfl
theorem S103_ok {v0 v1:Value} {K:Cont} {w:World} (h:S103 v0 v1 K w):callK Tryz.prog 103 [v0,v1] K w:=
 callK_of (P:=Tryz.prog) (ok:=okf) (n:=16) (fn:=Tryz.f103) (c:=bodyOf Tryz.f103) (rs:=[.tmp 4]) (an:=(.node [] [] .nil (.node [] [] (.node [] [] .nil (.node [] [] (.node [] [] .nil .nil) .nil)) (.node [] [] .nil .nil)))) good mixed Tryz.func103 (by kernel_rfl) (by kernel_rfl) (by kernel_rfl) (by kernel_rfl) (Eq.mp (S103_eq v0 v1 K w) h)

def S141 (v0 v1:Value) (K:Cont) (w:World):Prop:=
 runK Tryz.prog (convert 21 132 v1) (fun t7 w1=>
 leK .u32 t7 (.int .u32 2047) fun t13=>
 condK t13
 (runK Tryz.prog (binS .shr 21 (.tmp 15) (.const (.int .u64 6)) v1 (.int .u64 6)) (fun t16 w2=>
 runK Tryz.prog (convert 21 5 t16) (fun t17 w3=>
 runK Tryz.prog (binS .or 5 (.const (.int .u8 192)) (.tmp 17) (.int .u8 192) t17) (fun t18 w4=>
 runK Tryz.prog (convert 21 5 v1) (fun t20 w5=>
 runK Tryz.prog (binS .and 5 (.tmp 20) (.const (.int .u8 63)) t20 (.int .u8 63)) (fun t21 w6=>
 runK Tryz.prog (binS .or 5 (.const (.int .u8 128)) (.tmp 21) (.int .u8 128) t21) (fun t22 w7=>
 rowK 5 1 2 [(.int .u8 0)] [(0,t18),(1,t22)] (fun t23 w8=>
 runK Tryz.prog (Builtin.append_ #[31,31] 31 [v0,t23].toArray) (fun t24 w9=>
 K t24 w9) w8) w7) w6) w5) w4) w3) w2) w1)
 (JoinK (fun vs w10=>∀ _h:Env,
 condK (nth vs 0)
 (runK Tryz.prog (binS .shr 21 (.tmp 35) (.const (.int .u64 12)) v1 (.int .u64 12)) (fun t36 w11=>
 runK Tryz.prog (convert 21 5 t36) (fun t37 w12=>
 runK Tryz.prog (binS .or 5 (.const (.int .u8 224)) (.tmp 37) (.int .u8 224) t37) (fun t38 w13=>
 runK Tryz.prog (binS .shr 21 (.tmp 39) (.const (.int .u64 6)) v1 (.int .u64 6)) (fun t40 w14=>
 runK Tryz.prog (convert 21 5 t40) (fun t41 w15=>
 runK Tryz.prog (binS .and 5 (.tmp 41) (.const (.int .u8 63)) t41 (.int .u8 63)) (fun t42 w16=>
 runK Tryz.prog (binS .or 5 (.const (.int .u8 128)) (.tmp 42) (.int .u8 128) t42) (fun t43 w17=>
 runK Tryz.prog (convert 21 5 v1) (fun t45 w18=>
 runK Tryz.prog (binS .and 5 (.tmp 45) (.const (.int .u8 63)) t45 (.int .u8 63)) (fun t46 w19=>
 runK Tryz.prog (binS .or 5 (.const (.int .u8 128)) (.tmp 46) (.int .u8 128) t46) (fun t47 w20=>
 rowK 5 1 3 [(.int .u8 0)] [(0,t38),(1,t43),(2,t47)] (fun t48 w21=>
 runK Tryz.prog (Builtin.append_ #[31,31] 31 [v0,t48].toArray) (fun t49 w22=>
 K t49 w22) w21) w20) w19) w18) w17) w16) w15) w14) w13) w12) w11) w10)
 (JoinK (fun vs_1 w23=>∀ _h_1:Env,
 condK (nth vs_1 0)
 (runK Tryz.prog (binS .shr 21 (.tmp 58) (.const (.int .u64 18)) v1 (.int .u64 18)) (fun t59 w24=>
 runK Tryz.prog (convert 21 5 t59) (fun t60 w25=>
 runK Tryz.prog (binS .or 5 (.const (.int .u8 240)) (.tmp 60) (.int .u8 240) t60) (fun t61 w26=>
 runK Tryz.prog (binS .shr 21 (.tmp 62) (.const (.int .u64 12)) v1 (.int .u64 12)) (fun t63 w27=>
 runK Tryz.prog (convert 21 5 t63) (fun t64 w28=>
 runK Tryz.prog (binS .and 5 (.tmp 64) (.const (.int .u8 63)) t64 (.int .u8 63)) (fun t65 w29=>
 runK Tryz.prog (binS .or 5 (.const (.int .u8 128)) (.tmp 65) (.int .u8 128) t65) (fun t66 w30=>
 runK Tryz.prog (binS .shr 21 (.tmp 67) (.const (.int .u64 6)) v1 (.int .u64 6)) (fun t68 w31=>
 runK Tryz.prog (convert 21 5 t68) (fun t69 w32=>
 runK Tryz.prog (binS .and 5 (.tmp 69) (.const (.int .u8 63)) t69 (.int .u8 63)) (fun t70 w33=>
 runK Tryz.prog (binS .or 5 (.const (.int .u8 128)) (.tmp 70) (.int .u8 128) t70) (fun t71 w34=>
 runK Tryz.prog (convert 21 5 v1) (fun t73 w35=>
 runK Tryz.prog (binS .and 5 (.tmp 73) (.const (.int .u8 63)) t73 (.int .u8 63)) (fun t74 w36=>
 runK Tryz.prog (binS .or 5 (.const (.int .u8 128)) (.tmp 74) (.int .u8 128) t74) (fun t75 w37=>
 rowK 5 1 4 [(.int .u8 0)] [(0,t61),(1,t66),(2,t71),(3,t75)] (fun t76 w38=>
 runK Tryz.prog (Builtin.append_ #[31,31] 31 [v0,t76].toArray) (fun t77 w39=>
 K t77 w39) w38) w37) w36) w35) w34) w33) w32) w31) w30) w29) w28) w27) w26) w25) w24) w23)
 (rowK 5 1 3 [(.int .u8 0)] [(0,(.int .u8 239)),(1,(.int .u8 191)),(2,(.int .u8 189))] (fun t9 w40=>
 runK Tryz.prog (Builtin.append_ #[31,31] 31 [v0,t9].toArray) (fun t10 w41=>
 K t10 w41) w40) w23)) (fun J_1=>
 gtK .u32 t7 (.int .u32 65535) fun t52=>
 condK t52
 (leK .u32 t7 (.int .u32 1114111) fun t55=>
 J_1 [t55] w10)
 (J_1 [(.bool false)] w10)))) (fun J=>
 ltK .u32 t7 (.int .u32 55296) fun t27=>
 condK t27
 (J [t27] w1)
 (ltK .u32 (.int .u32 57343) t7 fun t29=>
 condK t29
 (leK .u32 t7 (.int .u32 65535) fun t32=>
 J [t32] w1)
 (J [(.bool false)] w1))))) w
theorem S141_eq (v0 v1:Value) (K:Cont) (w:World):S141 v0 v1 K w=D Tryz.prog okf 78 (bodyOf Tryz.f141) (.node [] [] .nil (.node [] [] .nil (.node [] [] .nil (.node [] [] (.node [] [] .nil .nil) (.cut [25] [(25,33)] (.node [] [] .nil (.node [] [] .nil .nil)) (.node [] [] (.node [] [] .nil .nil) (.cut [50] [(50,56)] .nil (.node [] [] (.node [] [] .nil .nil) (.node [] [] .nil .nil))))))))) (retK Tryz.prog [.tmp 4] K) (nth [v0,v1]) w:=by kernel_rfl
theorem S141_ok {v0 v1:Value} {K:Cont} {w:World} (h:S141 v0 v1 K w):callK Tryz.prog 141 [v0,v1] K w:=
 callK_of (P:=Tryz.prog) (ok:=okf) (n:=78) (fn:=Tryz.f141) (c:=bodyOf Tryz.f141) (rs:=[.tmp 4]) (an:=(.node [] [] .nil (.node [] [] .nil (.node [] [] .nil (.node [] [] (.node [] [] .nil .nil) (.cut [25] [(25,33)] (.node [] [] .nil (.node [] [] .nil .nil)) (.node [] [] (.node [] [] .nil .nil) (.cut [50] [(50,56)] .nil (.node [] [] (.node [] [] .nil .nil) (.node [] [] .nil .nil)))))))))) good mixed Tryz.func141 (by kernel_rfl) (by kernel_rfl) (by kernel_rfl) (by kernel_rfl) (Eq.mp (S141_eq v0 v1 K w) h)

def S12 (v0 v1:Value) (K:Cont) (w:World):Prop:=
 buildK [(0,1),(1,1),(2,1)] [(.slice none 0 0),(.int .i64 0),(.bool false)] [(0,v1)] fun t10=>
 boxnK 77 t10 (fun t11 w1=>
 callK Tryz.prog 29 [t11,(.func (.func 30) #[t11] #[])] (fun t15 w2=>
 JoinK (fun _vs w3=>∀ _h:Env,
 callK Tryz.prog 19 [v0,t15] (fun t31 w4=>
 eqK .i64 t31 (.int .i64 3) fun t34=>
 condK t34
 (K (.tuple #[(.slice none 0 0),t31]) w4)
 (callK Tryz.prog 31 [t15] (fun t38 w5=>
 notK t38 fun t39=>
 condK t39
 (K (.tuple #[(.slice none 0 0),(.int .i64 3)]) w5)
 (neK .i64 t31 (.int .i64 0) fun t42=>
 condK t42
 (K (.tuple #[(.slice none 0 0),t31]) w5)
 (K (.tuple #[t15,(.int .i64 0)]) w5))) w4)) w3) (fun J=>
 nilckK t11 fun t17=>
 faK 2 t17 fun t18=>
 ld1K t18 (fun t19 w6=>
 condK t19
 (K (.tuple #[(.slice none 0 0),(.int .i64 3)]) w6)
 (nilckK t11 fun t22=>
 faK 1 t22 fun t23=>
 ld1K t23 (fun t24 w7=>
 lenK v1 fun t26=>
 neK .i64 t24 t26 fun t27=>
 condK t27
 (K (.tuple #[(.slice none 0 0),(.int .i64 3)]) w7)
 (J [] w7)) w6)) w2)) w1) w
theorem S12_eq (v0 v1:Value) (K:Cont) (w:World):S12 v0 v1 K w=D Tryz.prog okf 45 (bodyOf Tryz.f12) (.node [] [] .nil (.node [] [] .nil (.node [] [] .nil (.cut [] [(4,5),(16,28)] (.node [] [] .nil (.node [] [] (.node [] [] .nil .nil) .nil)) (.node [] [] (.node [] [] .nil (.node [] [] .nil (.node [] [] (.node [] [] .nil .nil) (.node [] [] .nil (.node [] [] (.node [] [] .nil .nil) (.node [] [] .nil (.node [] [] (.node [] [] .nil .nil) .nil))))))) (.node [] [] .nil .nil)))))) (retK Tryz.prog [.tmp 4,.tmp 5] K) (nth [v0,v1]) w:=by kernel_rfl
theorem S12_ok {v0 v1:Value} {K:Cont} {w:World} (h:S12 v0 v1 K w):callK Tryz.prog 12 [v0,v1] K w:=
 callK_of (P:=Tryz.prog) (ok:=okf) (n:=45) (fn:=Tryz.f12) (c:=bodyOf Tryz.f12) (rs:=[.tmp 4,.tmp 5]) (an:=(.node [] [] .nil (.node [] [] .nil (.node [] [] .nil (.cut [] [(4,5),(16,28)] (.node [] [] .nil (.node [] [] (.node [] [] .nil .nil) .nil)) (.node [] [] (.node [] [] .nil (.node [] [] .nil (.node [] [] (.node [] [] .nil .nil) (.node [] [] .nil (.node [] [] (.node [] [] .nil .nil) (.node [] [] .nil (.node [] [] (.node [] [] .nil .nil) .nil))))))) (.node [] [] .nil .nil))))))) good mixed Tryz.func12 (by kernel_rfl) (by kernel_rfl) (by kernel_rfl) (by kernel_rfl) (Eq.mp (S12_eq v0 v1 K w) h)

def S29 (v0 v1:Value) (K:Cont) (w:World):Prop:=
 nilckK v0 fun t8=>
 faK 0 t8 fun t9=>
 ld1K t9 (fun t10 w1=>
 lenK t10 fun t11=>
 runK Tryz.prog (convert 3 57 t11) (fun t12 w2=>
 callK Tryz.prog 64 [v0,t12] (fun t13 w3=>
 LoopK [(.slice none 0 0),t13] (fun vs again w4=>∀ _h:Env,
 JoinK (fun _vs_1 w5=>∀ _h_1:Env,
 callyK Tryz.prog okf v1 [] (fun t27 w6=>
 rowK 56 5 1 [(.int .u8 0),(.int .i64 0),(.slice none 0 0),(.slice none 0 0),(.slice none 0 0)] [(0,t27)] (fun t28 w7=>
 runK Tryz.prog (Builtin.append_ #[23,23] 23 [(nth vs 0),t28].toArray) (fun t29 w8=>
 subK .u64 (nth vs 1) (.int .u64 1) fun t24=>
 again [t29,t24] w8) w7) w6) w5) (fun J=>
 gtK .u64 (nth vs 1) (.int .u64 0) fun t15=>
 condK t15
 (nilckK v0 fun t18=>
 faK 2 t18 fun t19=>
 ld1K t19 (fun t20 w9=>
 notK t20 fun t21=>
 condK t21
 (J [] w9)
 (K (nth vs 0) w9)) w4)
 (K (nth vs 0) w4))) w3) w2) w1) w
theorem S29_eq (v0 v1:Value) (K:Cont) (w:World):S29 v0 v1 K w=D Tryz.prog okf 31 (bodyOf Tryz.f29) (.node [] [] .nil (.node [] [] .nil (.node [] [] (.node [4,5] [(4,5),(14,29)] (.cut [] [(14,22)] (.node [] [] .nil (.node [] [] .nil .nil)) (.node [] [] .nil .nil)) .nil) (.node [] [] .nil .nil)))) (retK Tryz.prog [.tmp 4] K) (nth [v0,v1]) w:=by kernel_rfl
theorem S29_ok {v0 v1:Value} {K:Cont} {w:World} (h:S29 v0 v1 K w):callK Tryz.prog 29 [v0,v1] K w:=
 callK_of (P:=Tryz.prog) (ok:=okf) (n:=31) (fn:=Tryz.f29) (c:=bodyOf Tryz.f29) (rs:=[.tmp 4]) (an:=(.node [] [] .nil (.node [] [] .nil (.node [] [] (.node [4,5] [(4,5),(14,29)] (.cut [] [(14,22)] (.node [] [] .nil (.node [] [] .nil .nil)) (.node [] [] .nil .nil)) .nil) (.node [] [] .nil .nil))))) good mixed Tryz.func29 (by kernel_rfl) (by kernel_rfl) (by kernel_rfl) (by kernel_rfl) (Eq.mp (S29_eq v0 v1 K w) h)

def S66 (v0 v1:Value) (K:Cont) (w:World):Prop:=
 nilckK v0 fun t8=>
 faK 0 t8 fun t9=>
 ld1K t9 (fun t10 w1=>
 lenK t10 fun t11=>
 runK Tryz.prog (convert 3 57 t11) (fun t12 w2=>
 callK Tryz.prog 64 [v0,t12] (fun t13 w3=>
 LoopK [(.slice none 0 0),t13] (fun vs again w4=>∀ _h:Env,
 JoinK (fun _vs_1 w5=>∀ _h_1:Env,
 callyK Tryz.prog okf v1 [] (fun t27 w6=>
 rowK 63 6 1 [(.int .i64 0),(.bool false),(.int .u8 0),(.int .i64 0),(.int .u64 0),(.string (ByteArray.mk #[]))] [(0,t27)] (fun t28 w7=>
 runK Tryz.prog (Builtin.append_ #[54,54] 54 [(nth vs 0),t28].toArray) (fun t29 w8=>
 subK .u64 (nth vs 1) (.int .u64 1) fun t24=>
 again [t29,t24] w8) w7) w6) w5) (fun J=>
 gtK .u64 (nth vs 1) (.int .u64 0) fun t15=>
 condK t15
 (nilckK v0 fun t18=>
 faK 2 t18 fun t19=>
 ld1K t19 (fun t20 w9=>
 notK t20 fun t21=>
 condK t21
 (J [] w9)
 (K (nth vs 0) w9)) w4)
 (K (nth vs 0) w4))) w3) w2) w1) w
theorem S66_eq (v0 v1:Value) (K:Cont) (w:World):S66 v0 v1 K w=D Tryz.prog okf 31 (bodyOf Tryz.f66) (.node [] [] .nil (.node [] [] .nil (.node [] [] (.node [4,5] [(4,5),(14,29)] (.cut [] [(14,22)] (.node [] [] .nil (.node [] [] .nil .nil)) (.node [] [] .nil .nil)) .nil) (.node [] [] .nil .nil)))) (retK Tryz.prog [.tmp 4] K) (nth [v0,v1]) w:=by kernel_rfl
theorem S66_ok {v0 v1:Value} {K:Cont} {w:World} (h:S66 v0 v1 K w):callK Tryz.prog 66 [v0,v1] K w:=
 callK_of (P:=Tryz.prog) (ok:=okf) (n:=31) (fn:=Tryz.f66) (c:=bodyOf Tryz.f66) (rs:=[.tmp 4]) (an:=(.node [] [] .nil (.node [] [] .nil (.node [] [] (.node [4,5] [(4,5),(14,29)] (.cut [] [(14,22)] (.node [] [] .nil (.node [] [] .nil .nil)) (.node [] [] .nil .nil)) .nil) (.node [] [] .nil .nil))))) good mixed Tryz.func66 (by kernel_rfl) (by kernel_rfl) (by kernel_rfl) (by kernel_rfl) (Eq.mp (S66_eq v0 v1 K w) h)

def S70 (v0 v1:Value) (K:Cont) (w:World):Prop:=
 nilckK v0 fun t8=>
 faK 0 t8 fun t9=>
 ld1K t9 (fun t10 w1=>
 lenK t10 fun t11=>
 runK Tryz.prog (convert 3 57 t11) (fun t12 w2=>
 callK Tryz.prog 64 [v0,t12] (fun t13 w3=>
 LoopK [(.slice none 0 0),t13] (fun vs again w4=>∀ _h:Env,
 JoinK (fun _vs_1 w5=>∀ _h_1:Env,
 callyK Tryz.prog okf v1 [] (fun t27 w6=>
 rowK 61 5 1 [(.int .i64 0),(.int .u8 0),(.int .i64 0),(.int .u64 0),(.string (ByteArray.mk #[]))] [(0,t27)] (fun t28 w7=>
 runK Tryz.prog (Builtin.append_ #[53,53] 53 [(nth vs 0),t28].toArray) (fun t29 w8=>
 subK .u64 (nth vs 1) (.int .u64 1) fun t24=>
 again [t29,t24] w8) w7) w6) w5) (fun J=>
 gtK .u64 (nth vs 1) (.int .u64 0) fun t15=>
 condK t15
 (nilckK v0 fun t18=>
 faK 2 t18 fun t19=>
 ld1K t19 (fun t20 w9=>
 notK t20 fun t21=>
 condK t21
 (J [] w9)
 (K (nth vs 0) w9)) w4)
 (K (nth vs 0) w4))) w3) w2) w1) w
theorem S70_eq (v0 v1:Value) (K:Cont) (w:World):S70 v0 v1 K w=D Tryz.prog okf 31 (bodyOf Tryz.f70) (.node [] [] .nil (.node [] [] .nil (.node [] [] (.node [4,5] [(4,5),(14,29)] (.cut [] [(14,22)] (.node [] [] .nil (.node [] [] .nil .nil)) (.node [] [] .nil .nil)) .nil) (.node [] [] .nil .nil)))) (retK Tryz.prog [.tmp 4] K) (nth [v0,v1]) w:=by kernel_rfl
theorem S70_ok {v0 v1:Value} {K:Cont} {w:World} (h:S70 v0 v1 K w):callK Tryz.prog 70 [v0,v1] K w:=
 callK_of (P:=Tryz.prog) (ok:=okf) (n:=31) (fn:=Tryz.f70) (c:=bodyOf Tryz.f70) (rs:=[.tmp 4]) (an:=(.node [] [] .nil (.node [] [] .nil (.node [] [] (.node [4,5] [(4,5),(14,29)] (.cut [] [(14,22)] (.node [] [] .nil (.node [] [] .nil .nil)) (.node [] [] .nil .nil)) .nil) (.node [] [] .nil .nil))))) good mixed Tryz.func70 (by kernel_rfl) (by kernel_rfl) (by kernel_rfl) (by kernel_rfl) (Eq.mp (S70_eq v0 v1 K w) h)

def S30 (v0:Value) (K:Cont) (w:World):Prop:=
 newK 56 [(.int .u8 0),(.int .i64 0),(.slice none 0 0),(.slice none 0 0),(.slice none 0 0)] (fun t2 w1=>
 callK Tryz.prog 64 [v0,(.int .u64 255)] (fun t7 w2=>
 runK Tryz.prog (convert 57 5 t7) (fun t8 w3=>
 buildK [(0,1),(1,1),(2,1),(3,1),(4,1)] [(.int .u8 0),(.int .i64 0),(.slice none 0 0),(.slice none 0 0),(.slice none 0 0)] [(0,t8)] fun t9=>
 newK 56 [(.int .u8 0),(.int .i64 0),(.slice none 0 0),(.slice none 0 0),(.slice none 0 0)] (fun t3 w4=>
 stnK 5 t3 t9 (fun w5=>
 JoinK (fun _vs w6=>∀ _h:Env,
 ldnK 5 t3 (fun t50 w7=>
 stnK 5 t2 t50 (fun w8=>
 ldnK 5 t2 (fun r0 w9=>
 K r0 w9) w8) w7) w6) (fun J=>
 faK 0 t3 fun t10=>
 ld1K t10 (fun t11 w10=>
 eqK .u8 t11 (.int .u8 1) fun t16=>
 condK t16
 (callK Tryz.prog 65 [v0] (fun t18 w11=>
 faK 1 t3 fun t19=>
 st1K t19 t18 (fun w12=>
 callK Tryz.prog 66 [v0,(.func (.func 67) #[v0] #[])] (fun t23 w13=>
 faK 4 t3 fun t24=>
 st1K t24 t23 (fun w14=>
 J [] w14) w13) w12) w11) w10)
 (eqK .u8 t11 (.int .u8 2) fun t26=>
 condK t26
 (callK Tryz.prog 69 [v0] (fun t29 w15=>
 callK Tryz.prog 68 [t29] (fun t30 w16=>
 extK 0 t30 fun t31=>
 extK 1 t30 fun t32=>
 JoinK (fun _vs_1 w17=>∀ _h_1:Env,
 callK Tryz.prog 70 [v0,(.func (.func 71) #[v0] #[])] (fun t42 w18=>
 faK 2 t3 fun t43=>
 st1K t43 t31 (fun w19=>
 faK 3 t3 fun t44=>
 st1K t44 t42 (fun w20=>
 J [] w20) w19) w18) w17) (fun J_1=>
 neK .i64 t32 (.int .i64 0) fun t34=>
 condK t34
 (nilckK v0 fun t36=>
 faK 2 t36 fun t37=>
 st1K t37 (.bool true) (fun w21=>
 J_1 [] w21) w16)
 (J_1 [] w16))) w15) w10)
 (eqK .u8 t11 (.int .u8 3) fun t46=>
 condK t46
 (callK Tryz.prog 65 [v0] (fun t48 w22=>
 faK 1 t3 fun t49=>
 st1K t49 t48 (fun w23=>
 J [] w23) w22) w10)
 (nilckK v0 fun t13=>
 faK 2 t13 fun t14=>
 st1K t14 (.bool true) (fun w24=>
 J [] w24) w10)))) w5)) w4) w3) w2) w1) w
theorem S30_eq (v0:Value) (K:Cont) (w:World):S30 v0 K w=D Tryz.prog okf 51 (bodyOf Tryz.f30) (.node [] [] .nil (.node [] [] .nil (.cut [] [(4,5),(10,49)] (.node [] [] .nil (.node [] [] .nil (.node [] [] (.node [] [] .nil .nil) (.node [] [] .nil (.node [] [] (.node [] [] .nil (.cut [] [(33,37)] (.node [] [] .nil (.node [] [] .nil .nil)) .nil)) (.node [] [] .nil (.node [] [] .nil .nil))))))) (.node [] [] .nil .nil)))) (retK Tryz.prog [.cell 2 56] K) (nth [v0]) w:=by kernel_rfl
theorem S30_ok {v0:Value} {K:Cont} {w:World} (h:S30 v0 K w):callK Tryz.prog 30 [v0] K w:=
 callK_of (P:=Tryz.prog) (ok:=okf) (n:=51) (fn:=Tryz.f30) (c:=bodyOf Tryz.f30) (rs:=[.cell 2 56]) (an:=(.node [] [] .nil (.node [] [] .nil (.cut [] [(4,5),(10,49)] (.node [] [] .nil (.node [] [] .nil (.node [] [] (.node [] [] .nil .nil) (.node [] [] .nil (.node [] [] (.node [] [] .nil (.cut [] [(33,37)] (.node [] [] .nil (.node [] [] .nil .nil)) .nil)) (.node [] [] .nil (.node [] [] .nil .nil))))))) (.node [] [] .nil .nil))))) good mixed Tryz.func30 (by kernel_rfl) (by kernel_rfl) (by kernel_rfl) (by kernel_rfl) (Eq.mp (S30_eq v0 K w) h)

def S67 (v0:Value) (K:Cont) (w:World):Prop:=
 newK 63 [(.int .i64 0),(.bool false),(.int .u8 0),(.int .i64 0),(.int .u64 0),(.string (ByteArray.mk #[]))] (fun t2 w1=>
 callK Tryz.prog 116 [v0] (fun t6 w2=>
 callK Tryz.prog 64 [v0,(.int .u64 255)] (fun t8 w3=>
 runK Tryz.prog (convert 57 5 t8) (fun t9 w4=>
 eqK .u8 t9 (.int .u8 0) fun t11=>
 condK t11
 (buildK [(0,1),(1,1),(2,4)] [(.int .i64 0),(.bool false),(.int .u8 0),(.int .i64 0),(.int .u64 0),(.string (ByteArray.mk #[]))] [(0,t6),(1,(.bool true))] fun t13=>
 stnK 6 t2 t13 (fun w5=>
 ldnK 6 t2 (fun r0 w6=>
 K r0 w6) w5) w4)
 (callK Tryz.prog 117 [v0,t9] (fun t17 w7=>
 buildK [(0,1),(1,1),(2,4)] [(.int .i64 0),(.bool false),(.int .u8 0),(.int .i64 0),(.int .u64 0),(.string (ByteArray.mk #[]))] [(0,t6),(2,t17)] fun t18=>
 stnK 6 t2 t18 (fun w8=>
 ldnK 6 t2 (fun r0_1 w9=>
 K r0_1 w9) w8) w7) w4)) w3) w2) w1) w
theorem S67_eq (v0:Value) (K:Cont) (w:World):S67 v0 K w=D Tryz.prog okf 19 (bodyOf Tryz.f67) (.node [] [] .nil (.node [] [] .nil (.node [] [] .nil (.node [] [] (.node [] [] .nil (.node [] [] (.node [] [] .nil .nil) .nil)) (.node [] [] .nil .nil))))) (retK Tryz.prog [.cell 2 63] K) (nth [v0]) w:=by kernel_rfl
theorem S67_ok {v0:Value} {K:Cont} {w:World} (h:S67 v0 K w):callK Tryz.prog 67 [v0] K w:=
 callK_of (P:=Tryz.prog) (ok:=okf) (n:=19) (fn:=Tryz.f67) (c:=bodyOf Tryz.f67) (rs:=[.cell 2 63]) (an:=(.node [] [] .nil (.node [] [] .nil (.node [] [] .nil (.node [] [] (.node [] [] .nil (.node [] [] (.node [] [] .nil .nil) .nil)) (.node [] [] .nil .nil)))))) good mixed Tryz.func67 (by kernel_rfl) (by kernel_rfl) (by kernel_rfl) (by kernel_rfl) (Eq.mp (S67_eq v0 K w) h)

def S71 (v0:Value) (K:Cont) (w:World):Prop:=
 newK 61 [(.int .i64 0),(.int .u8 0),(.int .i64 0),(.int .u64 0),(.string (ByteArray.mk #[]))] (fun t2 w1=>
 callK Tryz.prog 116 [v0] (fun t5 w2=>
 callK Tryz.prog 64 [v0,(.int .u64 255)] (fun t9 w3=>
 runK Tryz.prog (convert 57 5 t9) (fun t10 w4=>
 callK Tryz.prog 117 [v0,t10] (fun t11 w5=>
 buildK [(0,1),(1,4)] [(.int .i64 0),(.int .u8 0),(.int .i64 0),(.int .u64 0),(.string (ByteArray.mk #[]))] [(0,t5),(1,t11)] fun t12=>
 stnK 5 t2 t12 (fun w6=>
 ldnK 5 t2 (fun r0 w7=>
 K r0 w7) w6) w5) w4) w3) w2) w1) w
theorem S71_eq (v0:Value) (K:Cont) (w:World):S71 v0 K w=D Tryz.prog okf 13 (bodyOf Tryz.f71) (.node [] [] .nil (.node [] [] .nil (.node [] [] .nil .nil))) (retK Tryz.prog [.cell 2 61] K) (nth [v0]) w:=by kernel_rfl
theorem S71_ok {v0:Value} {K:Cont} {w:World} (h:S71 v0 K w):callK Tryz.prog 71 [v0] K w:=
 callK_of (P:=Tryz.prog) (ok:=okf) (n:=13) (fn:=Tryz.f71) (c:=bodyOf Tryz.f71) (rs:=[.cell 2 61]) (an:=(.node [] [] .nil (.node [] [] .nil (.node [] [] .nil .nil)))) good mixed Tryz.func71 (by kernel_rfl) (by kernel_rfl) (by kernel_rfl) (by kernel_rfl) (Eq.mp (S71_eq v0 K w) h)

def S64 (v0 v1:Value) (K:Cont) (w:World):Prop:=
 DrawC [8] [[],[0],[0,1],[0,1,2],[],[4],[4,5],[4,5,6],[0,1,2,3,4,5,6,7],[0,1,2,3,4,5,6,7,8],[0,1,2,3,4,5,6,7,8,9],[0,1,2,3,4,5,6,7,8,9],[0,1,2,3,4,5,6,7,8,9],[0,1,2,3,4,5,6,7,8,9,10],[0,1,2,3,4,5,6,7,8,9,10,11,13],[0,1,2,3,4,5,6,7,8,9,10,11,12,13,14]] w.drew (fun M St=>
 nilckK v0 fun t10=>
 faK 0 t10 fun t11=>
 sld1 (St 3) t11 fun t12=>
 nilckK v0 fun t14=>
 faK 1 t14 fun t15=>
 sld1 (St 7) t15 fun t16=>
 callK Tryz.prog 115 [t12,t16] (fun t17 w1=>
 Mod (M 8) w.drew w1∧
 extK 0 t17 fun t18=>
 extK 1 t17 fun t19=>
 extK 2 t17 fun t20=>
 JoinK (fun _vs w2=>∀ _h:Env,
 nilckK v0 fun t33=>
 faK 1 t33 fun t34=>
 st1K t34 t19 (fun w3=>
 K t18 w3) w2) (fun J=>
 neK .i64 t20 (.int .i64 0) fun t22=>
 condK t22
 (nilckK v0 fun t29=>
 faK 2 t29 fun t30=>
 st1K t30 (.bool true) (fun w4=>
 K (.int .u64 0) w4) w1)
 (gtK .u64 t18 v1 fun t26=>
 condK t26
 (nilckK v0 fun t29_1=>
 faK 2 t29_1 fun t30_1=>
 st1K t30_1 (.bool true) (fun w5=>
 K (.int .u64 0) w5) w1)
 (J [] w1)))) w.drew)
theorem S64_eq (v0 v1:Value) (K:Cont) (w:World):S64 v0 v1 K w=D Tryz.prog okf 36 (bodyOf Tryz.f64) (.node [] [] .nil (.node [] [] (.dc [8] [[],[0],[0,1],[0,1,2],[],[4],[4,5],[4,5,6],[0,1,2,3,4,5,6,7],[0,1,2,3,4,5,6,7,8],[0,1,2,3,4,5,6,7,8,9],[0,1,2,3,4,5,6,7,8,9],[0,1,2,3,4,5,6,7,8,9],[0,1,2,3,4,5,6,7,8,9,10],[0,1,2,3,4,5,6,7,8,9,10,11,13],[0,1,2,3,4,5,6,7,8,9,10,11,12,13,14]] []) (.cut [] [(4,4),(21,30)] (.node [] [] .nil (.node [] [] (.node [] [] .nil (.node [] [] .nil .nil)) .nil)) (.node [] [] .nil (.node [] [] .nil .nil))))) (retK Tryz.prog [.tmp 4] K) (nth [v0,v1]) w:=by kernel_rfl
theorem S64_ok {v0 v1:Value} {K:Cont} {w:World} (h:S64 v0 v1 K w):callK Tryz.prog 64 [v0,v1] K w:=
 callK_of (P:=Tryz.prog) (ok:=okf) (n:=36) (fn:=Tryz.f64) (c:=bodyOf Tryz.f64) (rs:=[.tmp 4]) (an:=(.node [] [] .nil (.node [] [] (.dc [8] [[],[0],[0,1],[0,1,2],[],[4],[4,5],[4,5,6],[0,1,2,3,4,5,6,7],[0,1,2,3,4,5,6,7,8],[0,1,2,3,4,5,6,7,8,9],[0,1,2,3,4,5,6,7,8,9],[0,1,2,3,4,5,6,7,8,9],[0,1,2,3,4,5,6,7,8,9,10],[0,1,2,3,4,5,6,7,8,9,10,11,13],[0,1,2,3,4,5,6,7,8,9,10,11,12,13,14]] []) (.cut [] [(4,4),(21,30)] (.node [] [] .nil (.node [] [] (.node [] [] .nil (.node [] [] .nil .nil)) .nil)) (.node [] [] .nil (.node [] [] .nil .nil)))))) good mixed Tryz.func64 (by kernel_rfl) (by kernel_rfl) (by kernel_rfl) (by kernel_rfl) (Eq.mp (S64_eq v0 v1 K w) h)

def S65 (v0:Value) (K:Cont) (w:World):Prop:=
 callK Tryz.prog 64 [v0,(.int .u64 536870912)] (fun t4 w1=>
 runK Tryz.prog (convert 57 3 t4) (fun t5 w2=>
 K t5 w2) w1) w
theorem S65_eq (v0:Value) (K:Cont) (w:World):S65 v0 K w=D Tryz.prog okf 6 (bodyOf Tryz.f65) (.node [] [] .nil (.node [] [] .nil .nil)) (retK Tryz.prog [.tmp 2] K) (nth [v0]) w:=by kernel_rfl
theorem S65_ok {v0:Value} {K:Cont} {w:World} (h:S65 v0 K w):callK Tryz.prog 65 [v0] K w:=
 callK_of (P:=Tryz.prog) (ok:=okf) (n:=6) (fn:=Tryz.f65) (c:=bodyOf Tryz.f65) (rs:=[.tmp 2]) (an:=(.node [] [] .nil (.node [] [] .nil .nil))) good mixed Tryz.func65 (by kernel_rfl) (by kernel_rfl) (by kernel_rfl) (by kernel_rfl) (Eq.mp (S65_eq v0 K w) h)

def S116 (v0:Value) (K:Cont) (w:World):Prop:=
 callK Tryz.prog 64 [v0,(.int .u64 9223372036854775807)] (fun t4 w1=>
 runK Tryz.prog (convert 57 3 t4) (fun t5 w2=>
 K t5 w2) w1) w
theorem S116_eq (v0:Value) (K:Cont) (w:World):S116 v0 K w=D Tryz.prog okf 6 (bodyOf Tryz.f116) (.node [] [] .nil (.node [] [] .nil .nil)) (retK Tryz.prog [.tmp 2] K) (nth [v0]) w:=by kernel_rfl
theorem S116_ok {v0:Value} {K:Cont} {w:World} (h:S116 v0 K w):callK Tryz.prog 116 [v0] K w:=
 callK_of (P:=Tryz.prog) (ok:=okf) (n:=6) (fn:=Tryz.f116) (c:=bodyOf Tryz.f116) (rs:=[.tmp 2]) (an:=(.node [] [] .nil (.node [] [] .nil .nil))) good mixed Tryz.func116 (by kernel_rfl) (by kernel_rfl) (by kernel_rfl) (by kernel_rfl) (Eq.mp (S116_eq v0 K w) h)

def S69 (v0:Value) (K:Cont) (w:World):Prop:=
 DrawC [13] [[],[0],[0,1],[0,1,2],[],[4],[4,5],[4,5,6],[],[8],[8,9],[8,9,10],[8,9,10,11],[0,1,2,3,4,5,6,7,8,9,10,11,12],[0,1,2,3,4,5,6,7,8,9,10,11,12,13],[0,1,2,3,4,5,6,7,8,9,10,11,12,13,14],[0,1,2,3,4,5,6,7,8,9,10,11,12,13,14],[0,1,2,3,4,5,6,7,8,9,10,11,12,13,14],[0,1,2,3,4,5,6,7,8,9,10,11,12,13,14,15],[0,1,2,3,4,5,6,7,8,9,10,11,12,13,14,15,16,18],[0,1,2,3,4,5,6,7,8,9,10,11,12,13,14,15,16,17,18,19]] w.drew (fun M St=>
 nilckK v0 fun t8=>
 faK 0 t8 fun t9=>
 sld1 (St 3) t9 fun t10=>
 nilckK v0 fun t12=>
 faK 1 t12 fun t13=>
 sld1 (St 7) t13 fun t14=>
 nilckK v0 fun t16=>
 faK 0 t16 fun t17=>
 sld1 (St 11) t17 fun t18=>
 lenK t18 fun t19=>
 callK Tryz.prog 119 [t10,t14,t19] (fun t20 w1=>
 Mod (M 13) w.drew w1∧
 extK 0 t20 fun t21=>
 extK 1 t20 fun t22=>
 extK 2 t20 fun t23=>
 neK .i64 t23 (.int .i64 0) fun t25=>
 condK t25
 (nilckK v0 fun t27=>
 faK 2 t27 fun t28=>
 st1K t28 (.bool true) (fun w2=>
 K (.slice none 0 0) w2) w1)
 (nilckK v0 fun t31=>
 faK 1 t31 fun t32=>
 st1K t32 t22 (fun w3=>
 K t21 w3) w1)) w.drew)
theorem S69_eq (v0:Value) (K:Cont) (w:World):S69 v0 K w=D Tryz.prog okf 34 (bodyOf Tryz.f69) (.node [] [] .nil (.node [] [] (.dc [13] [[],[0],[0,1],[0,1,2],[],[4],[4,5],[4,5,6],[],[8],[8,9],[8,9,10],[8,9,10,11],[0,1,2,3,4,5,6,7,8,9,10,11,12],[0,1,2,3,4,5,6,7,8,9,10,11,12,13],[0,1,2,3,4,5,6,7,8,9,10,11,12,13,14],[0,1,2,3,4,5,6,7,8,9,10,11,12,13,14],[0,1,2,3,4,5,6,7,8,9,10,11,12,13,14],[0,1,2,3,4,5,6,7,8,9,10,11,12,13,14,15],[0,1,2,3,4,5,6,7,8,9,10,11,12,13,14,15,16,18],[0,1,2,3,4,5,6,7,8,9,10,11,12,13,14,15,16,17,18,19]] []) (.node [] [] (.node [] [] .nil (.node [] [] (.node [] [] .nil (.node [] [] .nil .nil)) .nil)) (.node [] [] .nil (.node [] [] .nil .nil))))) (retK Tryz.prog [.tmp 2] K) (nth [v0]) w:=by kernel_rfl
theorem S69_ok {v0:Value} {K:Cont} {w:World} (h:S69 v0 K w):callK Tryz.prog 69 [v0] K w:=
 callK_of (P:=Tryz.prog) (ok:=okf) (n:=34) (fn:=Tryz.f69) (c:=bodyOf Tryz.f69) (rs:=[.tmp 2]) (an:=(.node [] [] .nil (.node [] [] (.dc [13] [[],[0],[0,1],[0,1,2],[],[4],[4,5],[4,5,6],[],[8],[8,9],[8,9,10],[8,9,10,11],[0,1,2,3,4,5,6,7,8,9,10,11,12],[0,1,2,3,4,5,6,7,8,9,10,11,12,13],[0,1,2,3,4,5,6,7,8,9,10,11,12,13,14],[0,1,2,3,4,5,6,7,8,9,10,11,12,13,14],[0,1,2,3,4,5,6,7,8,9,10,11,12,13,14],[0,1,2,3,4,5,6,7,8,9,10,11,12,13,14,15],[0,1,2,3,4,5,6,7,8,9,10,11,12,13,14,15,16,18],[0,1,2,3,4,5,6,7,8,9,10,11,12,13,14,15,16,17,18,19]] []) (.node [] [] (.node [] [] .nil (.node [] [] (.node [] [] .nil (.node [] [] .nil .nil)) .nil)) (.node [] [] .nil (.node [] [] .nil .nil)))))) good mixed Tryz.func69 (by kernel_rfl) (by kernel_rfl) (by kernel_rfl) (by kernel_rfl) (Eq.mp (S69_eq v0 K w) h)

def S117 (v0 v1:Value) (K:Cont) (w:World):Prop:=
 newK 59 [(.int .u8 0),(.int .i64 0),(.int .u64 0),(.string (ByteArray.mk #[]))] (fun t4 w1=>
 faK 0 t4 fun t9=>
 st1K t9 v1 (fun w2=>
 JoinK (fun _vs w3=>∀ _h:Env,
 ldnK 4 t4 (fun t54 w4=>
 stnK 4 t4 t54 (fun w5=>
 ldnK 4 t4 (fun r0 w6=>
 K r0 w6) w5) w4) w3) (fun J=>
 JoinK (fun _vs_1 w7=>∀ _h_1:Env,
 DrawC [8] [[],[0],[0,1],[0,1,2],[],[4],[4,5],[4,5,6],[0,1,2,3,4,5,6,7],[0,1,2,3,4,5,6,7,8],[0,1,2,3,4,5,6,7,8,9],[0,1,2,3,4,5,6,7,8,9],[0,1,2,3,4,5,6,7,8,9],[0,1,2,3,4,5,6,7,8,9,10],[0,1,2,3,4,5,6,7,8,9,10,11,13],[0,1,2,3,4,5,6,7,8,9,10,11,12,13,14]] w7.drew (fun M St=>
 nilckK v0 fun t21=>
 faK 0 t21 fun t22=>
 sld1 (St 3) t22 fun t23=>
 nilckK v0 fun t25=>
 faK 1 t25 fun t26=>
 sld1 (St 7) t26 fun t27=>
 callK Tryz.prog 144 [t23,t27] (fun t28 w8=>
 Mod (M 8) w7.drew w8∧
 extK 0 t28 fun t29=>
 extK 1 t28 fun t30=>
 extK 2 t28 fun t31=>
 neK .i64 t31 (.int .i64 0) fun t33=>
 condK t33
 (nilckK v0 fun t35=>
 faK 2 t35 fun t36=>
 st1K t36 (.bool true) (fun w9=>
 ldnK 4 t4 (fun t37 w10=>
 stnK 4 t4 t37 (fun w11=>
 ldnK 4 t4 (fun r0_1 w12=>
 K r0_1 w12) w11) w10) w9) w8)
 (faK 1 t4 fun t41=>
 st1K t41 t29 (fun w13=>
 nilckK v0 fun t42=>
 faK 1 t42 fun t43=>
 st1K t43 t30 (fun w14=>
 J [] w14) w13) w8)) w7.drew)) (fun J_1=>
 eqK .u8 v1 (.int .u8 1) fun t12=>
 condK t12
 (J_1 [] w2)
 (eqK .u8 v1 (.int .u8 2) fun t14=>
 condK t14
 (J_1 [] w2)
 (eqK .u8 v1 (.int .u8 3) fun t16=>
 condK t16
 (callK Tryz.prog 64 [v0,(.int .u64 18446744073709551615)] (fun t45 w15=>
 faK 2 t4 fun t46=>
 st1K t46 t45 (fun w16=>
 J [] w16) w15) w2)
 (eqK .u8 v1 (.int .u8 4) fun t18=>
 condK t18
 (callK Tryz.prog 69 [v0] (fun t48 w17=>
 runK Tryz.prog (convert 31 9 t48) (fun t49 w18=>
 faK 3 t4 fun t50=>
 st1K t50 t49 (fun w19=>
 J [] w19) w18) w17) w2)
 (nilckK v0 fun t52=>
 faK 2 t52 fun t53=>
 st1K t53 (.bool true) (fun w20=>
 J [] w20) w2))))))) w1) w
theorem S117_eq (v0 v1:Value) (K:Cont) (w:World):S117 v0 v1 K w=D Tryz.prog okf 55 (bodyOf Tryz.f117) (.node [] [] .nil (.node [] [] .nil (.cut [] [(5,7),(10,53)] (.node [] [] .nil (.node [] [] (.node [] [] (.node [] [] (.cut [] [(11,18)] (.node [] [] (.node [] [] (.node [] [] .nil (.node [] [] .nil .nil)) (.node [] [] (.node [] [] .nil (.node [] [] .nil .nil)) (.node [] [] (.node [] [] .nil (.node [] [] .nil .nil)) (.node [] [] .nil (.node [] [] .nil .nil))))) .nil) (.node [] [] (.node [] [] (.dc [8] [[],[0],[0,1],[0,1,2],[],[4],[4,5],[4,5,6],[0,1,2,3,4,5,6,7],[0,1,2,3,4,5,6,7,8],[0,1,2,3,4,5,6,7,8,9],[0,1,2,3,4,5,6,7,8,9],[0,1,2,3,4,5,6,7,8,9],[0,1,2,3,4,5,6,7,8,9,10],[0,1,2,3,4,5,6,7,8,9,10,11,13],[0,1,2,3,4,5,6,7,8,9,10,11,12,13,14]] []) (.node [] [] (.node [] [] .nil (.node [] [] (.node [] [] .nil (.node [] [] .nil .nil)) .nil)) .nil)) .nil)) (.node [] [] .nil .nil)) (.node [] [] .nil .nil)) (.node [] [] .nil .nil))) (.node [] [] .nil .nil)))) (retK Tryz.prog [.cell 4 59] K) (nth [v0,v1]) w:=by kernel_rfl
theorem S117_ok {v0 v1:Value} {K:Cont} {w:World} (h:S117 v0 v1 K w):callK Tryz.prog 117 [v0,v1] K w:=
 callK_of (P:=Tryz.prog) (ok:=okf) (n:=55) (fn:=Tryz.f117) (c:=bodyOf Tryz.f117) (rs:=[.cell 4 59]) (an:=(.node [] [] .nil (.node [] [] .nil (.cut [] [(5,7),(10,53)] (.node [] [] .nil (.node [] [] (.node [] [] (.node [] [] (.cut [] [(11,18)] (.node [] [] (.node [] [] (.node [] [] .nil (.node [] [] .nil .nil)) (.node [] [] (.node [] [] .nil (.node [] [] .nil .nil)) (.node [] [] (.node [] [] .nil (.node [] [] .nil .nil)) (.node [] [] .nil (.node [] [] .nil .nil))))) .nil) (.node [] [] (.node [] [] (.dc [8] [[],[0],[0,1],[0,1,2],[],[4],[4,5],[4,5,6],[0,1,2,3,4,5,6,7],[0,1,2,3,4,5,6,7,8],[0,1,2,3,4,5,6,7,8,9],[0,1,2,3,4,5,6,7,8,9],[0,1,2,3,4,5,6,7,8,9],[0,1,2,3,4,5,6,7,8,9,10],[0,1,2,3,4,5,6,7,8,9,10,11,13],[0,1,2,3,4,5,6,7,8,9,10,11,12,13,14]] []) (.node [] [] (.node [] [] .nil (.node [] [] (.node [] [] .nil (.node [] [] .nil .nil)) .nil)) .nil)) .nil)) (.node [] [] .nil .nil)) (.node [] [] .nil .nil)) (.node [] [] .nil .nil))) (.node [] [] .nil .nil))))) good mixed Tryz.func117 (by kernel_rfl) (by kernel_rfl) (by kernel_rfl) (by kernel_rfl) (Eq.mp (S117_eq v0 v1 K w) h)

def S115 (v0 v1:Value) (K:Cont) (w:World):Prop:=
 JoinK (fun vs w1=>∀ _h:Env,
 runK Tryz.prog (Instr.sliceAt 31 v0 (some v1) none none) (fun t19 w2=>
 lenK t19 fun t20=>
 LoopK [(nth vs 0),(.int .i64 0)] (fun vs_1 again w3=>∀ _h_1:Env,
 ltK .i64 (nth vs_1 1) t20 fun t22=>
 condK t22
 (ixK 1 t19 (nth vs_1 1) fun t24=>
 ld1K t24 (fun t25 w4=>
 JoinK (fun vs_2 w5=>∀ _h_2:Env,
 condK (nth vs_2 0)
 (K (.tuple #[(.int .u64 0),(.int .i64 0),(.int .i64 3)]) w5)
 (ltK .u8 t25 (.int .u8 128) fun t43=>
 condK t43
 (runK Tryz.prog (convert 5 57 t25) (fun t46 w6=>
 mulK .i64 (.int .i64 7) (nth vs_1 1) fun t48=>
 runK Tryz.prog (binS .shl 57 (.tmp 46) (.tmp 48) t46 t48) (fun t49 w7=>
 runK Tryz.prog (binS .or 57 (.tmp 44) (.tmp 49) (nth vs_1 0) t49) (fun t50 w8=>
 addK .i64 v1 (nth vs_1 1) fun t53=>
 addK .i64 t53 (.int .i64 1) fun t54=>
 K (.tuple #[t50,t54,(.int .i64 0)]) w8) w7) w6) w5)
 (runK Tryz.prog (binS .and 5 (.tmp 56) (.const (.int .u8 127)) t25 (.int .u8 127)) (fun t57 w9=>
 runK Tryz.prog (convert 5 57 t57) (fun t58 w10=>
 mulK .i64 (.int .i64 7) (nth vs_1 1) fun t60=>
 runK Tryz.prog (binS .shl 57 (.tmp 58) (.tmp 60) t58 t60) (fun t61 w11=>
 runK Tryz.prog (binS .or 57 (.tmp 55) (.tmp 61) (nth vs_1 0) t61) (fun t62 w12=>
 addK .i64 (nth vs_1 1) (.int .i64 1) fun t63=>
 again [t62,t63] w12) w11) w10) w9) w5))) (fun J_1=>
 eqK .i64 (nth vs_1 1) (.int .i64 9) fun t28=>
 condK t28
 (gtK .u8 t25 (.int .u8 1) fun t31=>
 condK t31
 (J_1 [(.bool true)] w4)
 (gtK .i64 (nth vs_1 1) (.int .i64 0) fun t35=>
 condK t35
 (eqK .u8 t25 (.int .u8 0) fun t38=>
 J_1 [t38] w4)
 (J_1 [(.bool false)] w4)))
 (gtK .i64 (nth vs_1 1) (.int .i64 0) fun t35_1=>
 condK t35_1
 (eqK .u8 t25 (.int .u8 0) fun t38_1=>
 J_1 [t38_1] w4)
 (J_1 [(.bool false)] w4)))) w3)
 (K (.tuple #[(.int .u64 0),(.int .i64 0),(.int .i64 3)]) w3)) w2) w1) (fun J=>
 ltK .i64 v1 (.int .i64 0) fun t10=>
 condK t10
 (K (.tuple #[(.int .u64 0),(.int .i64 0),(.int .i64 5)]) w)
 (lenK v0 fun t14=>
 gtK .i64 v1 t14 fun t15=>
 condK t15
 (K (.tuple #[(.int .u64 0),(.int .i64 0),(.int .i64 5)]) w)
 (J [(.int .u64 0)] w)))
theorem S115_eq (v0 v1:Value) (K:Cont) (w:World):S115 v0 v1 K w=D Tryz.prog okf 64 (bodyOf Tryz.f115) (.node [] [] .nil (.cut [4] [(4,6),(9,16)] (.node [] [] .nil (.node [] [] (.node [] [] .nil .nil) .nil)) (.node [] [] (.node [] [] .nil (.node [4,21] [(4,8),(21,63)] (.node [] [] .nil (.node [] [] (.node [] [] .nil .nil) (.node [] [] (.node [] [] .nil (.node [] [] (.cut [26] [(26,40)] .nil (.node [] [] (.node [] [] .nil .nil) (.node [] [] .nil (.node [] [] (.node [] [] .nil .nil) .nil)))) .nil)) .nil))) .nil)) (.node [] [] .nil .nil)))) (retK Tryz.prog [.tmp 4,.tmp 5,.tmp 6] K) (nth [v0,v1]) w:=by kernel_rfl
theorem S115_ok {v0 v1:Value} {K:Cont} {w:World} (h:S115 v0 v1 K w):callK Tryz.prog 115 [v0,v1] K w:=
 callK_of (P:=Tryz.prog) (ok:=okf) (n:=64) (fn:=Tryz.f115) (c:=bodyOf Tryz.f115) (rs:=[.tmp 4,.tmp 5,.tmp 6]) (an:=(.node [] [] .nil (.cut [4] [(4,6),(9,16)] (.node [] [] .nil (.node [] [] (.node [] [] .nil .nil) .nil)) (.node [] [] (.node [] [] .nil (.node [4,21] [(4,8),(21,63)] (.node [] [] .nil (.node [] [] (.node [] [] .nil .nil) (.node [] [] (.node [] [] .nil (.node [] [] (.cut [26] [(26,40)] .nil (.node [] [] (.node [] [] .nil .nil) (.node [] [] .nil (.node [] [] (.node [] [] .nil .nil) .nil)))) .nil)) .nil))) .nil)) (.node [] [] .nil .nil))))) good mixed Tryz.func115 (by kernel_rfl) (by kernel_rfl) (by kernel_rfl) (by kernel_rfl) (Eq.mp (S115_eq v0 v1 K w) h)

def S119 (v0 v1 v2:Value) (K:Cont) (w:World):Prop:=
 callK Tryz.prog 115 [v0,v1] (fun t14 w1=>
 extK 0 t14 fun t15=>
 extK 1 t14 fun t16=>
 extK 2 t14 fun t17=>
 JoinK (fun vs w2=>∀ _h:Env,
 runK Tryz.prog (convert 57 3 t15) (fun t42 w3=>
 addK .i64 (nth vs 0) t42 fun t43=>
 runK Tryz.prog (Instr.sliceAt 31 v0 (some (nth vs 0)) (some t43) none) (fun t47 w4=>
 callK Tryz.prog 146 [t47] (fun t48 w5=>
 K (.tuple #[t48,t43,(.int .i64 0)]) w5) w4) w3) w2) (fun J=>
 neK .i64 t17 (.int .i64 0) fun t20=>
 condK t20
 (K (.tuple #[(.slice none 0 0),(.int .i64 0),t17]) w1)
 (ltK .i64 v2 (.int .i64 0) fun t24=>
 condK t24
 (K (.tuple #[(.slice none 0 0),(.int .i64 0),(.int .i64 3)]) w1)
 (runK Tryz.prog (convert 3 57 v2) (fun t28 w6=>
 gtK .u64 t15 t28 fun t29=>
 condK t29
 (K (.tuple #[(.slice none 0 0),(.int .i64 0),(.int .i64 3)]) w6)
 (lenK v0 fun t34=>
 subK .i64 t34 t16 fun t36=>
 runK Tryz.prog (convert 3 57 t36) (fun t37 w7=>
 gtK .u64 t15 t37 fun t38=>
 condK t38
 (K (.tuple #[(.slice none 0 0),(.int .i64 0),(.int .i64 3)]) w7)
 (J [t16] w7)) w6)) w1)))) w
theorem S119_eq (v0 v1 v2:Value) (K:Cont) (w:World):S119 v0 v1 v2 K w=D Tryz.prog okf 50 (bodyOf Tryz.f119) (.node [] [] .nil (.node [] [] .nil (.cut [7] [(6,8),(18,39)] (.node [] [] .nil (.node [] [] (.node [] [] .nil .nil) (.node [] [] .nil (.node [] [] (.node [] [] .nil .nil) .nil)))) (.node [] [] .nil (.node [] [] .nil .nil))))) (retK Tryz.prog [.tmp 6,.tmp 7,.tmp 8] K) (nth [v0,v1,v2]) w:=by kernel_rfl
theorem S119_ok {v0 v1 v2:Value} {K:Cont} {w:World} (h:S119 v0 v1 v2 K w):callK Tryz.prog 119 [v0,v1,v2] K w:=
 callK_of (P:=Tryz.prog) (ok:=okf) (n:=50) (fn:=Tryz.f119) (c:=bodyOf Tryz.f119) (rs:=[.tmp 6,.tmp 7,.tmp 8]) (an:=(.node [] [] .nil (.node [] [] .nil (.cut [7] [(6,8),(18,39)] (.node [] [] .nil (.node [] [] (.node [] [] .nil .nil) (.node [] [] .nil (.node [] [] (.node [] [] .nil .nil) .nil)))) (.node [] [] .nil (.node [] [] .nil .nil)))))) good mixed Tryz.func119 (by kernel_rfl) (by kernel_rfl) (by kernel_rfl) (by kernel_rfl) (Eq.mp (S119_eq v0 v1 v2 K w) h)

def S144 (v0 v1:Value) (K:Cont) (w:World):Prop:=
 callK Tryz.prog 115 [v0,v1] (fun t11 w1=>
 extK 0 t11 fun t12=>
 extK 1 t11 fun t13=>
 extK 2 t11 fun t14=>
 callK Tryz.prog 156 [t12] (fun t16 w2=>
 K (.tuple #[t16,t13,t14]) w2) w1) w
theorem S144_eq (v0 v1:Value) (K:Cont) (w:World):S144 v0 v1 K w=D Tryz.prog okf 19 (bodyOf Tryz.f144) (.node [] [] .nil (.node [] [] .nil (.node [] [] .nil .nil))) (retK Tryz.prog [.tmp 4,.tmp 5,.tmp 6] K) (nth [v0,v1]) w:=by kernel_rfl
theorem S144_ok {v0 v1:Value} {K:Cont} {w:World} (h:S144 v0 v1 K w):callK Tryz.prog 144 [v0,v1] K w:=
 callK_of (P:=Tryz.prog) (ok:=okf) (n:=19) (fn:=Tryz.f144) (c:=bodyOf Tryz.f144) (rs:=[.tmp 4,.tmp 5,.tmp 6]) (an:=(.node [] [] .nil (.node [] [] .nil (.node [] [] .nil .nil)))) good mixed Tryz.func144 (by kernel_rfl) (by kernel_rfl) (by kernel_rfl) (by kernel_rfl) (Eq.mp (S144_eq v0 v1 K w) h)

def S156 (v0:Value) (K:Cont) (w:World):Prop:=
 runK Tryz.prog (binS .shr 57 (.tmp 3) (.const (.int .u64 1)) v0 (.int .u64 1)) (fun t4 w1=>
 runK Tryz.prog (convert 57 2 t4) (fun t5 w2=>
 runK Tryz.prog (binS .and 57 (.tmp 6) (.const (.int .u64 1)) v0 (.int .u64 1)) (fun t7 w3=>
 runK Tryz.prog (convert 57 2 t7) (fun t8 w4=>
 runK Tryz.prog (Op.unary .neg t8) (fun t9 w5=>
 runK Tryz.prog (binS .xor 2 (.tmp 5) (.tmp 9) t5 t9) (fun t10 w6=>
 K t10 w6) w5) w4) w3) w2) w1) w
theorem S156_eq (v0:Value) (K:Cont) (w:World):S156 v0 K w=D Tryz.prog okf 11 (bodyOf Tryz.f156) (.node [] [] .nil (.node [] [] .nil .nil)) (retK Tryz.prog [.tmp 2] K) (nth [v0]) w:=by kernel_rfl
theorem S156_ok {v0:Value} {K:Cont} {w:World} (h:S156 v0 K w):callK Tryz.prog 156 [v0] K w:=
 callK_of (P:=Tryz.prog) (ok:=okf) (n:=11) (fn:=Tryz.f156) (c:=bodyOf Tryz.f156) (rs:=[.tmp 2]) (an:=(.node [] [] .nil (.node [] [] .nil .nil))) good mixed Tryz.func156 (by kernel_rfl) (by kernel_rfl) (by kernel_rfl) (by kernel_rfl) (Eq.mp (S156_eq v0 K w) h)

def S7 (K:Cont) (w:World):Prop:=
 buildK [(0,1),(1,1),(2,1),(3,1),(4,1),(5,1)] [(.int .i64 0),(.bool false),(.int .u8 0),(.bool false),(.bool false),(.int .i64 0)] [(0,(.int .i64 5)),(2,(.int .u8 2))] fun t13=>
 rowK 43 6 1 [(.int .i64 0),(.bool false),(.int .u8 0),(.bool false),(.bool false),(.int .i64 0)] [(0,t13)] (fun t14 w1=>
 callK Tryz.prog 5 [t14] (fun t15 w2=>
 extK 0 t15 fun t16=>
 extK 1 t15 fun t17=>
 callK Tryz.prog 9 [t16,(.slice none 0 0)] (fun t20 w3=>
 extK 0 t20 fun t21=>
 extK 1 t20 fun t22=>
 buildK [(0,1),(1,1),(2,1),(3,1),(4,1)] [(.int .u8 0),(.int .i64 0),(.slice none 0 0),(.slice none 0 0),(.slice none 0 0)] [(0,(.int .u8 1)),(1,(.int .i64 2))] fun t25=>
 rowK 21 1 1 [(.int .i32 0)] [(0,(.int .i32 97))] (fun t26 w4=>
 buildK [(0,1),(1,1),(2,1),(3,1),(4,1)] [(.int .u8 0),(.int .i64 0),(.slice none 0 0),(.slice none 0 0),(.slice none 0 0)] [(0,(.int .u8 2)),(2,t26)] fun t27=>
 rowK 21 1 1 [(.int .i32 0)] [(0,(.int .i32 98))] (fun t28 w5=>
 buildK [(0,1),(1,1),(2,1),(3,1),(4,1)] [(.int .u8 0),(.int .i64 0),(.slice none 0 0),(.slice none 0 0),(.slice none 0 0)] [(0,(.int .u8 2)),(2,t28)] fun t29=>
 rowK 56 5 3 [(.int .u8 0),(.int .i64 0),(.slice none 0 0),(.slice none 0 0),(.slice none 0 0)] [(0,t25),(1,t27),(2,t29)] (fun t30 w6=>
 callK Tryz.prog 9 [t16,t30] (fun t31 w7=>
 extK 0 t31 fun t32=>
 extK 1 t31 fun t33=>
 buildK [(0,1),(1,1),(2,1),(3,1)] [(.int .u8 0),(.int .i64 0),(.int .u64 0),(.string (ByteArray.mk #[]))] [(0,(.int .u8 2)),(1,(.int .i64 3))] fun t34=>
 buildK [(0,1),(1,1),(2,4)] [(.int .i64 0),(.bool false),(.int .u8 0),(.int .i64 0),(.int .u64 0),(.string (ByteArray.mk #[]))] [(0,(.int .i64 5)),(2,t34)] fun t35=>
 rowK 63 6 1 [(.int .i64 0),(.bool false),(.int .u8 0),(.int .i64 0),(.int .u64 0),(.string (ByteArray.mk #[]))] [(0,t35)] (fun t36 w8=>
 buildK [(0,1),(1,1),(2,1),(3,1),(4,1)] [(.int .u8 0),(.int .i64 0),(.slice none 0 0),(.slice none 0 0),(.slice none 0 0)] [(0,(.int .u8 1)),(1,(.int .i64 1)),(4,t36)] fun t37=>
 rowK 56 5 1 [(.int .u8 0),(.int .i64 0),(.slice none 0 0),(.slice none 0 0),(.slice none 0 0)] [(0,t37)] (fun t38 w9=>
 callK Tryz.prog 9 [t16,t38] (fun t42 w10=>
 extK 0 t42 fun t43=>
 extK 1 t42 fun t44=>
 callK Tryz.prog 12 [t16,t43] (fun t48 w11=>
 extK 0 t48 fun t49=>
 extK 1 t48 fun t50=>
 eqK .i64 t17 (.int .i64 0) fun t52=>
 condK t52
 (eqK .i64 t22 (.int .i64 0) fun t55=>
 condK t55
 (eqK .i64 t33 (.int .i64 0) fun t59=>
 condK t59
 (eqK .i64 t44 (.int .i64 0) fun t63=>
 condK t63
 (eqK .i64 t50 (.int .i64 0) fun t67=>
 condK t67
 (runK Tryz.prog (convert 31 9 t21) (fun t71 w12=>
 seqK t71 (.string (ByteArray.mk #[0])) fun t72=>
 condK t72
 (runK Tryz.prog (convert 31 9 t32) (fun t76 w13=>
 seqK t76 (.string (ByteArray.mk #[2,1,2,0,2,2,97,98,0])) fun t77=>
 condK t77
 (runK Tryz.prog (convert 31 9 t43) (fun t81 w14=>
 seqK t81 (.string (ByteArray.mk #[1,1,1,1,5,2,6])) fun t82=>
 condK t82
 (callK Tryz.prog 11 [t49,t38] (fun t87 w15=>
 K t87 w15) w14)
 (K (.bool false) w14)) w13)
 (K (.bool false) w13)) w12)
 (K (.bool false) w12)) w11)
 (K (.bool false) w11))
 (K (.bool false) w11))
 (K (.bool false) w11))
 (K (.bool false) w11))
 (K (.bool false) w11)) w10) w9) w8) w7) w6) w5) w4) w3) w2) w1) w
theorem S7_eq (K:Cont) (w:World):S7  K w=D Tryz.prog okf 89 (bodyOf Tryz.f7) (.node [] [] .nil (.node [] [] .nil (.node [] [] .nil (.node [] [] .nil (.node [] [] .nil (.node [] [] .nil (.node [] [] .nil (.node [] [] .nil .nil)))))))) (retK Tryz.prog [.tmp 0] K) (nth []) w:=by kernel_rfl
theorem S7_ok {K:Cont} {w:World} (h:S7  K w):callK Tryz.prog 7 [] K w:=
 callK_of (P:=Tryz.prog) (ok:=okf) (n:=89) (fn:=Tryz.f7) (c:=bodyOf Tryz.f7) (rs:=[.tmp 0]) (an:=(.node [] [] .nil (.node [] [] .nil (.node [] [] .nil (.node [] [] .nil (.node [] [] .nil (.node [] [] .nil (.node [] [] .nil (.node [] [] .nil .nil))))))))) good mixed Tryz.func7 (by kernel_rfl) (by kernel_rfl) (by kernel_rfl) (by kernel_rfl) (Eq.mp (S7_eq  K w) h)

end Go.Proofs.YtgmpbihbdbmhoaaGreatDoor

namespace Go.Proofs.YtgmpbihbdbmhoaaGreatDoor
open Go Go.K

structure WrI (G:Nat→Prop) (W:World) (c:Nat) (l:List Int):Prop where
 ex:∃ bv,W.cell? ⟨c,0,none⟩=some bv∧OBytes 0 W bv l∧∀ g,bv.ownBlock=some g→G g∧g≠c
 live:Live W ⟨c,0,none⟩
 gc:G c
 gn:∀ z,W.heap.size≤z→G z
section
variable {G G':Nat→Prop} {W W':World} {c:Nat} {l:List Int}
theorem WrI.lt (h:WrI G W c l):c < W.heap.size:=by obtain ⟨bv,h1,_⟩:=h.ex;exact World.block_lt_of_cell? W _ h1
theorem WrI.narrow (h:WrI G W c l) (g:Grow W W'):WrI (fun z=>G z∧¬ (W.heap.size≤z∧z < W'.heap.size)) W' c l:=by
 obtain ⟨bv,h1,h2,h3⟩:=h.ex
 have hlt:=h.lt
 refine ⟨⟨bv,g.cell h1 fun h=>h,OwnR.mod h2 g (fun _ _ h=>h) fun _ _ _ h=>h,fun b hb=>⟨⟨(h3 b hb).1,fun e=>?_⟩,(h3 b hb).2⟩⟩,h.live.mod g fun h=>h,⟨h.gc,fun e=>by omega⟩,fun z hz=>⟨h.gn z (Nat.le_trans g.size hz),fun e=>by omega⟩⟩
 have:=(OwnR.ownB h2 b hb).2
 omega
theorem WrI.grow (h:WrI G W c l) (g:Grow W W'):WrI G W' c l:=by
 obtain ⟨bv,h1,h2,h3⟩:=h.ex
 exact ⟨⟨bv,g.cell h1 fun h=>h,OwnR.mod h2 g (fun _ _ h=>h) fun _ _ _ h=>h,h3⟩,h.live.mod g fun h=>h,h.gc,fun z hz=>h.gn z (Nat.le_trans g.size hz)⟩
theorem WrI.widen (h:WrI G' W c l) (hG:∀ z,G' z→G z):WrI G W c l:=by
 obtain ⟨bv,h1,h2,h3⟩:=h.ex
 exact ⟨⟨bv,h1,h2,fun g hg=>⟨hG g (h3 g hg).1,(h3 g hg).2⟩⟩,h.live,hG c h.gc,fun z hz=>hG z (h.gn z hz)⟩
theorem WrI.app {S:Nat→Prop} {bv x:Value} {m:List Int} {K:World→Prop} (h:WrI G W c l) (hb:W.cell? ⟨c,0,none⟩=some bv) (hx:RBytes S W x m) (hl:l.length+m.length≤1099511627776)
  (hK:∀ W',WrI G W' c (l++m)→Mod G W W'→K W') :
  runK Tryz.prog (Builtin.append_ #[31,31] 31 [bv,x].toArray) (fun t w=>nilckK (.pointer (some ⟨c,0,none⟩)) fun p=>faK 0 p fun q=>st1K q t K w) W:=by
 obtain ⟨bv',h1,h2,h3⟩:=h.ex
 obtain rfl:bv=bv':=Option.some.inj (hb.symm.trans h1)
 obtain ⟨v',w',r1,r2,r3,r4⟩:=OwnR.append (ty:=31) elem_byte h2 hx (fun _ _=>RByte.one) (by omega) (Nat.zero_le _) (by simp only [maxLen];omega) fun _ _ _ _ h=>h
 have m1:=Mod.of_grownBy r3
 have hlt:=h.lt
 have ncb:¬ bv.ownBlock=some c:=fun e=>(h3 c e).2 rfl
 refine runK_i r1 (nilckK_s ?_)
 rw [faK_i,addr0]
 have one:=OwnR.one r2
 refine (h.live.mod m1 ncb).st one.1 one.2 (hK _ ⟨⟨v',World.cell?_setCell_same _ _ _ (m1.cell h1 ncb),OwnR.mod r2 (Mod.setCell (M:=fun z=>z=c) w' ⟨c,0,none⟩ v' rfl) (fun g hg e=>?_) fun _ _ _ h=>h,fun g hg=>?_⟩,(h.live.mod m1 ncb).set _ _,h.gc,fun z hz=>h.gn z ?_⟩ ((m1.mono fun z _ e=>(h3 z e).1).trans (Mod.setCell _ _ _ h.gc)))
 ·rcases r4 g hg with e' | e'
  ·exact (h3 g e').2 e
  ·omega
 ·rcases r4 g hg with e' | e'
  ·exact h3 g e'
  ·exact ⟨h.gn g e',by omega⟩
 ·have:=m1.size
  simp only [World.size_setCell] at hz
  omega
theorem WrI.put {bv:Value} {x:Int} {K:World→Prop} (h:WrI G W c l) (hb:W.cell? ⟨c,0,none⟩=some bv) (hl:l.length+1≤1099511627776)
  (hK:∀ W',WrI G W' c (l++[x])→Mod G W W'→K W') :
  rowK 5 1 1 [(.int .u8 0)] [(0,.int .u8 x)] (fun s w1=>runK Tryz.prog (Builtin.append_ #[31,31] 31 [bv,s].toArray) (fun t w=>nilckK (.pointer (some ⟨c,0,none⟩)) fun p=>faK 0 p fun q=>st1K q t K w) w1) W:=by
 refine row1_i fun w1 g1 hz hc=>?_
 have hs:RBytes (fun _=>True) w1 (.slice (some ⟨W.heap.size,0,none⟩) 1 1) [x]:=⟨_,1,rfl,by simp,by simp [maxLen],fun i y hy=>by
  have:i=0:=by have:=(List.getElem?_eq_some_iff.1 hy).1;simp at this;exact this
  subst this
  simp at hy;subst hy
  exact ⟨_,[.int .u8 x],rfl,trivial,rfl,fun j u hu=>by rw [Nat.zero_mul,Nat.zero_add];exact hc j u hu,rfl⟩⟩
 exact (h.grow g1).app (g1.cell hb fun h=>h) hs (by simpa using hl) fun W' h' m'=>hK W' h' ((g1.mono fun _ _ e=>e.elim).trans m')
theorem wuint_ok {n:Nat} (h:WrI G W c l) (hl:l.length+20≤1099511627776) (hn:n < 18446744073709551616) :
  callK Tryz.prog 45 [.pointer (some ⟨c,0,none⟩),.int .u64 n] (fun _ w'=>WrI G w' c (l++uv n)∧Mod G W w') W:=by
 apply S45_ok
 unfold S45
 have e128:(128:Nat) ^ (9+1)=1180591620717411303424:=by decide
 refine LoopK_i (fun vs W1=>∃ (f m:Nat) (pre:List Int),vs=[.int .u64 m]∧uv n=pre++uvB f m∧m < 128 ^ (f+1)∧m < 18446744073709551616∧pre.length+f=9∧WrI G W1 c (l++pre)∧Mod G W W1) (fun vs _=>iOf vs 0)
  ⟨9,n,[],rfl,rfl,by omega,hn,rfl,by rw [List.append_nil];exact h,Mod.refl _ _⟩ ?_
 rintro vs W1 ⟨f,m,pre,rfl,hu,hm,hm2,hf,hw,hM⟩ _
 simp only [nth_s,nth_z,List.headD_cons,List.tail_cons]
 obtain ⟨bv,hb,_⟩:=hw.ex
 have lp:(l++pre).length=l.length+pre.length:=List.length_append
 rw [gtK_i]
 refine condK_p (fun hgt=>?_) fun hle=>?_
 ·cases f with
  | zero=>simp at hm;omega
  | succ f=>
   have hstep:uvB (f+1) m=((m % 128+128:Nat):Int) :: uvB f (m / 128):=by
    simp only [uvB];rw [if_neg (by omega)]
   refine nilckK_s ?_
   rw [faK_i,addr0]
   refine ld1K_i hb ?_
   refine conv64_8 (runK_i (run_or8 W1 (by omega) (by omega)) ?_)
   have e8:((m:Int) % 256 % 128+128)=((m % 128+128:Nat):Int):=by omega
   rw [e8]
   refine hw.put hb (by omega) fun w' hw' hM'=>?_
   refine runK_i (run_shr (n:=7) w' (by decide)) ?_
   have e7:((m:Int)).fdiv (2 ^ 7)=((m / 128:Nat):Int):=by
    rw [Int.fdiv_eq_ediv_of_nonneg _ (by decide)];show (m:Int) / 128=_;omega
   rw [e7]
   refine ⟨⟨f,m / 128,pre++[((m % 128+128:Nat):Int)],rfl,by rw [hu,hstep];simp,?_,by omega,by simp;omega,by rw [←List.append_assoc];exact hw',hM.trans hM'⟩,?_⟩
   ·rw [Nat.pow_succ] at hm
    exact Nat.div_lt_of_lt_mul (by omega)
   ·show (((m / 128:Nat):Int)).toNat < ((m:Nat):Int).toNat
    omega
 ·have hend:uvB f m=[(m:Int)]:=by
   cases f with
   | zero=>rfl
   | succ f=>simp only [uvB];rw [if_pos (by omega)]
  refine nilckK_s ?_
  rw [faK_i,addr0]
  refine ld1K_i hb ?_
  refine conv64_8 ?_
  rw [show ((m:Int) % 256)=m by omega]
  refine hw.put hb (by omega) fun w' hw' hM'=>⟨?_,hM.trans hM'⟩
  rw [hu,hend,←List.append_assoc]
  exact hw'
theorem conv_64 {n:Nat} {K:Cont} {w:World} (hn:n < 18446744073709551616) (h:K (.int .u64 n) w):runK Tryz.prog (convert 3 57 (.int .i64 n)) K w:=by
 refine runK_i (run_conv (k:=.u64) w (by kernel_rfl) (by kernel_rfl)) ?_
 rw [wrapu64 ⟨by omega,by omega⟩];exact h
theorem conv8_64 {n:Nat} {K:Cont} {w:World} (hn:n < 256) (h:K (.int .u64 n) w):runK Tryz.prog (convert 5 57 (.int .u8 n)) K w:=by
 refine runK_i (run_conv (k:=.u64) w (by kernel_rfl) (by kernel_rfl)) ?_
 rw [wrapu64 ⟨by omega,by omega⟩];exact h
theorem wbytes_ok {S:Nat→Prop} {xv:Value} {x:List Int} (h:WrI G W c l) (hx:RBytes S W xv x) (hS:∀ z,S z→¬ G z) (hl:l.length+x.length+20≤1099511627776) :
  callK Tryz.prog 53 [.pointer (some ⟨c,0,none⟩),xv] (fun _ w'=>WrI G w' c (l++encX x)∧Mod G W w') W:=by
 apply S53_ok
 unfold S53
 obtain ⟨a,cc,rfl,_⟩:=hx.shape
 rw [lenK_i]
 refine conv_64 (by omega) ?_
 refine callK_mono (wuint_ok h (by omega) (by omega)) ?_
 rintro _ w1 ⟨h1,m1⟩
 obtain ⟨bv,hb,_⟩:=h1.ex
 refine nilckK_s ?_
 rw [faK_i,addr0]
 refine ld1K_i hb ?_
 have hul:(uv x.length).length≤10:=(uvB_len 9 x.length).2
 refine h1.app hb (hx.mod m1 (fun z _ hz=>hS z hz) (by decide) fun _ _ h=>h) (by rw [List.length_append];omega) fun W' h' m'=>⟨?_,m1.trans m'⟩
 unfold encX
 rw [←List.append_assoc]
 exact h'
end
end Go.Proofs.YtgmpbihbdbmhoaaGreatDoor

namespace Go.Proofs.YtgmpbihbdbmhoaaGreatDoor
open Go Go.K

theorem ext_bits {n:Nat} {w:World}:(callFunc 158 #[.float .f64 n]).run Tryz.prog w=.ok (.value (.int .u64 n)) w:=by
 have h:Tryz.prog.funcs[158]?=some Tryz.f158:=Tryz.func158
 have e0 : (Tryz.f158.name == "runtime.NumGoroutine") = false := by kernel_rfl
 have e1:Tryz.f158.body.isNone=true:=by kernel_rfl
 have e2:Extern.findNext Tryz.f158=none:=by kernel_rfl
 have e3:Extern.find Tryz.f158=some Extern.MathFloatBits.float64bits:=by kernel_rfl
 simp only [callFunc,program,mark,Sem.run_bind,Sem.run,Result.andThen,h,e0,e1,e2,e3,Bool.false_eq_true,if_false,if_true]
 rfl
theorem ext_from {n:Int} {w:World}:(callFunc 152 #[.int .u64 n]).run Tryz.prog w=.ok (.value (.float .f64 n.toNat)) w:=by
 have h:Tryz.prog.funcs[152]?=some Tryz.f152:=Tryz.func152
 have e0 : (Tryz.f152.name == "runtime.NumGoroutine") = false := by kernel_rfl
 have e1:Tryz.f152.body.isNone=true:=by kernel_rfl
 have e2:Extern.findNext Tryz.f152=none:=by kernel_rfl
 have e3:Extern.find Tryz.f152=some Extern.MathFloatBits.float64frombits:=by kernel_rfl
 simp only [callFunc,program,mark,Sem.run_bind,Sem.run,Result.andThen,h,e0,e1,e2,e3,Bool.false_eq_true,if_false,if_true]
 rfl
theorem isnan_ok {n:Nat} {w:World}:callK Tryz.prog 157 [.float .f64 n] (fun v w'=>v=.bool (decide (NoNum (n:Int)))∧w'=w) w:=by
 apply S157_ok
 unfold S157
 refine runK_i (v:=.bool (decide (NoNum (n:Int)))) (w':=w) ?_ ⟨rfl,rfl⟩
 rw [←order_self]
 simp [binS,eqGuard,binOp,Op.floatCmp]
theorem flag_ok {b:Bool} {w:World}:callK Tryz.prog 149 [.bool b] (fun v w'=>v=.agg (⟨1,if b then 1 else 0,0,noS⟩:AVal).cells.toArray∧Grow w w') w:=by
 apply S149_ok
 unfold S149
 refine newz_i fun b2 w1 hb2 hz2 g2 _ hl2=>?_
 refine ⟨(⟨1,0,0,noS⟩:AVal).cells.toArray,by kernel_rfl,?_⟩
 refine newst_n (vs:=(⟨1,0,0,noS⟩:AVal).cells) rfl rfl (AVal.one _) fun b3 w2 hb3 hz3 g3 hc3 hl3=>?_
 have g23:=g2.trans g3
 cases b with
 | true=>
  refine condK_t ?_
  rw [faK_i]
  refine (hl3 1 (by decide)).st rfl rfl ?_
  rw [addr0]
  have m:=Mod.setCell (M:=fun x=>x=b3) w2 ⟨b3,1,none⟩ (.int .i64 1) rfl
  have hc:∀ j u,(⟨1,1,0,noS⟩:AVal).cells[j]?=some u→(w2.setCell ⟨b3,1,none⟩ (.int .i64 1)).cell? ((⟨b3,0,none⟩:Addr).add j)=some u:=by
   intro j u hu
   rw [addr0]
   by_cases e:j=1
   ·subst e
    have h1:=(hl3 1 (by decide)).1
    rw [addr0] at h1
    obtain ⟨u',hu'⟩:=Option.isSome_iff_exists.1 h1
    cases hu
    exact World.cell?_setCell_same _ _ _ hu'
   ·rw [World.cell?_setCell_other _ _ _ _ (fun e'=>by simp only [Addr.mk.injEq] at e';exact e e'.2.1.symm)]
    have:=hc3 j u (by
     rcases j with _ | _ | _ | _ | j
     ·exact hu
     ·exact absurd rfl e
     ·exact hu
     ·exact hu
     ·exact hu)
    rwa [addr0] at this
  have hl2':=fun j hj=>((hl2 j hj).mod g3 fun h=>h).mod m (fun e=>by rw [addr0] at e;have:b2=b3:=e;omega)
  generalize w2.setCell ⟨b3,1,none⟩ (.int .i64 1)=w3 at m hc hl2' ⊢
  refine ldnK_i (vs:=(⟨1,1,0,noS⟩:AVal).cells) rfl hc ?_
  refine stn_over rfl (AVal.one _) (fun j hj=>hl2' j hj) fun w4 m4 hc4 _=>?_
  refine ldnK_i (vs:=(⟨1,1,0,noS⟩:AVal).cells) rfl hc4 ⟨rfl,?_⟩
  exact (g23.next m fun x hx e=>by omega).next m4 fun x hx e=>by omega
 | false=>
  refine condK_f ?_
  refine ldnK_i (vs:=(⟨1,0,0,noS⟩:AVal).cells) rfl hc3 ?_
  refine stn_over rfl (AVal.one _) (fun j hj=>(hl2 j hj).mod g3 fun h=>h) fun w4 m4 hc4 _=>?_
  refine ldnK_i (vs:=(⟨1,0,0,noS⟩:AVal).cells) rfl hc4 ⟨rfl,?_⟩
  exact g23.next m4 fun x hx e=>by omega
theorem int_ok {n:Int} {w:World}:callK Tryz.prog 150 [.int .i64 n] (fun v w'=>v=.agg (⟨2,n,0,noS⟩:AVal).cells.toArray∧Grow w w') w:=by
 apply S150_ok
 unfold S150
 refine newz_i fun b2 w1 hb2 hz2 g2 _ hl2=>?_
 refine ⟨(⟨2,n,0,noS⟩:AVal).cells.toArray,by kernel_rfl,?_⟩
 refine stn_over rfl (AVal.one _) (fun j hj=>hl2 j hj) fun w4 m4 hc4 _=>?_
 refine ldnK_i (vs:=(⟨2,n,0,noS⟩:AVal).cells) rfl hc4 ⟨rfl,?_⟩
 exact g2.next m4 fun x hx e=>by omega
theorem float_ok {n:Nat} {w:World}:callK Tryz.prog 151 [.float .f64 n] (fun v w'=>v=.agg (⟨3,0,if NoNum (n:Int) then 9221120237041090560 else n,noS⟩:AVal).cells.toArray∧Grow w w') w:=by
 apply S151_ok
 unfold S151
 refine newz_i fun b2 w1 hb2 hz2 g2 _ hl2=>?_
 refine callK_mono isnan_ok ?_
 rintro _ _ ⟨rfl,rfl⟩
 rename World=>w1
 by_cases hn:NoNum (n:Int)
 ·rw [decide_eq_true hn]
  refine condK_t ⟨(⟨3,0,9221120237041090560,noS⟩:AVal).cells.toArray,by kernel_rfl,?_⟩
  refine stn_over rfl (AVal.one _) (fun j hj=>hl2 j hj) fun w4 m4 hc4 _=>?_
  refine ldnK_i (vs:=(⟨3,0,9221120237041090560,noS⟩:AVal).cells) rfl hc4 ⟨by rw [if_pos hn],?_⟩
  exact g2.next m4 fun x hx e=>by omega
 ·rw [decide_eq_false hn]
  refine condK_f ⟨_,_,ext_bits,?_⟩
  refine ⟨(⟨3,0,(n:Int),noS⟩:AVal).cells.toArray,by kernel_rfl,?_⟩
  refine stn_over rfl (AVal.one _) (fun j hj=>hl2 j hj) fun w4 m4 hc4 _=>?_
  refine ldnK_i (vs:=(⟨3,0,(n:Int),noS⟩:AVal).cells) rfl hc4 ⟨by rw [if_neg hn],?_⟩
  exact g2.next m4 fun x hx e=>by omega
def TextOK (s:ByteArray):Prop:=s.size≤64∧(readB (bytesL s)).isSome=true
instance (s:ByteArray):Decidable (TextOK s):=by unfold TextOK;infer_instance
theorem bytesL_byte (s:ByteArray):ByteL (bytesL s):=fun x hx=>by
 simp only [bytesL,List.mem_map] at hx
 obtain ⟨b,_,rfl⟩:=hx
 have:=b.toNat_lt
 omega
theorem text_ok {s:ByteArray} {w:World} (hT:Tabs w):callK Tryz.prog 153 [.string s] (fun v w'=>v=(if TextOK s then .tuple #[.agg (⟨4,0,0,s⟩:AVal).cells.toArray,.int .i64 0] else .tuple #[.agg (⟨0,0,0,noS⟩:AVal).cells.toArray,.int .i64 3])∧Grow w w') w:=by
 apply S153_ok
 unfold S153
 refine newz_i fun b2 w1 hb2 hz2 g2 _ hl2=>?_
 rw [slenK_i,gtK_i]
 refine condK_p (fun hbig=>?_) fun hle=>?_
 ·refine ⟨(⟨0,0,0,noS⟩:AVal).cells.toArray,by kernel_rfl,?_⟩
  refine stn_over rfl (AVal.one _) (fun j hj=>hl2 j hj) fun w4 m4 hc4 _=>?_
  refine ldnK_i (vs:=(⟨0,0,0,noS⟩:AVal).cells) rfl hc4 ⟨by rw [if_neg (fun h=>by have:=h.1;omega)],?_⟩
  exact g2.next m4 fun x hx e=>by omega
 ·refine strbytes (by omega) fun v3 w3 g3 hb3=>?_
  have g23:=g2.trans g3
  have hl3:∀ j,j < 4→Live w3 ((⟨b2,0,none⟩:Addr).add j):=fun j hj=>(hl2 j hj).mod g3 fun h=>h
  refine callK_mono (runes_ok hb3 (bytesL_byte s) (hT.grow g23) (by rw [bytesL_len];omega)) ?_
  rintro v5 w5 ⟨g5,hm⟩
  have hl5:∀ j,j < 4→Live w5 ((⟨b2,0,none⟩:Addr).add j):=fun j hj=>(hl3 j hj).mod g5 fun h=>h
  have g25:=g23.trans g5
  cases hr:readB (bytesL s) with
  | none=>
   rw [hr] at hm
   subst hm
   refine extK_i (vs:=[_,_]) (by rfl) (extK_i (vs:=[_,_]) (by rfl) ?_)
   rw [neK_i]
   refine condK_neg (fun e=>by cases e) fun _=>?_
   refine ⟨(⟨0,0,0,noS⟩:AVal).cells.toArray,by kernel_rfl,?_⟩
   refine stn_over rfl (AVal.one _) (fun j hj=>hl5 j hj) fun w6 m6 hc6 _=>?_
   refine ldnK_i (vs:=(⟨0,0,0,noS⟩:AVal).cells) rfl hc6 ⟨by rw [if_neg (fun h=>by have:=h.2;rw [hr] at this;cases this)],?_⟩
   exact g25.next m6 fun x hx e=>by omega
  | some l=>
   rw [hr] at hm
   obtain ⟨sl,rfl,_⟩:=hm
   refine extK_i (vs:=[_,_]) (by rfl) (extK_i (vs:=[_,_]) (by rfl) ?_)
   rw [neK_i]
   refine condK_neg (fun _=>?_) fun e=>(e rfl).elim
   refine ⟨(⟨4,0,0,s⟩:AVal).cells.toArray,by kernel_rfl,?_⟩
   refine stn_over rfl (AVal.one _) (fun j hj=>hl5 j hj) fun w6 m6 hc6 _=>?_
   refine ldnK_i (vs:=(⟨4,0,0,s⟩:AVal).cells) rfl hc6 ⟨by rw [if_pos ⟨by omega,by rw [hr];rfl⟩],?_⟩
   exact g25.next m6 fun x hx e=>by omega
theorem vmay_ok {v:AVal} {w:World} (hT:Tabs w) (h0:0≤v.f) :
  callK Tryz.prog 130 [.agg v.cells.toArray] (fun v' w'=>v'=.bool (decide (ValOK v))∧Grow w w') w:=by
 apply S130_ok
 unfold S130
 refine boxn_i fun b w1 _ hz g hc _=>?_
 have l0:=hc 0 _ rfl
 have l1:=hc 1 _ rfl
 have l2:=hc 2 _ rfl
 have l3:=hc 3 _ rfl
 have key:∀ (b:Bool) w',Grow w w'→(b=true↔ValOK v)→Value.bool b=.bool (decide (ValOK v))∧Grow w w':=fun b w' g h=>⟨by congr 1;rw [Bool.eq_iff_iff,h,decide_eq_true_eq],g⟩
 have no:∀ w',Grow w w'→¬ ValOK v→Value.bool false=.bool (decide (ValOK v))∧Grow w w':=fun w' g h=>key false w' g (by simp only [Bool.false_eq_true,false_iff];exact h)
 have hall:∀ j u,v.cells[j]?=some u→w1.cell? ((⟨b,0,none⟩:Addr).add j)=some u:=hc
 simp only [faK_i]
 refine ld1K_i l0 ?_
 rw [eqK_i]
 refine condK_p (fun k1=>?_) fun k1=>?_
 ·refine drawK_i (fun w2=>Grow w1 w2) (Mod.drew _ _) ?_
  refine qldnK_i (vs:=v.cells) rfl (fun w2 g2 j u hu=>g2.cell (hall j u hu) fun h=>h) (qld1K_i (fun w2 g2=>g2.cell l1 fun h=>h) ?_)
  rw [eqK_i]
  refine ⟨_,fun w2 g2=>callK_mono flag_ok (by rintro _ w3 ⟨rfl,g3⟩;exact ⟨rfl,g2.trans g3⟩),?_⟩
  refine ⟨_,fun w2 _=>run_eq_val _ _ v ⟨1,if decide (v.n=1) then 1 else 0,0,noS⟩ w2,?_⟩
  intro w3 g3
  refine key _ _ (g.trans g3) ?_
  rw [decide_eq_true_eq]
  constructor
  ·intro e
   refine .inl ⟨k1,?_,?_⟩
   ·by_cases h1:v.n=1
    ·rw [h1];simpa [h1] using e
    ·have en:v.n=0:=by rw [e];simp [h1]
     rw [en];simpa [h1] using e
   ·by_cases h1:v.n=1
    ·exact .inr h1
    ·left;rw [e];simp [h1]
  ·rintro (h | h | h | h)
   ·obtain ⟨_,e,hn⟩:=h
    rcases hn with hn | hn
    ·rw [hn] at e ⊢;exact e
    ·rw [hn] at e ⊢;exact e
   ·omega
   ·omega
   ·omega
 rw [eqK_i]
 refine condK_p (fun k2=>?_) fun k2=>?_
 ·refine drawK_i (fun w2=>Grow w1 w2) (Mod.drew _ _) ?_
  refine qldnK_i (vs:=v.cells) rfl (fun w2 g2 j u hu=>g2.cell (hall j u hu) fun h=>h) (qld1K_i (fun w2 g2=>g2.cell l1 fun h=>h) ?_)
  refine ⟨_,fun w2 g2=>callK_mono int_ok (by rintro _ w3 ⟨rfl,g3⟩;exact ⟨rfl,g2.trans g3⟩),?_⟩
  refine ⟨_,fun w2 _=>run_eq_val _ _ v ⟨2,v.n,0,noS⟩ w2,?_⟩
  intro w3 g3
  refine key _ _ (g.trans g3) ?_
  rw [decide_eq_true_eq]
  refine ⟨fun h=>.inr (.inl ⟨k2,h⟩),fun h=>?_⟩
  rcases h with h | h | h | h
  ·omega
  ·exact h.2
  ·omega
  ·omega
 rw [eqK_i]
 refine condK_p (fun k3=>?_) fun k3=>?_
 ·refine drawK_i (fun w2=>Grow w1 w2) (Mod.drew _ _) ?_
  refine qldnK_i (vs:=v.cells) rfl (fun w2 g2 j u hu=>g2.cell (hall j u hu) fun h=>h) (qld1K_i (fun w2 g2=>g2.cell l2 fun h=>h) ?_)
  refine ⟨_,fun w2 _=>ext_from,?_⟩
  refine ⟨_,fun w2 g2=>callK_mono float_ok (by rintro _ w3 ⟨rfl,g3⟩;exact ⟨rfl,g2.trans g3⟩),?_⟩
  refine ⟨_,fun w2 _=>run_eq_val _ _ v _ w2,?_⟩
  intro w3 g3
  refine key _ _ (g.trans g3) ?_
  have ef:((v.f.toNat:Nat):Int)=v.f:=by omega
  rw [decide_eq_true_eq,ef]
  constructor
  ·intro e
   refine .inr (.inr (.inl ⟨k3,?_,?_⟩))
   ·by_cases hn:NoNum v.f
    ·rw [if_pos hn] at e
     have e2:v.f=9221120237041090560:=congrArg AVal.f e
     rw [e2];exact e
    ·rw [if_neg hn] at e;exact e
   ·by_cases hn:NoNum v.f
    ·rw [if_pos hn] at e
     exact .inr (congrArg AVal.f e)
    ·exact .inl hn
  ·rintro (h | h | h | h)
   ·omega
   ·omega
   ·obtain ⟨_,e,hn⟩:=h
    by_cases hh:NoNum v.f
    ·rw [if_pos hh]
     rw [hn.resolve_left fun x=>x hh] at e
     exact e
    ·rw [if_neg hh];exact e
   ·omega
 rw [eqK_i]
 refine condK_p (fun k4=>?_) fun k4=>no _ g ?_
 ·refine ld1K_i l3 (callK_mono (text_ok (hT.grow g)) ?_)
  rintro v3 w3 ⟨rfl,g3⟩
  have g03:=g.trans g3
  by_cases hx:TextOK v.s
  ·rw [if_pos hx]
   refine extK_i (vs:=[_,_]) (by rfl) (extK_i (vs:=[_,_]) (by rfl) ?_)
   refine newst_n (vs:=(⟨4,0,0,v.s⟩:AVal).cells) rfl rfl (AVal.one _) fun b4 w4 _ _ g4 hc4 _=>?_
   rw [eqK_i]
   refine condK_p (fun _=>?_) fun e=>(e rfl).elim
   refine ldnK_i (vs:=v.cells) rfl (fun j u hu=>(g3.trans g4).cell (hall j u hu) fun h=>h) ?_
   refine ldnK_i (vs:=(⟨4,0,0,v.s⟩:AVal).cells) rfl hc4 (runK_i (run_eq_val _ _ v ⟨4,0,0,v.s⟩ w4) ?_)
   refine key _ _ (g03.trans g4) ?_
   rw [decide_eq_true_eq]
   refine ⟨fun e=>.inr (.inr (.inr ⟨k4,e,hx.1,hx.2⟩)),fun h=>?_⟩
   rcases h with h | h | h | h
   ·omega
   ·omega
   ·omega
   ·exact h.2.1
  ·rw [if_neg hx]
   refine extK_i (vs:=[_,_]) (by rfl) (extK_i (vs:=[_,_]) (by rfl) ?_)
   refine newst_n (vs:=(⟨0,0,0,noS⟩:AVal).cells) rfl rfl (AVal.one _) fun b4 w4 _ _ g4 hc4 _=>?_
   rw [eqK_i]
   refine condK_p (fun e=>by cases e) fun _=>no _ (g03.trans g4) ?_
   rintro (h | h | h | h)
   ·omega
   ·omega
   ·omega
   ·exact hx ⟨h.2.2.1,h.2.2.2⟩
 ·rintro (h | h | h | h)
  ·exact k1 h.1
  ·exact k2 h.1
  ·exact k3 h.1
  ·exact k4 h.1
end Go.Proofs.YtgmpbihbdbmhoaaGreatDoor

namespace Go.K
open Go

section
variable {α:Type} [Inhabited α]
theorem flatK_toList (enc : α → List Value) (k : Nat) (hk : ∀ x, (enc x).length = k) (d : Array α) : (Sort.flatK enc k d).toList = (d.toList.map enc).flatten := by
  refine List.ext_getElem? fun t => ?_
  have hl : ∀ r ∈ d.toList.map enc, r.length = k := fun r hr => by obtain ⟨x, _, rfl⟩ := List.mem_map.1 hr; exact hk x
  have hfl : (d.toList.map enc).flatten.length = d.size * k := by rw [flat_len _ hl, List.length_map, Array.length_toList]
  by_cases ht : t < d.size * k
  · have k0 : 0 < k := by rcases Nat.eq_zero_or_pos k with h | h; · subst h; simp at ht
                          · exact h
    have hi : t / k < d.size := (Nat.div_lt_iff_lt_mul k0).2 ht
    have h1 := Sort.get_flatK enc k d t ht
    have h2 : (Sort.flatK enc k d).toList[t]? = some (Sort.flatK enc k d)[t]! := by
      have hs : t < (Sort.flatK enc k d).size := by simpa using ht
      rw [Array.getElem?_toList, Array.getElem?_eq_getElem hs, getElem!_pos _ t hs]
    rw [h2, h1]
    have h3 := flat_get (d.toList.map enc) (t / k) (t % k) (enc d[t / k]!) hl (by simp [hi]) (Nat.mod_lt _ k0)
    rw [Nat.div_add_mod' t k] at h3
    rw [h3]
    have hm : t % k < (enc d[t / k]!).length := by rw [hk]; exact Nat.mod_lt _ k0
    rw [List.getElem?_eq_getElem hm, getElem!_pos (enc d[t / k]!) _ hm]
  · rw [List.getElem?_eq_none (by simp; omega), List.getElem?_eq_none (by omega)]
theorem putCells_take (F cur:Array Value) (h:F.size≤cur.size):(Sort.putCells id 0 F cur).size=cur.size∧(Sort.putCells id 0 F cur).toList.take F.size=F.toList:=by
 refine ⟨by simp [Sort.putCells],List.ext_getElem? fun t=>?_⟩
 by_cases ht:t < F.size
 ·rw [List.getElem?_take,if_pos ht,Array.getElem?_toList,Array.getElem?_toList]
  have h1:t < cur.size:=by omega
  simp [Sort.putCells,ht,h1]
 ·rw [List.getElem?_take,if_neg ht,List.getElem?_eq_none (by simp;omega)]
theorem sortWorld_heap {enc:α→List Value} {k:Nat} {w:World} {g m e:Nat} {d:Array α} {os:Array Obj} {cur:Array Value} (hg:w.heap[g]?=some (.cells cur e (0,0))) :
  (Go.Proofs.sortWorldK enc k w g 0 m d os).heap[g]?=some (.cells (Sort.putCells id 0 (Sort.flatK enc k d) cur) e (0,0))∧Mod (fun b=>b=g) w (Go.Proofs.sortWorldK enc k w g 0 m d os):=by
 have hlt:g < w.heap.size:=(Array.getElem?_eq_some_iff.1 hg).1
 have hsz:(w.heap.modify g (Sort.onCells (Sort.putCells id 0 (Sort.flatK enc k d)))).size=w.heap.size:=by simp
 have eh:(Go.Proofs.sortWorldK enc k w g 0 m d os).heap=w.heap.modify g (Sort.onCells (Sort.putCells id 0 (Sort.flatK enc k d)))++os:=rfl
 refine ⟨?_,⟨rfl,rfl,rfl,by rw [eh,Array.size_append,hsz];omega,fun b hb hn=>?_⟩⟩
 ·rw [eh,Array.getElem?_append_left (by rw [hsz];exact hlt),Array.getElem?_modify,if_pos rfl,hg];rfl
 ·rw [eh,Array.getElem?_append_left (by rw [hsz];exact hb),Array.getElem?_modify,if_neg (fun h=>hn h.symm)]
theorem OwnR.sorted {B e k:Nat} {R:World→List Value→α→Prop} {enc:α→List Value} (hk:∀ x,(enc x).length=k) (h1:∀ x,∀ v ∈ enc x,v.oneCell'=true) (hR:∀ w r x,R w r x↔r=enc x) {w:World} {g n c:Nat} {l:List α} (h:OwnR B e k R w (.slice (some ⟨g,0,none⟩) n c) l) :
  n=l.length∧g < w.heap.size∧Sort.HoldsK enc k w g 0 l.toArray∧∀ (m:Nat) (d:Array α) (os:Array Obj),d.size=l.length→OwnR B e k R (Go.Proofs.sortWorldK enc k w g 0 m d os) (.slice (some ⟨g,0,none⟩) n c) d.toList∧Mod (fun b=>b=g) w (Go.Proofs.sortWorldK enc k w g 0 m d os):=by
 obtain ⟨rows,h2,h3,h4,h5⟩:=h
 obtain ⟨q1,q2⟩:=h2
 rcases q2 with ⟨q,_⟩ | ⟨g',cap,cur,q,hg,hh,hn,hm,hcs,hcur⟩
 ·cases q
 cases q
 have hlt:g < w.heap.size:=(Array.getElem?_eq_some_iff.1 hh).1
 have hrows:rows=l.map enc:=by
  refine List.ext_getElem? fun i=>?_
  rw [List.getElem?_map]
  by_cases hi:i < l.length
  ·have hir:i < rows.length:=by omega
   rw [List.getElem?_eq_getElem hi,List.getElem?_eq_getElem hir,Option.map_some]
   rw [(hR w rows[i] l[i]).1 (h5 i _ _ (List.getElem?_eq_getElem hir) (List.getElem?_eq_getElem hi))]
  ·rw [List.getElem?_eq_none (by omega),List.getElem?_eq_none (by omega)];rfl
 have hle:l.length * k≤c * k:=Nat.mul_le_mul_right _ hn
 refine ⟨rfl,hlt,fun j hj=>?_,fun m d os hd=>?_⟩
 ·rw [Sort.size_flatK] at hj
  have hjl:j < l.length * k:=by simpa using hj
  have hjc:j < cur.size:=by rw [hcs];omega
  have e0:(Sort.flatK enc k l.toArray).toList=rows.flatten:=by rw [flatK_toList enc k hk,hrows]
  have e1:rows.flatten[j]?=some (Sort.flatK enc k l.toArray)[j]!:=by
   have hs:j < (Sort.flatK enc k l.toArray).size:=by rw [Sort.size_flatK];exact hj
   rw [←e0,Array.getElem?_toList,Array.getElem?_eq_getElem hs,getElem!_pos _ j hs]
  rw [←hcur,List.getElem?_take,if_pos hjl,Array.getElem?_toList] at e1
  rw [Nat.zero_add]
  refine ⟨?_,?_⟩
  ·simp only [World.cell?,hh];exact e1
  ·simp [World.frozen?,hh]
 ·obtain ⟨r1,r2⟩:=sortWorld_heap (enc:=enc) (k:=k) (m:=m) (d:=d) (os:=os) hh
  refine ⟨⟨d.toList.map enc,⟨?_,.inr ⟨g,c,_,by have e:d.toList.length=l.length:=hd;rw [e],hg,r1,?_,hm,?_,?_⟩⟩,by simp,fun r hr=>?_,fun i r x hr hx=>?_⟩,r2⟩
  ·have:=flat_len (d.toList.map enc) (k:=k) fun r hr=>by obtain ⟨x,_,rfl⟩:=List.mem_map.1 hr;exact hk x
   simpa using this
  ·rw [Array.length_toList,hd];exact hn
  ·rw [(putCells_take (Sort.flatK enc k d) cur (by rw [Sort.size_flatK,hd,hcs];exact hle)).1];exact hcs
  ·have:=(putCells_take (Sort.flatK enc k d) cur (by rw [Sort.size_flatK,hd,hcs];exact hle)).2
   rw [Sort.size_flatK] at this
   rw [Array.length_toList,this,flatK_toList enc k hk]
  ·obtain ⟨x,_,rfl⟩:=List.mem_map.1 hr
   exact ⟨hk x,h1 x⟩
  ·rw [List.getElem?_map] at hr
   rw [hx] at hr
   exact (hR _ _ _).2 (Option.some.inj hr).symm
end
end Go.K

namespace Go.Proofs.YtgmpbihbdbmhoaaGreatDoor
open Go Go.K

def sortKey_ren:Go.Shelf.Ren:=⟨fun | 6=>16 | 15=>40 | 14=>39 | 28=>85 | 29=>86 | 20=>77 | 21=>78 | 22=>79 | 23=>80 | 24=>81 | 25=>82 | 26=>83 | 27=>84 | 46=>123 | 47=>124 | 48=>125 | 49=>126 | 50=>127 | 57=>147 | n=>n,fun | 22=>22 | 24=>43 | 25=>51 | 3=>3 | 39=>92 | 0=>0 | 53=>132 | 55=>57 | 4=>4 | 46=>125 | 45=>124 | 50=>129 | 5=>5 | 9=>9 | 66=>161 | 70=>164 | 76=>182 | 77=>183 | n=>n,fun | n=>n⟩
theorem sortKey:Go.Proofs.SlLaysF0.n6 Tryz.prog sortKey_ren:={
 mixed:=by kernel_rfl,
 f6:=⟨Tryz.f16.name,by decide,Tryz.func16.trans (congrArg some (by kernel_rfl))⟩,
 f14:=⟨Tryz.f39.name,by decide,Tryz.func39.trans (congrArg some (by kernel_rfl))⟩,
 f15:=Tryz.func40.trans (congrArg some (by kernel_rfl)),
 f20:=⟨Tryz.f77.name,by decide,Tryz.func77.trans (congrArg some (by kernel_rfl))⟩,
 f21:=⟨Tryz.f78.name,by decide,Tryz.func78.trans (congrArg some (by kernel_rfl))⟩,
 f22:=⟨Tryz.f79.name,by decide,Tryz.func79.trans (congrArg some (by kernel_rfl))⟩,
 f23:=⟨Tryz.f80.name,by decide,Tryz.func80.trans (congrArg some (by kernel_rfl))⟩,
 f24:=⟨Tryz.f81.name,by decide,Tryz.func81.trans (congrArg some (by kernel_rfl))⟩,
 f25:=⟨Tryz.f82.name,by decide,Tryz.func82.trans (congrArg some (by kernel_rfl))⟩,
 f26:=⟨Tryz.f83.name,by decide,Tryz.func83.trans (congrArg some (by kernel_rfl))⟩,
 f27:=⟨Tryz.f84.name,by decide,Tryz.func84.trans (congrArg some (by kernel_rfl))⟩,
 f28:=Tryz.func85.trans (congrArg some (by kernel_rfl)),
 f29:=Tryz.func86.trans (congrArg some (by kernel_rfl)),
 f46:=⟨Tryz.f123.name,by decide,Tryz.func123.trans (congrArg some (by kernel_rfl))⟩,
 f47:=Tryz.func124.trans (congrArg some (by kernel_rfl)),
 f48:=Tryz.func125.trans (congrArg some (by kernel_rfl)),
 f49:=⟨Tryz.f126.name,by decide,Tryz.func126.trans (congrArg some (by kernel_rfl))⟩,
 f50:=⟨Tryz.f127.name,by decide,Tryz.func127.trans (congrArg some (by kernel_rfl))⟩,
 f57:=⟨Tryz.f147.name,by decide,Tryz.func147.trans (congrArg some (by kernel_rfl))⟩,
 t0:=Tryz.underlying0,
 a0:=Tryz.isAgg0,
 z0:=Tryz.sizeOf0,
 v0:=Tryz.zeroValue0,
 t3:=Tryz.underlying3,
 a3:=Tryz.isAgg3,
 z3:=Tryz.sizeOf3,
 v3:=Tryz.zeroValue3,
 t4:=Tryz.underlying4,
 a4:=Tryz.isAgg4,
 z4:=Tryz.sizeOf4,
 v4:=Tryz.zeroValue4,
 t5:=Tryz.underlying5,
 a5:=Tryz.isAgg5,
 z5:=Tryz.sizeOf5,
 v5:=Tryz.zeroValue5,
 t9:=Tryz.underlying9,
 a9:=Tryz.isAgg9,
 z9:=Tryz.sizeOf9,
 v9:=Tryz.zeroValue9,
 t22:=Tryz.underlying22,
 a22:=Tryz.isAgg22,
 z22:=Tryz.sizeOf22,
 v22:=Tryz.zeroValue22,
 t25:=Tryz.underlying51,
 a25:=Tryz.isAgg51,
 z25:=Tryz.sizeOf51,
 v25:=Tryz.zeroValue51,
 t39:=Tryz.underlying92,
 a39:=Tryz.isAgg92,
 z39:=Tryz.sizeOf92,
 v39:=Tryz.zeroValue92,
 t45:=Tryz.underlying124,
 a45:=Tryz.isAgg124,
 z45:=Tryz.sizeOf124,
 v45:=Tryz.zeroValue124,
 t46:=Tryz.underlying125,
 a46:=Tryz.isAgg125,
 z46:=Tryz.sizeOf125,
 v46:=Tryz.zeroValue125,
 t50:=Tryz.underlying129,
 a50:=Tryz.isAgg129,
 z50:=Tryz.sizeOf129,
 v50:=Tryz.zeroValue129,
 t53:=Tryz.underlying132,
 a53:=Tryz.isAgg132,
 z53:=Tryz.sizeOf132,
 v53:=Tryz.zeroValue132,
 t55:=Tryz.underlying57,
 a55:=Tryz.isAgg57,
 z55:=Tryz.sizeOf57,
 v55:=Tryz.zeroValue57,
 t66:=Tryz.underlying161,
 a66:=Tryz.isAgg161,
 z66:=Tryz.sizeOf161,
 v66:=Tryz.zeroValue161,
 t70:=Tryz.underlying164,
 a70:=Tryz.isAgg164,
 z70:=Tryz.sizeOf164,
 v70:=Tryz.zeroValue164,
 t76:=Tryz.underlying182,
 a76:=Tryz.isAgg182,
 z76:=Tryz.sizeOf182,
 v76:=Tryz.zeroValue182,
 t77:=Tryz.underlying183,
 a77:=Tryz.isAgg183,
 z77:=Tryz.sizeOf183,
 v77:=Tryz.zeroValue183 }
theorem cmpk_ok (x y:DKey) (W:World):Calls Tryz.prog 17 #[.agg x.cells.toArray,.agg y.cells.toArray] W fun e w'=>e=.returned (.int .i64 (cmpI x.id y.id))∧∃ q os',w'=Sort.grow (W.drewN q) os':=by
 have h:callK Tryz.prog 17 [.agg x.cells.toArray,.agg y.cells.toArray] (fun v w'=>v=.int .i64 (cmpI x.id y.id)∧∃ os',w'=Sort.grow W os') W:=by
  apply S17_ok
  unfold S17
  refine ⟨x.cells,rfl,⟨y.cells,rfl,newK_i ?_⟩⟩
  rw [faK_i]
  have c1:∀ j u,x.cells[j]?=some u→((W.alloc (.cells x.cells.toArray 43)).alloc (.cells y.cells.toArray 43)).cell? ((⟨W.heap.size,0,none⟩:Addr).add j)=some u:=fun j u hu=>(Mod.alloc (fun _=>False) _ _).cell (cell_box hu) fun h=>h
  have c2:∀ j u,y.cells[j]?=some u→((W.alloc (.cells x.cells.toArray 43)).alloc (.cells y.cells.toArray 43)).cell? ((⟨(W.alloc (.cells x.cells.toArray 43)).heap.size,0,none⟩:Addr).add j)=some u:=fun j u hu=>cell_box hu
  refine ld1K_i (c1 0 _ rfl) ?_
  rw [faK_i]
  refine ld1K_i (c2 0 _ rfl) ?_
  refine callK_mono cmp_ok ?_
  rintro _ _ ⟨rfl,rfl⟩
  exact ⟨rfl,_,by rw [Sort.alloc_eq_grow,Sort.alloc_eq_grow,Sort.grow_grow]⟩
 refine Calls.mono h ?_
 rintro e w' ⟨v,rfl,rfl,os',rfl⟩
 exact ⟨rfl,0,os',rfl⟩
theorem swo_id:Sort.SWO (Go.Proofs.ltOf fun x y:DKey=>cmpI x.id y.id):=by
 have e:∀ x y:DKey,Go.Proofs.ltOf (fun x y:DKey=>cmpI x.id y.id) x y=decide (x.id < y.id):=fun x y=>by
  unfold Go.Proofs.ltOf cmpI
  by_cases h1:x.id < y.id
  ·simp [h1]
  ·by_cases h2:y.id < x.id <;> simp [h1,h2]
 exact ⟨fun x=>by rw [e];simp,fun x y z h1 h2=>by rw [e] at *;simp at *;omega,fun x y z h1 h2=>by rw [e] at *;simp at *;omega⟩
instance:Inhabited DKey:=⟨DKey.zero⟩
theorem sortk_ok {B:Nat} {v:Value} {keys:List DKey} {w:World} (h:OwnR B 43 6 RKey w v keys) (hl:keys.length≤1099511627776) :
  callK Tryz.prog 16 [v,.func (.func 17) #[] #[]] (fun _ w'=>∃ ks:List DKey,ks.Perm keys∧ks.Pairwise (fun x y=>x.id≤y.id)∧OwnR B 43 6 RKey w' v ks∧Mod (fun b=>v.ownBlock=some b) w w') w:=by
 obtain ⟨a,c,rfl,_,_,hp,hn⟩:=h.shape
 cases a with
 | none=>
  have e:=hn rfl
  subst e
  refine Calls.mono (Go.Proofs.AnyF.slices_SortFunc_none sortKey none c _ w) ?_
  rintro _ _ ⟨rfl,rfl⟩
  exact ⟨_,rfl,[],List.Perm.refl _,List.Pairwise.nil,h,Mod.refl _ _⟩
 | some p=>
  obtain ⟨g,rfl,_,hlt,hob⟩:=hp p rfl
  obtain ⟨_,_,hH,hS⟩:=OwnR.sorted (enc:=DKey.cells) (fun _=>rfl) (fun x=>RKey.one (w:=w) (x:=x) rfl) (fun _ _ _=>Iff.rfl) h
  have hc:=Go.Proofs.AnyQ.slices_SortFunc sortKey 6 Tryz.isAgg43 Tryz.sizeOf43 DKey.cells (fun _=>rfl) (fun x=>RKey.one (w:=w) (x:=x) rfl) (fun x y=>cmpI x.id y.id) swo_id 17 #[] g 0 c keys.toArray w (good _ rfl) (fun m os dk _ x y=>cmpk_ok x y _) hH hlt (by simp;omega)
  rw [List.size_toArray] at hc
  refine Calls.mono hc ?_
  rintro _ _ ⟨rfl,d',m,os,hperm,hsort,rfl⟩
  obtain ⟨h1,h2,h3⟩:=hperm
  have hd:d'.size=keys.length:=by rw [h1,List.size_toArray]
  obtain ⟨o1,o2⟩:=hS m d' os hd
  refine ⟨_,rfl,d'.toList,?_,?_,o1,o2.mono fun b _ e=>by rw [e];rfl⟩
  ·have e1:d'.extract 0 keys.length=d':=by rw [←hd];exact Array.extract_size
   have e2:keys.toArray.extract 0 keys.length=keys.toArray:=by
    have:=Array.extract_size (xs:=keys.toArray);rwa [List.size_toArray] at this
   rw [e1,e2] at h3
   simpa using h3
  ·rw [List.pairwise_iff_getElem]
   intro i j hi hj hij
   simp only [Array.length_toList] at hi hj
   have:=hsort i j (Nat.zero_le _) hij (by omega)
   rw [getElem!_pos d' i hi,getElem!_pos d' j hj] at this
   have e:Go.Proofs.ltOf (fun x y:DKey=>cmpI x.id y.id) d'[j] d'[i]=decide (d'[j].id < d'[i].id):=by
    unfold Go.Proofs.ltOf cmpI
    by_cases h1:d'[j].id < d'[i].id
    ·simp [h1]
    ·by_cases h2:d'[i].id < d'[j].id <;> simp [h1,h2]
   rw [e] at this
   simp only [decide_eq_false_iff_not] at this
   simp only [Array.getElem_toList]
   omega
end Go.Proofs.YtgmpbihbdbmhoaaGreatDoor

namespace Go.Proofs.YtgmpbihbdbmhoaaGreatDoor
open Go Go.K

def Dist (keys:List DKey):Prop:=keys.Pairwise fun x y=>x.id≠y.id
theorem mayk_iff {keys:List DKey}:MayKeys keys↔keys.length≤64∧(∀ k ∈ keys,KeyOK k)∧Dist keys:=by
 unfold MayKeys MayN Dist
 rw [List.pairwise_iff_getElem]
 constructor
 ·rintro ⟨h1,h2⟩
  refine ⟨h1,fun k hk=>?_,fun i j hi hj hij=>?_⟩
  ·obtain ⟨i,hi,rfl⟩:=List.getElem_of_mem hk
   exact (h2 i hi _ (List.getElem?_eq_getElem hi)).1
  ·exact (h2 j hj _ (List.getElem?_eq_getElem hj)).2 i hij _ (List.getElem?_eq_getElem hi)
 ·rintro ⟨h1,h2,h3⟩
  refine ⟨h1,fun i hi k hk=>?_⟩
  rw [List.getElem?_eq_getElem hi] at hk;cases hk
  refine ⟨h2 _ (List.getElem_mem hi),fun j hj k' hk'=>?_⟩
  rw [List.getElem?_eq_getElem (by omega)] at hk';cases hk'
  exact h3 j i (by omega) hi hj
theorem find_map {L:List DKey} {id:Int}:(L.map fun k=>(k.id,(Value.agg k.cells.toArray))).find? (fun p=>decide (p.1=id))=(findK L id).map fun k=>(k.id,.agg k.cells.toArray):=by
 unfold findK
 rw [List.find?_map]
 rfl
theorem findK_iff {L:List DKey} (hd:Dist L) {id:Int} {k:DKey}:findK L id=some k↔k ∈ L∧k.id=id:=by
 induction L with
 | nil=>simp [findK]
 | cons x L ih=>
  unfold Dist at hd
  rw [List.pairwise_cons] at hd
  have ih':=ih hd.2
  unfold findK at ih' ⊢
  by_cases hx:x.id=id
  ·rw [List.find?_cons_of_pos (by simpa using hx)]
   simp only [Option.some.injEq,List.mem_cons]
   constructor
   ·rintro rfl;exact ⟨.inl rfl,hx⟩
   ·rintro ⟨rfl | hk,h2⟩
    ·rfl
    ·exact (hd.1 k hk (by rw [hx,h2])).elim
  ·rw [List.find?_cons_of_neg (by simpa using hx),ih']
   constructor
   ·rintro ⟨h1,h2⟩;exact ⟨List.mem_cons_of_mem _ h1,h2⟩
   ·rintro ⟨h1,h2⟩
    rcases List.mem_cons.1 h1 with rfl | h1
    ·exact (hx h2).elim
    ·exact ⟨h1,h2⟩
theorem Dist.perm {L L':List DKey} (hp:L.Perm L') (h:Dist L):Dist L':=(hp.pairwise_iff (R:=fun x y:DKey=>x.id≠y.id) fun h=>h.symm).1 h
theorem findK_perm {L L':List DKey} (hp:L.Perm L') (hd:Dist L) (id:Int):findK L id=findK L' id:=by
 refine Option.ext fun k=>?_
 rw [findK_iff hd,findK_iff (hd.perm hp),hp.mem_iff]
theorem strict_of {L:List DKey} (hd:Dist L) (hs:L.Pairwise fun x y=>x.id≤y.id):L.Pairwise fun x y=>x.id < y.id:=by
 refine (List.Pairwise.and hd hs).imp fun {x y} h=>?_
 obtain ⟨h1,h2⟩:=h
 omega

structure NewI (w0 W:World) (b m:Nat) (kv:Value) (keys:List DKey) (i:Nat):Prop where
 c0:W.cell? ⟨b,0,none⟩=some kv
 c1:W.cell? ⟨b,1,none⟩=some (.map (some m))
 row:OwnR w0.heap.size 43 6 RKey W kv keys
 mp:MapI W m ((keys.take i).map fun k=>(k.id,.agg k.cells.toArray))
 hb:w0.heap.size≤b
 hm:w0.heap.size≤m
 ne:m≠b
 own:∀ g,kv.ownBlock=some g→g≠m∧g≠b
 g:Grow w0 W
theorem NewI.grow {w0 W W':World} {b m i:Nat} {kv:Value} {keys:List DKey} (h:NewI w0 W b m kv keys i) (hg:Grow W W'):NewI w0 W' b m kv keys i:=
 ⟨hg.cell h.c0 fun h=>h,hg.cell h.c1 fun h=>h,OwnR.mod h.row hg (fun _ _ h=>h) fun _ _ _ h=>h,h.mp.mod hg fun h=>h,h.hb,h.hm,h.ne,h.own,h.g.trans hg⟩

open Classical in
theorem new_key_ok {S:Nat→Prop} {kv:Value} {keys:List DKey} {w:World} (h:RKeys S w kv keys) :
  callK Tryz.prog 5 [kv] (fun v' w'=>Grow w w'∧((MayKeys keys∧∃ (sv:Value) (ks:List DKey),v'=.tuple #[sv,.int .i64 0]∧ks.Perm keys∧ks.Pairwise (fun x y=>x.id < y.id)∧SchR (fun b=>w.heap.size≤b) w' sv ks)∨
   (¬ MayKeys keys∧v'=.tuple #[.pointer none,.int .i64 3]))) w:=by
 apply S5_ok
 unfold S5
 obtain ⟨a,c,rfl,hmx⟩:=h.shape
 simp only [maxLen] at hmx
 rw [lenK_i,gtK_i]
 refine condK_p (fun h6=>⟨Mod.refl _ _,.inr ⟨by rintro ⟨h,_⟩;omega,rfl⟩⟩) fun h6=>?_
 refine callK_mono (clone_key h (by omega)) ?_
 rintro v1 w1 ⟨o1,g1⟩
 refine runK_i (v:=.map (some w1.heap.size)) (w':=w1.alloc (.map #[] 0)) rfl ?_
 have g2:Grow w1 (w1.alloc (.map #[] 0)):=Mod.alloc _ _ _
 have hmp:MapI (w1.alloc (.map #[] 0)) w1.heap.size []:=MapI.make w1
 have hz2:(w1.alloc (.map #[] 0)).heap.size=w1.heap.size+1:=by simp
 generalize w1.alloc (.map #[] 0)=w2 at g2 hmp hz2 ⊢
 obtain ⟨ra,rc,rfl,_,_,_,_⟩:=o1.shape
 refine ⟨#[.slice ra keys.length rc,.map (some w1.heap.size)],by kernel_rfl,?_⟩
 refine boxn_i (vs:=[.slice ra keys.length rc,.map (some w1.heap.size)]) fun b w3 hb hz3 g3 hc3 _=>?_
 have z1:=g1.size
 have z2:=g2.size
 have hown:∀ g,(Value.slice ra keys.length rc).ownBlock=some g→g < w1.heap.size:=fun g hg=>(OwnR.ownB o1 g hg).2
 have I0:NewI w w3 b w1.heap.size (.slice ra keys.length rc) keys 0:=
  ⟨by have:=hc3 0 _ rfl;rwa [addr0] at this,by have:=hc3 1 _ rfl;rwa [addr0] at this,OwnR.mod o1 (g2.trans g3) (fun _ _ h=>h) fun _ _ _ h=>h,by simpa using hmp.mod g3 fun h=>h,by omega,by omega,by omega,fun g hg=>by have:=hown g hg;omega,(g1.trans g2).trans g3⟩
 generalize Value.slice ra keys.length rc=rv at I0 hown ⊢
 clear hc3 hmp o1
 generalize w1.heap.size=m at *
 rw [lenK_i]
 refine LoopK_i (fun vs W=>∃ i:Nat,i≤keys.length∧vs=[.int .i64 i]∧NewI w W b m rv keys i∧MayN keys i) (fun vs _=>keys.length - iOf vs 0) ⟨0,Nat.zero_le _,rfl,I0,fun i hi=>by omega⟩ ?_
 rintro vs W ⟨i,hi,rfl,I,hmay⟩ _
 rw [nth_z,List.headD_cons,ltK_i]
 refine condK_p (fun hlt=>?_) fun hge=>?_
 ·have hlt':i < keys.length:=by omega
  have hki:keys[i]?=some keys[i]:=List.getElem?_eq_getElem hlt'
  obtain ⟨p,r,rfl,_,hr,hc,rfl⟩:=(h.grow I.g (by decide) fun _ _ h=>h).get hlt'
  refine ixK_n hlt' (ldnK_i hr (fun j u hu=>by rw [Addr.add_add];exact hc j u hu) ?_)
  refine newst_n (vs:=keys[i].cells) rfl rfl (RKey.one (w:=w) (x:=keys[i]) rfl) fun b6 W1 hb6 hz6 g6 hc6 _=>?_
  have I1:=I.grow g6
  have bad:∀ W',Grow W1 W'→¬ MayKeys keys→(fun v' w'=>Grow w w'∧((MayKeys keys∧∃ (sv:Value) (ks:List DKey),v'=.tuple #[sv,.int .i64 0]∧ks.Perm keys∧ks.Pairwise (fun x y=>x.id < y.id)∧SchR (fun b=>w.heap.size≤b) w' sv ks)∨
   (¬ MayKeys keys∧v'=.tuple #[.pointer none,.int .i64 3]))) (Value.tuple #[.pointer none,.int .i64 3]) W':=fun W' g hn=>⟨I1.g.trans g,.inr ⟨hn,rfl⟩⟩
  refine JoinK_i (fun _ W2=>Grow W1 W2∧findK (keys.take i) keys[i].id=none∧KeyOK keys[i]) ?_ ?_
  ·rintro _ W2 ⟨gW2,hno,hok⟩ _
   have I2:=I1.grow gW2
   refine drawC_i (fun k y=>k=7∧y=m) ?_
   have gd:Grow W2 W2.drew:=Mod.drew _ _
   have I3:=I2.grow gd
   have c6:∀ j u,keys[i].cells[j]?=some u→W2.drew.cell? ((⟨b6,0,none⟩:Addr).add j)=some u:=fun j u hu=>(gW2.trans gd).cell (hc6 j u hu) fun h=>h
   refine nilckK_s ?_
   rw [faK_i]
   refine sld1_i ⟨by rw [addr0];exact I3.c1,fun j hj e=>by obtain ⟨rfl,_⟩:=e;exact absurd hj (by decide)⟩ ?_
   rw [faK_i]
   refine sld1_i ⟨c6 0 _ rfl,fun j hj e=>by obtain ⟨rfl,_⟩:=e;exact absurd hj (by decide)⟩ ?_
   refine sldn_i (vs:=keys[i].cells) rfl (fun j u hu=>⟨c6 j u hu,fun j hj e=>by obtain ⟨rfl,_⟩:=e;exact absurd hj (by decide)⟩) ?_
   obtain ⟨W4,hrun,hmp4,m4⟩:=map_update Tryz.underlying44 Tryz.underlying3 I3.mp keys[i].id (.agg keys[i].cells.toArray) (by rw [find_map,hno];rfl)
   refine runK_i (v:=undef) (w':=W4) (by simp only [Sem.run_bind,hrun,Result.andThen_ok,Sem.run_pure]) ⟨m4.mono fun y _ e=>⟨rfl,e⟩,?_⟩
   rw [addK_i,loop_step (by omega)]
   refine ⟨⟨i+1,hlt',rfl,⟨m4.cell I3.c0 (fun e=>I3.ne e.symm),m4.cell I3.c1 (fun e=>I3.ne e.symm),OwnR.mod I3.row m4 (fun g hg e=>(I3.own g hg).1 e) fun _ _ _ h=>h,?_,I3.hb,I3.hm,I3.ne,I3.own,I3.g.next m4 fun x hx e=>by have:=I3.hm;omega⟩,fun q hq k hk=>?_⟩,by rw [iOf0,iOf0];omega⟩
   ·rw [List.take_add_one,hki,List.map_append];exact hmp4
   ·by_cases e:q=i
    ·subst e
     rw [hki] at hk;cases hk
     refine ⟨hok,fun j hj k' hk' e=>?_⟩
     unfold findK at hno
     rw [List.find?_eq_none] at hno
     exact hno k' (List.mem_of_getElem? (by rw [List.getElem?_take,if_pos hj];exact hk')) (by simpa using e)
    ·exact hmay q (by omega) k hk
  ·refine JoinK_i (fun vs W2=>Grow W1 W2∧vs=[.bool (findK (keys.take i) keys[i].id).isSome]) ?_ ?_
   ·rintro _ W2 ⟨gW2,rfl⟩ _
    rw [nth_z,List.headD_cons]
    cases hf:findK (keys.take i) keys[i].id with
    | some k'=>
     refine condK_t (bad _ gW2 fun hM=>?_)
     have h1:=List.find?_some hf
     have h2:=List.mem_of_find?_eq_some hf
     obtain ⟨j,hj,e⟩:=List.getElem_of_mem h2
     rw [List.length_take] at hj
     rw [List.getElem_take] at e
     exact (hM.2 i hlt' _ hki).2 j (by omega) k' (by rw [List.getElem?_eq_getElem (by omega),e]) (by simpa using h1)
    | none=>
     refine condK_f (ldnK_i (vs:=keys[i].cells) rfl (fun j u hu=>gW2.cell (hc6 j u hu) fun h=>h) ?_)
     refine callK_mono may1_ok ?_
     rintro _ W3 ⟨rfl,g3'⟩
     rw [notK_i]
     refine condK_neg (fun hok=>⟨gW2.trans g3',rfl,hok⟩) fun hbad=>bad _ (gW2.trans g3') fun hM=>hbad (hM.2 i hlt' _ hki).1
   ·refine drawC_i (fun k y=>k=11∧W1.heap.size≤y) ?_
    have gd:Grow W1 W1.drew:=Mod.drew _ _
    have Id:=I1.grow gd
    refine nilckK_s ?_
    rw [faK_i]
    refine sld1_i ⟨by rw [addr0];exact Id.c1,fun j hj e=>by obtain ⟨rfl,_⟩:=e;exact absurd hj (by decide)⟩ ?_
    rw [faK_i]
    refine sld1_i ⟨gd.cell (hc6 0 _ rfl) fun h=>h,fun j hj e=>by obtain ⟨rfl,_⟩:=e;exact absurd hj (by decide)⟩ ?_
    have look:∀ W',Grow W1.drew W'→(Instr.lookup 44 (.map (some m)) (.int .i64 keys[i].id) true).run Tryz.prog W'=.ok (.tuple #[.agg (((findK (keys.take i) keys[i].id)).getD DKey.zero).cells.toArray,.bool (findK (keys.take i) keys[i].id).isSome]) W':=fun W' g'=>by
     have:=map_lookup Tryz.underlying44 Tryz.underlying3 (zero_key W') (Id.mp.mod g' fun h=>h) keys[i].id
     rw [this,find_map]
     cases findK (keys.take i) keys[i].id <;> rfl
    generalize (findK (keys.take i) keys[i].id).getD DKey.zero=kz at look
    have one:=RKey.one (w:=w) (x:=kz) rfl
    refine ⟨?_,?_⟩
    ·refine runK_i (look _ (Mod.refl _ _)) ⟨Mod.refl _ _,?_⟩
     refine extK_i (vs:=[_,_]) (by rfl) (extK_i (vs:=[_,_]) (by rfl) ?_)
     refine newz_i fun b7 W5 hb7 hz7 g7 _ hl7=>⟨g7.mono fun _ _ h=>h.elim,?_⟩
     refine stn_over rfl one hl7 fun W6 m6 _ _=>⟨m6.mono fun y _ e=>⟨rfl,by have:=gd.size;omega⟩,?_,rfl⟩
     exact (gd.trans g7).next m6 fun x hx e=>by have:=gd.size;omega
    ·refine newz_i fun b7 W5 hb7 hz7 g7 _ hl7=>⟨g7.mono fun _ _ h=>h.elim,?_⟩
     refine runK_i (look _ g7) ⟨Mod.refl _ _,?_⟩
     refine extK_i (vs:=[_,_]) (by rfl) (extK_i (vs:=[_,_]) (by rfl) ?_)
     refine stn_over rfl one hl7 fun W6 m6 _ _=>⟨m6.mono fun y _ e=>⟨rfl,by have:=gd.size;omega⟩,?_,rfl⟩
     exact (gd.trans g7).next m6 fun x hx e=>by have:=gd.size;omega
 ·have:i=keys.length:=by omega
  subst this
  refine nilckK_s ?_
  rw [faK_i]
  refine ld1K_i (by rw [addr0];exact I.c0) ?_
  refine callK_mono (sortk_ok I.row (by omega)) ?_
  rintro _ W2 ⟨ks,hp,hs,o2,m2⟩
  have hM:MayKeys keys:=⟨by omega,hmay⟩
  obtain ⟨_,_,hd⟩:=mayk_iff.1 hM
  have hd':=hd.perm hp.symm
  refine ⟨I.g.next m2 fun x hx e=>by have:=(OwnR.ownB I.row x e).1;omega,.inl ⟨hM,_,ks,rfl,hp,strict_of hd' hs,b,m,rv,_,rfl,I.hb,I.hm,m2.cell I.c0 fun e=>(I.own _ e).2 rfl,m2.cell I.c1 fun e=>(I.own _ e).2 rfl,(OwnR.sl o2).sub (fun _ _ h=>h.1) (by decide) fun _ _ h=>h,I.mp.mod m2 fun e=>(I.own _ e).1 rfl,fun id=>?_⟩⟩
  rw [List.take_length,find_map,findK_perm hp hd']
  cases findK keys id <;> rfl
end Go.Proofs.YtgmpbihbdbmhoaaGreatDoor

namespace Go.Proofs.YtgmpbihbdbmhoaaGreatDoor
open Go Go.K

theorem sl_keys {w:World} (l:List DKey) (hl:l.length≤1000):RKeys (fun b=>b=w.heap.size) (w.alloc (.cells (l.map DKey.cells).flatten.toArray 43)) (.slice (some ⟨w.heap.size,0,none⟩) l.length l.length) l:=by
 refine SlR.made (t:=43) (l.map DKey.cells) (fun r hr=>by obtain ⟨x,_,rfl⟩:=List.mem_map.1 hr;rfl) (by simp) (by simp only [maxLen];omega) fun i r x hr hx=>?_
 rw [List.getElem?_map,hx] at hr
 exact (Option.some.inj hr).symm
end Go.Proofs.YtgmpbihbdbmhoaaGreatDoor

namespace Go.Proofs.YtgmpbihbdbmhoaaGreatDoor
open Go Go.K

open Classical in
theorem sfits_ok {D:Nat→Prop} {v:Value} {ks:List DKey} {id:Int} {x:AVal} {w:World} (h:SchR D w v ks) (hT:Tabs w) (h0:0≤x.f) :
  callK Tryz.prog 131 [v,.int .i64 id,.agg x.cells.toArray] (fun v' w'=>v'=.bool (decide (FitsK ks id x))∧Grow w w') w:=by
 apply S131_ok
 unfold S131
 have no:∀ w',Grow w w'→¬ FitsK ks id x→Value.bool false=.bool (decide (FitsK ks id x))∧Grow w w':=fun w' g h=>⟨by rw [decide_eq_false h],g⟩
 refine boxn_i fun b w1 _ hz g hc _=>?_
 refine callK_mono (sfind_ok (h.grow g) id) ?_
 rintro _ w2 ⟨rfl,g2⟩
 refine extK_i (vs:=[_,_]) (by rfl) (extK_i (vs:=[_,_]) (by rfl) ?_)
 generalize hk:(findK ks id).getD DKey.zero=k
 refine newst_n (vs:=k.cells) rfl rfl (RKey.one (w:=w) (x:=k) rfl) fun b5 w3 hb5 hz5 g5 hc5 _=>?_
 have g13:=g2.trans g5
 have g03:=g.trans g13
 cases hf:findK ks id with
 | none=>
  rw [Option.isSome_none]
  exact no _ g03 (by rintro ⟨k,e,_⟩;rw [hf] at e;cases e)
 | some k'=>
  rw [hf] at hk
  simp only [Option.getD_some] at hk
  subst hk
  rw [Option.isSome_some]
  refine condK_t ?_
  rw [faK_i]
  refine ld1K_i (hc5 2 _ rfl) ?_
  rw [faK_i]
  refine ld1K_i (g13.cell (hc 0 _ rfl) fun h=>h) ?_
  rw [eqK_i]
  refine condK_p (fun he=>?_) fun he=>no _ g03 (by rintro ⟨k,e,_,h⟩;rw [hf] at e;cases e;exact he h.symm)
  refine ldnK_i (vs:=x.cells) rfl (fun j u hu=>g13.cell (hc j u hu) fun h=>h) (callK_mono (vmay_ok (hT.grow g03) h0) ?_)
  rintro _ w4 ⟨rfl,g4⟩
  refine ⟨?_,g03.trans g4⟩
  congr 1
  rw [decide_eq_decide]
  constructor
  ·intro ho;exact ⟨k',hf,ho,he.symm⟩
  ·rintro ⟨_,_,ho,_⟩;exact ho

end Go.Proofs.YtgmpbihbdbmhoaaGreatDoor

namespace Go.Proofs.YtgmpbihbdbmhoaaGreatDoor
open Go Go.K

theorem OBytes.low {B B':Nat} {w:World} {v:Value} {l:List Int} (h:OBytes B w v l) (hb:B'≤B):OBytes B' w v l:=h.base fun g hg=>by have:=(OwnR.ownB h g hg).1;omega
theorem smay_ok {D S:Nat→Prop} {sv v:Value} {ks:List DKey} {l:List Attr} {w:World} (hS:SchR D w sv ks) (h:RSet S w v l) (hT:Tabs w) (hI:∀ a ∈ l,0≤a.val.f) :
  callK Tryz.prog 89 [sv,v] (fun v' w'=>v'=.int .i64 (maySet ks l)∧Grow w w') w:=by
 classical
 apply S89_ok
 unfold S89
 obtain ⟨a,c,rfl,hm⟩:=h.shape
 simp only [maxLen] at hm
 have bad:∀ w',Grow w w'→SetBad l→Value.int .i64 3=.int .i64 (maySet ks l)∧Grow w w':=fun w' g hb=>⟨by rw [maySet,if_pos hb],g⟩
 rw [lenK_i,gtK_i]
 refine condK_p (fun h6=>bad _ (Mod.refl _ _) (.inr (.inl (by omega)))) fun h6=>?_
 rw [lenK_i]
 refine LoopK_i (fun vs W=>∃ i:Nat,i≤l.length∧vs=[.int .i64 (if SetNoKey ks (l.take i) then 4 else 0),.int .i64 i]∧Grow w W∧(∀ a ∈ l.take i,ValOK a.val)∧RisN Attr.key l i) (fun vs _=>l.length - iOf vs 1)
  ⟨0,Nat.zero_le _,by rw [if_neg (by rintro ⟨a,ha,_⟩;simp at ha)];rfl,Mod.refl _ _,by simp,fun j hj=>by omega⟩ ?_
 rintro vs W ⟨i,hi,rfl,g,hv,hris⟩ _
 simp only [nth_s,nth_z,List.headD_cons,List.tail_cons]
 rw [ltK_i]
 refine condK_p (fun hlt=>?_) fun hge=>?_
 ·have hlt':i < l.length:=by omega
  obtain ⟨p,r,rfl,_,hr,hc,rfl⟩:=(h.grow g (by decide) fun _ _ h=>h).get hlt'
  refine ixK_n hlt' (ldnK_i hr (fun j u hu=>by rw [Addr.add_add];exact hc j u hu) ?_)
  refine newst_n (vs:=l[i].cells) rfl rfl (RAttr.one (w:=w) (x:=l[i]) rfl) fun b7 W1 hb7 hz7 g7 hc7 _=>?_
  have gW1:=g.trans g7
  have hf0:=hI l[i] (List.getElem_mem hlt')
  have e1:l.take (i+1)=l.take i++[l[i]]:=by rw [List.take_add_one,List.getElem?_eq_getElem hlt'];rfl
  refine JoinK_i (fun vs W2=>Grow W1 W2∧((vs=[.bool true]∧SetBad l)∨(vs=[.bool false]∧ValOK l[i].val∧RisN Attr.key l (i+1)))) ?_ ?_
  ·rintro vs W2 ⟨g2,hvs⟩ _
   rcases hvs with ⟨rfl,hb⟩ | ⟨rfl,hok,hrs⟩
   ·exact condK_t (bad _ (gW1.trans g2) hb)
   ·refine condK_f ?_
    rw [faK_i]
    refine ld1K_i (g2.cell (hc7 0 _ rfl) fun h=>h) ?_
    rw [faK_i]
    refine ldnK_i (vs:=l[i].val.cells) rfl (fun j u hu=>g2.cell (by rw [Addr.add_add];exact hc7 (1+j) u (by rw [Nat.add_comm];exact hu)) fun h=>h) ?_
    refine callK_mono (sfits_ok (hS.grow (gW1.trans g2)) (hT.grow (gW1.trans g2)) hf0) ?_
    rintro _ W3 ⟨rfl,g3⟩
    have g03:=(gW1.trans g2).trans g3
    rw [notK_i]
    have hv':∀ a ∈ l.take (i+1),ValOK a.val:=fun a ha=>by
     rw [e1] at ha
     rcases List.mem_append.1 ha with ha | ha
     ·exact hv a ha
     ·simp at ha;subst ha;exact hok
    by_cases hfit:FitsK ks l[i].key l[i].val
    ·rw [decide_eq_true hfit]
     refine condK_f ?_
     rw [addK_i,loop_step (by omega)]
     refine ⟨⟨i+1,hlt',?_,g03,hv',hrs⟩,by rw [iOf1,iOf1];omega⟩
     have e:SetNoKey ks (l.take (i+1))↔SetNoKey ks (l.take i):=by
      unfold SetNoKey
      rw [e1]
      constructor
      ·rintro ⟨a,ha,hn⟩
       rcases List.mem_append.1 ha with ha | ha
       ·exact ⟨a,ha,hn⟩
       ·simp at ha;subst ha;exact absurd hfit hn
      ·rintro ⟨a,ha,hn⟩;exact ⟨a,List.mem_append_left _ ha,hn⟩
     simp only [e]
    ·rw [decide_eq_false hfit]
     refine condK_t ?_
     rw [addK_i,loop_step (by omega)]
     refine ⟨⟨i+1,hlt',?_,g03,hv',hrs⟩,by rw [iOf1,iOf1];omega⟩
     rw [if_pos (show SetNoKey ks (l.take (i+1)) from ⟨l[i],by rw [e1];exact List.mem_append_right _ (List.mem_singleton.2 rfl),hfit⟩)]
  ·refine drawC_i (fun _ _=>False) ?_
   have gd:Grow W1 W1.drew:=Mod.drew _ _
   -- whether the value may be
   have vmay:RisN Attr.key l (i+1)→faK 1 (.pointer (some (⟨b7,0,none⟩:Addr))) fun t33=>sldn (StI [16] [[],[0],[0,1],[0,1,2],[0,1,2],[0,1,2,4],[0,1,2,3,4,5],[0,1,2,3,4,5,6],[0,1,2,3,4,5,6,7],[0,1,2],[0,1,2,9],[0,1,2,3,4,5,6,7,8,9,10],[0,1,2,3,4,5,6,7,8,9,10,11],[0,1,2,3,4,5,6,7,8,9,10,11,12],[0,1,2,3,4,5,6,7,8,9,10,11,12,13],[0,1,2,3,4,5,6,7,8,9,10,11,12,13,14],[0,1,2,3,4,5,6,7,8,9,10,11,12,13,14,15],[0,1,2,3,4,5,6,7,8,9,10,11,12,13,14,15,16],[0,1,2,3,4,5,6,7,8,9,10,11,12,13,14,15,16,17],[0,1,2,3,4,5,6,7,8,9,10,11,12,13,14,15,16,17,18]] (fun _ _=>False) W1.drew 15) 4 t33 fun t34=>
     callK Tryz.prog 130 [t34] (fun t35 w9=>Mod (fun _=>False) W1.drew w9∧notK t35 fun t36=>(fun vs W2=>Grow W1 W2∧((vs=[.bool true]∧SetBad l)∨(vs=[.bool false]∧ValOK l[i].val∧RisN Attr.key l (i+1)))) [t36] w9) W1.drew:=by
    intro hrs
    rw [faK_i]
    refine sldn_i (vs:=l[i].val.cells) rfl (fun j u hu=>⟨gd.cell (by rw [Addr.add_add];exact hc7 (1+j) u (by rw [Nat.add_comm];exact hu)) fun h=>h,fun _ _ h=>h⟩) ?_
    refine callK_mono (vmay_ok (hT.grow (gW1.trans gd)) hf0) ?_
    rintro _ W3 ⟨rfl,g3⟩
    refine ⟨g3,?_⟩
    rw [notK_i]
    refine ⟨gd.trans g3,?_⟩
    by_cases hok:ValOK l[i].val
    ·exact .inr ⟨by rw [decide_eq_true hok];rfl,hok,hrs⟩
    ·exact .inl ⟨by rw [decide_eq_false hok];rfl,.inr (.inr ⟨l[i],List.getElem_mem hlt',hok⟩)⟩
   rw [gtK_i]
   refine condK_p (fun hi0=>?_) fun hi0=>vmay (fun j hj=>by omega)
   rw [subK_i,wrap64 (by omega) (by omega),show ((i:Int) - 1)=((i - 1:Nat):Int) by omega]
   have hi1:i - 1 < l.length:=by omega
   obtain ⟨_,r2,e2,_,hr2,hc2,rfl⟩:=(h.grow g (by decide) fun _ _ h=>h).get hi1
   cases e2
   refine ixK_n hi1 ?_
   rw [faK_i,Addr.add_add]
   refine sld1_i ⟨(g7.trans gd).cell (hc2 0 _ rfl) fun h=>h,fun _ _ h=>h⟩ ?_
   rw [faK_i]
   refine sld1_i ⟨gd.cell (hc7 0 _ rfl) fun h=>h,fun _ _ h=>h⟩ ?_
   rw [geK_i]
   refine condK_p (fun hge=>⟨gd,.inl ⟨rfl,.inl fun hr=>?_⟩⟩) fun hlt2=>vmay ?_
   ·have:=hr i (by omega) hlt' _ _ (List.getElem?_eq_getElem hi1) (List.getElem?_eq_getElem hlt')
    omega
   ·intro j hj1 hj2 x y hx hy
    by_cases hji:j < i
    ·exact hris j hj1 hji x y hx hy
    ·have:j=i:=by omega
     subst this
     rw [List.getElem?_eq_getElem hi1] at hx
     rw [List.getElem?_eq_getElem hlt'] at hy
     cases hx;cases hy
     omega
 ·have:i=l.length:=by omega
  subst this
  rw [List.take_length] at hv
  refine ⟨?_,g⟩
  have ok:¬ SetBad l:=by
   rintro (h | h | ⟨a,ha,h⟩)
   ·exact h hris
   ·omega
   ·exact h (hv a ha)
  rw [List.take_length,maySet,if_neg ok]
end Go.Proofs.YtgmpbihbdbmhoaaGreatDoor

namespace Go.Proofs.YtgmpbihbdbmhoaaGreatDoor
open Go Go.K

theorem validr_ok {r:Int} {w:World}:callK Tryz.prog 140 [.int .i32 r] (fun v' w'=>v'=.bool (decide (MayR r))∧w'=w) w:=by
 apply S140_ok
 unfold S140
 have key:∀ {b:Bool},(b=true↔MayR r)→Value.bool b=.bool (decide (MayR r))∧w=w:=fun h=>⟨by congr 1;rw [Bool.eq_iff_iff,h,decide_eq_true_eq],rfl⟩
 unfold MayR at key ⊢
 rw [leK_i]
 refine condK_p (fun h0=>?_) fun h0=>?_
 ·rw [ltK_i]
  refine condK_p (fun h1=>key (by simp;omega)) fun h1=>?_
  rw [ltK_i]
  refine condK_p (fun h2=>?_) fun h2=>key (by simp;omega)
  rw [leK_i]
  exact condK_p (fun h3=>key (by simp;omega)) fun h3=>key (by simp;omega)
 ·rw [ltK_i]
  refine condK_p (fun h2=>?_) fun h2=>key (by simp;omega)
  rw [leK_i]
  exact condK_p (fun h3=>key (by simp;omega)) fun h3=>key (by simp;omega)
theorem rmayp_ok {r:Int} {w:World}:callK Tryz.prog 102 [.int .i32 r] (fun v' w'=>v'=.bool (decide (MayR r))∧w'=w) w:=by
 apply S102_ok
 unfold S102
 exact validr_ok
theorem crunes_ok {S:Nat→Prop} {v:Value} {l:List Int} {w:World} (h:RRun S w v l) :
  callK Tryz.prog 128 [v,.func (.func 129) #[] #[]] (fun v' w'=>v'=.bool (!decide (∀ r ∈ l,MayR r))∧w'=w) w:=by
 apply S128_ok
 unfold S128
 refine callK_mono (K:=fun v' w'=>w'=w∧((v'=.int .i64 (-1)∧∀ r ∈ l,MayR r)∨∃ i:Nat,v'=.int .i64 i∧¬ ∀ r ∈ l,MayR r)) ?_ ?_
 ·apply S148_ok
  unfold S148
  obtain ⟨a,c,rfl,hm⟩:=h.shape
  simp only [maxLen] at hm
  rw [lenK_i]
  refine LoopK_i (fun vs W=>∃ i:Nat,i≤l.length∧vs=[.int .i64 i]∧W=w∧∀ c ∈ l.take i,MayR c) (fun vs _=>l.length - iOf vs 0) ⟨0,Nat.zero_le _,rfl,rfl,by simp⟩ ?_
  rintro vs _ ⟨i,hi,rfl,rfl,hall⟩ _
  rename World=>w
  rw [nth_z,List.headD_cons,ltK_i]
  refine condK_p (fun hlt=>?_) fun hge=>?_
  ·have hlt':i < l.length:=by omega
   obtain ⟨q,r,rfl,_,hr,hc,rfl⟩:=h.get hlt'
   refine ixK_n hlt' (ld1K_i (by have:=hc 0 _ rfl;exact this) ?_)
   refine callyK_f (by kernel_rfl) ?_
   apply S129_ok
   unfold S129
   refine callK_mono rmayp_ok ?_
   rintro _ _ ⟨rfl,rfl⟩
   rename World=>w
   rw [notK_i]
   by_cases hm1:MayR l[i]
   ·rw [decide_eq_true hm1]
    refine condK_f ?_
    rw [addK_i,loop_step (by omega)]
    refine ⟨⟨i+1,hlt',rfl,rfl,fun c hc=>?_⟩,by rw [iOf0,iOf0];omega⟩
    rw [List.take_add_one,List.getElem?_eq_getElem hlt'] at hc
    rcases List.mem_append.1 hc with hc | hc
    ·exact hall c hc
    ·simp at hc;subst hc;exact hm1
   ·rw [decide_eq_false hm1]
    exact condK_t ⟨rfl,.inr ⟨i,rfl,fun hall=>hm1 (hall _ (List.getElem_mem hlt'))⟩⟩
  ·have:i=l.length:=by omega
   subst this
   exact ⟨rfl,.inl ⟨rfl,fun c hc=>hall c (by rw [List.take_length];exact hc)⟩⟩
 ·rintro _ _ ⟨rfl,⟨rfl,hall⟩ | ⟨i,rfl,hn⟩⟩
  ·rw [geK_i]
   exact ⟨by rw [decide_eq_true hall];rfl,rfl⟩
  ·rw [geK_i]
   exact ⟨by rw [decide_eq_false hn,decide_eq_true (by omega:(i:Int) ≥ 0)];rfl,rfl⟩
def FormP (o:Dop):Prop:=(o.kind=1∧o.runes=[]∧o.set=[])∨(o.kind=3∧o.runes=[]∧o.set=[]∧o.patch=[])∨(o.kind=2∧o.n=0∧o.patch=[]∧∀ r ∈ o.runes,MayR r)
instance (o:Dop):Decidable (FormP o):=by unfold FormP;infer_instance
theorem formO_iff (o:Dop):FormO o↔FormP o∧1≤lenO o∧lenO o≤536870912:=by
 unfold FormO FormP lenO
 constructor
 ·rintro (⟨h1,h2,h3,h4,h5⟩ | ⟨h1,h2,h3,h4,h5,h6⟩ | ⟨h1,h2,h3,h4,h5,h6⟩)
  ·exact ⟨.inl ⟨h1,h2,h3⟩,by rw [h1,if_neg (by decide)];exact h4,by rw [h1,if_neg (by decide)];exact h5⟩
  ·exact ⟨.inr (.inl ⟨h1,h2,h3,h4⟩),by rw [h1,if_neg (by decide)];exact h5,by rw [h1,if_neg (by decide)];exact h6⟩
  ·exact ⟨.inr (.inr ⟨h1,h3,h4,h2⟩),by rw [if_pos h1];omega,by rw [if_pos h1];omega⟩
 ·rintro ⟨⟨h1,h2,h3⟩ | ⟨h1,h2,h3,h4⟩ | ⟨h1,h2,h3,h4⟩,h5,h6⟩
  ·rw [h1,if_neg (by decide)] at h5 h6;exact .inl ⟨h1,h2,h3,h5,h6⟩
  ·rw [h1,if_neg (by decide)] at h5 h6;exact .inr (.inl ⟨h1,h2,h3,h4,h5,h6⟩)
  ·rw [if_pos h1] at h5 h6;exact .inr (.inr ⟨h1,h4,h2,h3,by omega,by omega⟩)
theorem formp_ok {D:Nat→Prop} {r:List Value} {o:Dop} {w:World} (h:RDop D w r o) :
  callK Tryz.prog 87 [.agg r.toArray] (fun v w'=>v=.bool (decide (FormP o))∧Grow w w') w:=by
 apply S87_ok
 unfold S87
 have hr1:=h.one
 obtain ⟨rv,sv,pv,rfl,h1,h2,h3⟩:=h
 refine boxn_i fun b w1 _ hz g hc _=>?_
 have h1':=h1.grow g (by decide) fun _ _ h=>h
 obtain ⟨a1,c1,rfl,m1⟩:=h1.shape
 obtain ⟨a2,c2,rfl,m2⟩:=h2.shape
 obtain ⟨a3,c3,rfl,m3⟩:=h3.shape
 have key:∀ {x:Bool},(x=true↔FormP o)→Value.bool x=.bool (decide (FormP o))∧Grow w w1:=fun h=>⟨by congr 1;rw [Bool.eq_iff_iff,h,decide_eq_true_eq],g⟩
 unfold FormP at key ⊢
 refine JoinK_i (fun vs w2=>w2=w1∧vs=[.bool (decide (¬ (o.runes=[]∧o.set=[])))]) ?_ ?_
 rotate_left
 ·rw [faK_i]
  refine ld1K_i (hc 2 _ rfl) ?_
  rw [lenK_i,gtK_i]
  refine condK_p (fun e=>?_) fun e=>?_
  ·refine ⟨rfl,?_⟩
   rw [decide_eq_true]
   rintro ⟨e2,_⟩;rw [e2] at e;simp at e
  ·have e1:o.runes=[]:=List.eq_nil_of_length_eq_zero (by omega)
   rw [faK_i]
   refine ld1K_i (hc 3 _ rfl) ?_
   rw [lenK_i,gtK_i]
   refine ⟨rfl,?_⟩
   congr 2
   rw [decide_eq_decide]
   constructor
   ·rintro e3 ⟨_,e4⟩;rw [e4] at e3;simp at e3
   ·intro e3
    have:o.set≠[]:=fun e4=>e3 ⟨e1,e4⟩
    have:=List.length_pos_iff.2 this
    omega
 rintro _ _ ⟨rfl,rfl⟩ _
 rename World=>w1
 rw [nth_z,List.headD_cons,faK_i]
 refine ld1K_i (hc 0 _ rfl) ?_
 rw [eqK_i]
 refine condK_p (fun k1=>?_) fun k1=>?_
 ·rw [notK_i]
  refine key ?_
  simp only [k1,decide_not,Bool.not_not,decide_eq_true_eq]
  constructor
  ·exact fun h=>.inl ⟨trivial,h⟩
  ·rintro (h | h | h)
   ·exact h.2
   ·omega
   ·omega
 rw [eqK_i]
 refine condK_p (fun k3=>?_) fun k3=>?_
 ·rw [notK_i]
  by_cases hT:o.runes=[]∧o.set=[]
  ·rw [show (!decide ¬ (o.runes=[]∧o.set=[]))=true by simp [hT]]
   refine condK_t ?_
   rw [faK_i]
   refine ld1K_i (hc 4 _ rfl) ?_
   rw [lenK_i,eqK_i]
   refine key ?_
   rw [decide_eq_true_eq,len0]
   constructor
   ·exact fun h=>.inr (.inl ⟨k3,hT.1,hT.2,h⟩)
   ·rintro (h | h | h)
    ·omega
    ·exact h.2.2.2
    ·omega
  ·rw [show (!decide ¬ (o.runes=[]∧o.set=[]))=false by simp [hT]]
   refine condK_f (key ?_)
   simp only [Bool.false_eq_true,false_iff]
   rintro (h | h | h)
   ·omega
   ·exact hT ⟨h.2.1,h.2.2.1⟩
   ·omega
 rw [eqK_i]
 refine condK_p (fun k2=>?_) fun k2=>key (by simp only [Bool.false_eq_true,false_iff];rintro (h | h | h) <;> omega)
 rw [faK_i]
 refine ld1K_i (hc 1 _ rfl) ?_
 rw [eqK_i]
 refine condK_p (fun hn=>?_) fun hn=>key (by simp only [Bool.false_eq_true,false_iff];rintro (h | h | h) <;> omega)
 rw [faK_i]
 refine ld1K_i (hc 4 _ rfl) ?_
 rw [lenK_i,eqK_i]
 refine condK_p (fun hp=>?_) fun hp=>key (by
  simp only [Bool.false_eq_true,false_iff]
  rintro (h | h | h)
  ·omega
  ·omega
  ·exact hp (len0.2 h.2.2.1))
 rw [len0] at hp
 rw [faK_i]
 refine ld1K_i (hc 2 _ rfl) ?_
 refine callK_mono (crunes_ok h1') ?_
 rintro _ _ ⟨rfl,rfl⟩
 rename World=>w1
 rw [notK_i,Bool.not_not]
 refine key ?_
 rw [decide_eq_true_eq]
 constructor
 ·exact fun h=>.inr (.inr ⟨k2,hn,hp,h⟩)
 ·rintro (h | h | h)
  ·omega
  ·omega
  ·exact h.2.2.2
theorem sizep_ok {D:Nat→Prop} {r:List Value} {o:Dop} {w:World} (h:RDop D w r o) :
  callK Tryz.prog 88 [.agg r.toArray] (fun v w'=>v=.int .i64 (lenO o)∧Grow w w') w:=by
 apply S88_ok
 unfold S88
 obtain ⟨rv,sv,pv,rfl,h1,h2,h3⟩:=h
 obtain ⟨a1,c1,rfl,m1⟩:=h1.shape
 refine boxn_i fun b w1 _ hz g hc _=>?_
 rw [faK_i]
 refine ld1K_i (hc 0 _ rfl) ?_
 rw [eqK_i]
 refine condK_p (fun k1=>?_) fun k1=>?_
 ·rw [faK_i]
  refine ld1K_i (hc 2 _ rfl) ?_
  rw [lenK_i]
  exact ⟨by rw [lenO,if_pos k1],g⟩
 ·rw [faK_i]
  refine ld1K_i (hc 1 _ rfl) ?_
  exact ⟨by rw [lenO,if_neg k1],g⟩
theorem takesp_ok {S D:Nat→Prop} {v:Value} {x:List Dop} {w:World} (h:RDops S D w v x) :
  callK Tryz.prog 43 [v] (fun v' w'=>v'=.int .i64 (sumW takesF x)∧Grow w w') w:=by
 apply S43_ok
 unfold S43
 obtain ⟨a,c,rfl,hm⟩:=h.shape
 simp only [maxLen] at hm
 rw [lenK_i]
 refine LoopK_i (fun vs w1=>∃ k:Nat,k≤x.length∧vs=[.int .i64 (sumW takesF (x.take k)),.int .i64 k]∧Grow w w1) (fun vs _=>x.length - iOf vs 1) ⟨0,Nat.zero_le _,rfl,Mod.refl _ _⟩ ?_
 rintro vs w1 ⟨k,hk,rfl,g⟩ _
 simp only [nth_s,nth_z,List.headD_cons,List.tail_cons]
 rw [ltK_i]
 refine condK_p (fun hlt=>?_) fun hge=>?_
 ·have hlt':k < x.length:=by omega
  obtain ⟨p,r,rfl,hS,hr,hc,hop⟩:=(RDops.grow h g).get hlt'
  refine ixK_n hlt' (ldnK_i hr (fun j u hu=>by rw [Addr.add_add];exact hc j u hu) ?_)
  refine newst_n hr rfl hop.one fun b w2 hb hz g2 hc2 _=>?_
  obtain ⟨rv,sv,pv,rfl,h1,h2,h3⟩:=hop
  rw [faK_i]
  refine ld1K_i (hc2 0 _ rfl) ?_
  rw [neK_i]
  refine condK_neg (fun e=>?_) fun e=>?_
  ·rw [addK_i,loop_step (by omega)]
   refine ⟨⟨k+1,hlt',?_,g.trans g2⟩,by rw [iOf1,iOf1];omega⟩
   rw [sumW_take hlt',takesF,if_pos e,Int.add_zero]
   have:IntKind.i64.wrap (sumW takesF (x.take k))=sumW takesF (x.take k):=by
    by_cases h0:k=0
    ·subst h0;simp [sumW];rfl
    ·obtain ⟨k',rfl⟩:∃ k',k=k'+1:=⟨k - 1,by omega⟩
     rw [sumW_take (by omega)]
     have:=wrap_range (sumW takesF (x.take k')+takesF x[k'])
     rw [wrap64 (by omega) (by omega)]
   rw [this]
  ·rw [faK_i]
   refine ld1K_i (hc2 1 _ rfl) ?_
   rw [addK_i,addK_i,loop_step (by omega)]
   refine ⟨⟨k+1,hlt',?_,g.trans g2⟩,by rw [iOf1,iOf1];omega⟩
   rw [sumW_take hlt',takesF,if_neg e]
 ·have:k=x.length:=by omega
  subst this
  rw [List.take_length]
  exact ⟨rfl,g⟩
theorem makesp_ok {S D:Nat→Prop} {v:Value} {x:List Dop} {w:World} (h:RDops S D w v x) :
  callK Tryz.prog 44 [v] (fun v' w'=>v'=.int .i64 (sumW makesF x)∧Grow w w') w:=by
 apply S44_ok
 unfold S44
 obtain ⟨a,c,rfl,hm⟩:=h.shape
 simp only [maxLen] at hm
 rw [lenK_i]
 refine LoopK_i (fun vs w1=>∃ k:Nat,k≤x.length∧vs=[.int .i64 (sumW makesF (x.take k)),.int .i64 k]∧Grow w w1) (fun vs _=>x.length - iOf vs 1) ⟨0,Nat.zero_le _,rfl,Mod.refl _ _⟩ ?_
 rintro vs w1 ⟨k,hk,rfl,g⟩ _
 simp only [nth_s,nth_z,List.headD_cons,List.tail_cons]
 rw [ltK_i]
 refine condK_p (fun hlt=>?_) fun hge=>?_
 ·have hlt':k < x.length:=by omega
  obtain ⟨p,r,rfl,hS,hr,hc,hop⟩:=(RDops.grow h g).get hlt'
  refine ixK_n hlt' (ldnK_i hr (fun j u hu=>by rw [Addr.add_add];exact hc j u hu) ?_)
  refine newst_n hr rfl hop.one fun b w2 hb hz g2 hc2 _=>?_
  have hop2:=hop.mod (D':=D) g2 (fun _ _ _ h=>h) fun _ _ h=>h
  obtain ⟨rv,sv,pv,rfl,h1,h2,h3⟩:=id hop
  rw [faK_i]
  refine ld1K_i (hc2 0 _ rfl) ?_
  rw [neK_i]
  refine condK_neg (fun e=>?_) fun e=>?_
  ·rw [addK_i,loop_step (by omega)]
   refine ⟨⟨k+1,hlt',?_,g.trans g2⟩,by rw [iOf1,iOf1];omega⟩
   rw [sumW_take hlt',makesF,if_pos e,Int.add_zero]
   have:IntKind.i64.wrap (sumW makesF (x.take k))=sumW makesF (x.take k):=by
    by_cases h0:k=0
    ·subst h0;simp [sumW];rfl
    ·obtain ⟨k',rfl⟩:∃ k',k=k'+1:=⟨k - 1,by omega⟩
     rw [sumW_take (by omega)]
     have:=wrap_range (sumW makesF (x.take k')+makesF x[k'])
     rw [wrap64 (by omega) (by omega)]
   rw [this]
  ·refine ldnK_i hr hc2 ?_
   refine callK_mono (sizep_ok hop2) ?_
   rintro _ w3 ⟨rfl,g3⟩
   rw [addK_i,addK_i,loop_step (by omega)]
   refine ⟨⟨k+1,hlt',?_,(g.trans g2).trans g3⟩,by rw [iOf1,iOf1];omega⟩
   rw [sumW_take hlt',makesF,if_neg e]
 ·have:k=x.length:=by omega
  subst this
  rw [List.take_length]
  exact ⟨rfl,g⟩
theorem ite_iff {α:Type} {p q:Prop} [Decidable p] [Decidable q] {a b:α} (h:p↔q):(if p then a else b)=if q then a else b:=by
 by_cases hp:p
 ·rw [if_pos hp,if_pos (h.1 hp)]
 ·rw [if_neg hp,if_neg fun hq=>hp (h.2 hq)]
def ChgBad (c:Chg):Prop:=(c.gone=true∧c.val≠AVal.zero)∨(c.gone=false∧¬ ValOK c.val)
def ChgNo (ks:List DKey) (c:Chg):Prop:=findK ks c.key=none∨(c.gone=false∧¬ FitsK ks c.key c.val)
set_option maxRecDepth 20000 in
open Classical in
theorem pmayp_ok {D S:Nat→Prop} {sv v:Value} {ks:List DKey} {p:List Chg} {w:World} (hS:SchR D w sv ks) (h:RPat S w v p) (hT:Tabs w) (hI:∀ c ∈ p,0≤c.val.f) :
  callK Tryz.prog 90 [sv,v] (fun v' w'=>v'=.int .i64 (mayPat ks p)∧Grow w w') w:=by
 apply S90_ok
 unfold S90
 obtain ⟨a,c,rfl,hm⟩:=h.shape
 simp only [maxLen] at hm
 have bad:∀ w',Grow w w'→PatBad p→Value.int .i64 3=.int .i64 (mayPat ks p)∧Grow w w':=fun w' g hb=>⟨by rw [mayPat,if_pos hb],g⟩
 rw [lenK_i,gtK_i]
 refine condK_p (fun h6=>bad _ (Mod.refl _ _) (.inr (.inl (by omega)))) fun h6=>?_
 rw [lenK_i]
 refine LoopK_i (fun vs W=>∃ i:Nat,i≤p.length∧vs=[.int .i64 (if PatNoKey ks (p.take i) then 4 else 0),.int .i64 i]∧Grow w W∧(∀ a ∈ p.take i,¬ ChgBad a)∧RisN Chg.key p i) (fun vs _=>p.length - iOf vs 1)
  ⟨0,Nat.zero_le _,by rw [if_neg (by rintro ⟨a,ha,_⟩;simp at ha)];rfl,Mod.refl _ _,by simp,fun j hj=>by omega⟩ ?_
 rintro vs W ⟨i,hi,rfl,g,hv,hris⟩ _
 simp only [nth_s,nth_z,List.headD_cons,List.tail_cons]
 rw [ltK_i]
 refine condK_p (fun hlt=>?_) fun hge=>?_
 rotate_left
 ·have:i=p.length:=by omega
  subst this
  rw [List.take_length] at hv ⊢
  refine ⟨?_,g⟩
  have hnb:¬ PatBad p:=by
   rintro (hn | hn | ⟨c,hc,hn⟩)
   ·exact hn hris
   ·omega
   ·exact hv c hc hn
  unfold mayPat
  rw [if_neg hnb]
 have hlt':i < p.length:=by omega
 have hmem:=List.getElem_mem hlt'
 have hf0:=hI p[i] hmem
 have e1:p.take (i+1)=p.take i++[p[i]]:=by rw [List.take_add_one,List.getElem?_eq_getElem hlt'];rfl
 have hno:PatNoKey ks (p.take (i+1))↔PatNoKey ks (p.take i)∨ChgNo ks p[i]:=by
  unfold PatNoKey ChgNo
  rw [e1]
  constructor
  ·rintro ⟨a,ha,hn⟩
   rcases List.mem_append.1 ha with ha | ha
   ·exact .inl ⟨a,ha,hn⟩
   ·simp at ha;subst ha;exact .inr hn
  ·rintro (⟨a,ha,hn⟩ | hn)
   ·exact ⟨a,List.mem_append_left _ ha,hn⟩
   ·exact ⟨p[i],List.mem_append_right _ (List.mem_singleton.2 rfl),hn⟩
 refine JoinK_i (fun vs W2=>Grow w W2∧vs=[.int .i64 (if PatNoKey ks (p.take (i+1)) then 4 else 0)]∧¬ ChgBad p[i]∧RisN Chg.key p (i+1)) ?_ ?_
 ·rintro vs W2 ⟨g2,rfl,hnb,hr⟩ _
  simp only [nth_s,nth_z,List.headD_cons,List.tail_cons]
  rw [addK_i,loop_step (by omega)]
  refine ⟨⟨i+1,hlt',rfl,g2,fun a ha=>?_,hr⟩,by rw [iOf1,iOf1];omega⟩
  rw [e1] at ha
  rcases List.mem_append.1 ha with ha | ha
  ·exact hv a ha
  ·simp at ha;subst ha;exact hnb
 obtain ⟨q,r,rfl,_,hr,hc,rfl⟩:=(h.grow g (by decide) fun _ _ h=>h).get hlt'
 refine ixK_n hlt' (ldnK_i hr (fun j u hu=>by rw [Addr.add_add];exact hc j u hu) ?_)
 refine newst_n (vs:=p[i].cells) rfl rfl (RChg.one (w:=w) (x:=p[i]) rfl) fun b7 W1 hb7 hz7 g7 hc7 _=>?_
 rw [faK_i]
 refine ld1K_i (hc7 0 _ rfl) ?_
 refine callK_mono (sfind_ok (hS.grow (g.trans g7)) p[i].key) ?_
 rintro _ W2 ⟨rfl,g2⟩
 refine extK_i (vs:=[_,_]) (by rfl) (extK_i (vs:=[_,_]) (by rfl) ?_)
 refine newst_n (vs:=((findK ks p[i].key).getD DKey.zero).cells) rfl rfl (RKey.one (w:=W2) (x:=(findK ks p[i].key).getD DKey.zero) rfl) fun b8 W3 hb8 hz8 g3 _ _=>?_
 have g03:=((g.trans g7).trans g2).trans g3
 have c7:∀ j u,p[i].cells[j]?=some u→W3.cell? ((⟨b7,0,none⟩:Addr).add j)=some u:=fun j u hu=>(g2.trans g3).cell (hc7 j u hu) fun h=>h
 have hgo:p[i].cells[1]?=some (.bool p[i].gone):=rfl
 have hva:∀ j u,p[i].val.cells[j]?=some u→p[i].cells[2+j]?=some u:=fun j u hu=>by rw [Nat.add_comm];exact hu
 refine JoinK_i (fun vs W4=>Grow W3 W4∧((vs=[.bool true]∧PatBad p)∨(vs=[.bool false]∧¬ ChgBad p[i]∧RisN Chg.key p (i+1)))) ?_ ?_
 ·rintro vs W4 ⟨g4,⟨rfl,hb⟩ | ⟨rfl,hnb,hrs⟩⟩ _
  ·exact condK_t (bad _ (g03.trans g4) hb)
  refine condK_f ?_
  rw [notK_i]
  cases hk:findK ks p[i].key with
  | none=>
   refine condK_t ⟨g03.trans g4,?_,hnb,hrs⟩
   rw [if_pos (hno.2 (.inr (.inl hk)))]
  | some k=>
   refine condK_f ?_
   rw [faK_i]
   refine ld1K_i (g4.cell (c7 1 _ hgo) fun h=>h) ?_
   rw [notK_i]
   cases hg:p[i].gone with
   | true=>
    refine condK_f ⟨g03.trans g4,?_,hnb,hrs⟩
    congr 2
    refine ite_iff ?_
    rw [hno]
    constructor
    ·exact .inl
    ·rintro (h | h | h)
     ·exact h
     ·rw [hk] at h;cases h
     ·rw [hg] at h;cases h.1
   | false=>
    refine condK_t ?_
    rw [faK_i]
    refine ld1K_i (g4.cell (c7 0 _ rfl) fun h=>h) ?_
    rw [faK_i]
    refine ldnK_i (vs:=p[i].val.cells) rfl (fun j u hu=>g4.cell (by rw [Addr.add_add];exact c7 (2+j) u (hva j u hu)) fun h=>h) ?_
    refine callK_mono (sfits_ok (hS.grow (g03.trans g4)) (hT.grow (g03.trans g4)) hf0) ?_
    rintro _ W5 ⟨rfl,g5⟩
    rw [notK_i]
    by_cases hfit:FitsK ks p[i].key p[i].val
    ·rw [decide_eq_true hfit]
     refine condK_f ⟨(g03.trans g4).trans g5,?_,hnb,hrs⟩
     congr 2
     refine ite_iff ?_
     rw [hno]
     constructor
     ·exact .inl
     ·rintro (h | h | h)
      ·exact h
      ·rw [hk] at h;cases h
      ·exact (h.2 hfit).elim
    ·rw [decide_eq_false hfit]
     refine condK_t ⟨(g03.trans g4).trans g5,?_,hnb,hrs⟩
     rw [if_pos (hno.2 (.inr (.inr ⟨hg,hfit⟩)))]
 refine JoinK_i (fun vs W4=>Grow W3 W4∧((vs=[.bool true]∧PatBad p)∨(vs=[.bool false]∧RisN Chg.key p (i+1)))) ?_ ?_
 ·rintro vs W4 ⟨g4,⟨rfl,hb⟩ | ⟨rfl,hrs⟩⟩ _
  ·exact condK_t ⟨g4,.inl ⟨rfl,hb⟩⟩
  refine condK_f ?_
  rw [faK_i]
  refine ld1K_i (g4.cell (c7 1 _ hgo) fun h=>h) ?_
  cases hg:p[i].gone with
  | true=>
   refine condK_t ?_
   rw [faK_i]
   refine ldnK_i (vs:=p[i].val.cells) rfl (fun j u hu=>g4.cell (by rw [Addr.add_add];exact c7 (2+j) u (hva j u hu)) fun h=>h) ?_
   refine ⟨AVal.zero.cells.toArray,by kernel_rfl,?_⟩
   refine runK_i (run_ne_val _ _ p[i].val AVal.zero W4) ?_
   by_cases hz:p[i].val=AVal.zero
   ·rw [decide_eq_true hz]
    refine condK_f ?_
    rw [faK_i]
    refine ld1K_i (g4.cell (c7 1 _ hgo) fun h=>h) ?_
    rw [notK_i,hg]
    refine condK_f ⟨g4,.inr ⟨rfl,?_,hrs⟩⟩
    rintro (h | h)
    ·exact h.2 hz
    ·rw [hg] at h;cases h.1
   ·rw [decide_eq_false hz]
    exact condK_t ⟨g4,.inl ⟨rfl,.inr (.inr ⟨p[i],hmem,.inl ⟨hg,hz⟩⟩)⟩⟩
  | false=>
   refine condK_f ?_
   rw [faK_i]
   refine ld1K_i (g4.cell (c7 1 _ hgo) fun h=>h) ?_
   rw [notK_i,hg]
   refine condK_t ?_
   rw [faK_i]
   refine ldnK_i (vs:=p[i].val.cells) rfl (fun j u hu=>g4.cell (by rw [Addr.add_add];exact c7 (2+j) u (hva j u hu)) fun h=>h) ?_
   refine callK_mono (vmay_ok (hT.grow (g03.trans g4)) hf0) ?_
   rintro _ W5 ⟨rfl,g5⟩
   rw [notK_i]
   refine ⟨g4.trans g5,?_⟩
   by_cases hok:ValOK p[i].val
   ·refine .inr ⟨by rw [decide_eq_true hok];rfl,?_,hrs⟩
    rintro (h | h)
    ·rw [hg] at h;cases h.1
    ·exact h.2 hok
   ·exact .inl ⟨by rw [decide_eq_false hok];rfl,.inr (.inr ⟨p[i],hmem,.inr ⟨hg,hok⟩⟩)⟩
 refine drawK_i (fun W=>Grow W3 W) (Mod.drew _ _) ?_
 rw [gtK_i]
 refine condK_p (fun hi0=>?_) fun hi0 W4 g4=>⟨g4,.inr ⟨rfl,fun j hj=>by omega⟩⟩
 rw [subK_i,wrap64 (by omega) (by omega),show ((i:Int) - 1)=((i - 1:Nat):Int) by omega]
 have hi1:i - 1 < p.length:=by omega
 obtain ⟨_,r2,e2,_,hr2,hc2,rfl⟩:=(h.grow g03 (by decide) fun _ _ h=>h).get hi1
 cases e2
 refine ixK_n hi1 ?_
 rw [faK_i,Addr.add_add]
 refine qld1K_i (fun W hW=>hW.cell (hc2 0 _ rfl) fun h=>h) ?_
 rw [faK_i]
 refine qld1K_i (fun W hW=>hW.cell (c7 0 _ rfl) fun h=>h) ?_
 rw [geK_i]
 intro W4 g4
 by_cases hge:p[i - 1].key ≥ p[i].key
 ·rw [decide_eq_true hge]
  refine ⟨g4,.inl ⟨rfl,.inl fun hall=>?_⟩⟩
  have:=hall i (by omega) hlt' _ _ (List.getElem?_eq_getElem hi1) (List.getElem?_eq_getElem hlt')
  omega
 ·rw [decide_eq_false hge]
  refine ⟨g4,.inr ⟨rfl,fun j h1 h2 a b ha hb=>?_⟩⟩
  by_cases e:j=i
  ·subst e
   rw [List.getElem?_eq_getElem hi1] at ha
   rw [List.getElem?_eq_getElem hlt'] at hb
   cases ha;cases hb;omega
  ·exact hris j h1 (by omega) a b ha hb
def InO (o:Dop):Prop:=(∀ a ∈ o.set,0≤a.val.f)∧∀ c ∈ o.patch,0≤c.val.f
open Classical in
noncomputable def mayO (ks:List DKey) (o:Dop):Int:=if ¬ FormO o then 3 else if maySet ks o.set≠0 then maySet ks o.set else mayPat ks o.patch
open Classical in
theorem onep_ok {E D:Nat→Prop} {sv:Value} {ks:List DKey} {r:List Value} {o:Dop} {w:World} (hS:SchR E w sv ks) (h:RDop D w r o) (hT:Tabs w) (hI:InO o) :
  callK Tryz.prog 42 [sv,.agg r.toArray] (fun v w'=>v=.int .i64 (mayO ks o)∧Grow w w') w:=by
 apply S42_ok
 unfold S42
 refine boxn_i fun b w1 _ hz g hc _=>?_
 have hr5:r.length=5:=by obtain ⟨_,_,_,rfl,_⟩:=h;rfl
 have h1:=h.mod (D':=D) g (fun _ _ _ h=>h) fun _ _ h=>h
 refine JoinK_i (fun vs w2=>Grow w1 w2∧FormO o) ?_ ?_
 ·rintro vs w2 ⟨g2,hf⟩ _
  obtain ⟨rv,uv,pv,rfl,q1,q2,q3⟩:=h1.mod (D':=D) g2 (fun _ _ _ h=>h) fun _ _ h=>h
  rw [faK_i]
  refine ld1K_i (g2.cell (hc 3 _ rfl) fun h=>h) ?_
  refine callK_mono (smay_ok (hS.grow (g.trans g2)) q2 (hT.grow (g.trans g2)) hI.1) ?_
  rintro _ w3 ⟨rfl,g3⟩
  rw [neK_i]
  have e0:mayO ks o=if maySet ks o.set≠0 then maySet ks o.set else mayPat ks o.patch:=by rw [mayO,if_neg (not_not_intro hf)]
  refine condK_neg (fun hz=>?_) fun hz=>⟨by rw [e0,if_pos hz],(g.trans g2).trans g3⟩
  rw [faK_i]
  refine ld1K_i ((g2.trans g3).cell (hc 4 _ rfl) fun h=>h) ?_
  refine callK_mono (pmayp_ok (hS.grow ((g.trans g2).trans g3)) (q3.grow g3 (by decide) fun _ _ h=>h) (hT.grow ((g.trans g2).trans g3)) hI.2) ?_
  rintro _ w4 ⟨rfl,g4⟩
  exact ⟨by rw [e0,if_neg (not_not_intro hz)],((g.trans g2).trans g3).trans g4⟩
 have no:∀ w',Grow w1 w'→¬ FormO o→Value.int .i64 3=.int .i64 (mayO ks o)∧Grow w w':=fun w' g' hn=>⟨by rw [mayO,if_pos hn],g.trans g'⟩
 refine ldnK_i hr5 hc ?_
 refine callK_mono (formp_ok h1) ?_
 rintro _ w2 ⟨rfl,g2⟩
 rw [notK_i]
 refine condK_neg (fun hp=>?_) fun hp=>no _ g2 fun hf=>hp ((formO_iff o).1 hf).1
 refine ldnK_i hr5 (fun j u hu=>g2.cell (hc j u hu) fun h=>h) ?_
 refine callK_mono (sizep_ok (h1.mod (D':=D) g2 (fun _ _ _ h=>h) fun _ _ h=>h)) ?_
 rintro _ w3 ⟨rfl,g3⟩
 rw [ltK_i]
 refine condK_p (fun hl=>no _ (g2.trans g3) fun hf=>by have:=((formO_iff o).1 hf).2.1;omega) fun hl=>?_
 refine ldnK_i hr5 (fun j u hu=>(g2.trans g3).cell (hc j u hu) fun h=>h) ?_
 refine callK_mono (sizep_ok (h1.mod (D':=D) (g2.trans g3) (fun _ _ _ h=>h) fun _ _ h=>h)) ?_
 rintro _ w4 ⟨rfl,g4⟩
 rw [gtK_i]
 refine condK_p (fun hl2=>no _ ((g2.trans g3).trans g4) fun hf=>by have:=((formO_iff o).1 hf).2.2;omega) fun hl2=>⟨(g2.trans g3).trans g4,(formO_iff o).2 ⟨hp,by omega,by omega⟩⟩
theorem maySet_nil (ks:List DKey):maySet ks []=0:=setK_iff.2 setK_nil
theorem mayPat_nil (ks:List DKey):mayPat ks []=0:=patK_iff.2 patK_nil
theorem maySet_v (ks:List DKey) (l:List Attr):maySet ks l=0∨maySet ks l=3∨maySet ks l=4:=by
 unfold maySet;split
 ·exact .inr (.inl rfl)
 ·split
  ·exact .inr (.inr rfl)
  ·exact .inl rfl
theorem mayPat_v (ks:List DKey) (l:List Chg):mayPat ks l=0∨mayPat ks l=3∨mayPat ks l=4:=by
 unfold mayPat;split
 ·exact .inr (.inl rfl)
 ·split
  ·exact .inr (.inr rfl)
  ·exact .inl rfl
theorem mayO_v (ks:List DKey) (o:Dop):(mayO ks o=3↔¬ FormO o∨maySet ks o.set=3∨mayPat ks o.patch=3)∧(mayO ks o=0∨mayO ks o=3∨mayO ks o=4)∧(mayO ks o≠3→(mayO ks o=0↔maySet ks o.set=0∧mayPat ks o.patch=0)):=by
 have v1:=maySet_v ks o.set
 have v2:=mayPat_v ks o.patch
 by_cases hf:FormO o
 ·have hx:maySet ks o.set=0∨mayPat ks o.patch=0:=by
   rcases hf with ⟨_,_,h,_⟩ | ⟨_,_,h,_⟩ | ⟨_,_,_,h,_⟩
   ·left;rw [h];exact maySet_nil ks
   ·left;rw [h];exact maySet_nil ks
   ·right;rw [h];exact mayPat_nil ks
  unfold mayO
  rw [if_neg (not_not_intro hf)]
  by_cases hz:maySet ks o.set=0
  ·rw [if_neg (not_not_intro hz)]
   exact ⟨⟨fun h=>.inr (.inr h),fun h=>by rcases h with h | h | h;exact (h hf).elim;omega;exact h⟩,v2,fun _=>⟨fun h=>⟨hz,h⟩,fun h=>h.2⟩⟩
  ·rw [if_pos hz]
   refine ⟨⟨fun h=>.inr (.inl h),fun h=>by rcases h with h | h | h;exact (h hf).elim;exact h;omega⟩,v1,fun _=>⟨fun h=>⟨h,by omega⟩,fun h=>h.1⟩⟩
 ·unfold mayO
  rw [if_pos hf]
  exact ⟨⟨fun _=>.inl hf,fun _=>rfl⟩,.inr (.inl rfl),fun h=>(h rfl).elim⟩
open Classical in
theorem maypo_ok {E S D:Nat→Prop} {sv v:Value} {ks:List DKey} {x:List Dop} {w:World} (hS:SchR E w sv ks) (h:RDops S D w v x) (hT:Tabs w) (hI:∀ o ∈ x,InO o) :
  callK Tryz.prog 19 [sv,v] (fun v' w'=>v'=.int .i64 (mayOps ks x)∧Grow w w') w:=by
 apply S19_ok
 unfold S19
 have ho:=h
 obtain ⟨a,c,rfl,hm⟩:=h.shape
 simp only [maxLen] at hm
 have bad:∀ w',Grow w w'→OpsBad ks x→Value.int .i64 3=.int .i64 (mayOps ks x)∧Grow w w':=fun w' g hb=>⟨by rw [mayOps,if_pos hb],g⟩
 rw [lenK_i]
 refine LoopK_i (fun vs w1=>∃ k:Nat,k≤x.length∧vs=[.int .i64 (if OpsNoKey ks (x.take k) then 4 else 0),.int .i64 k]∧Grow w w1∧∀ o ∈ x.take k,mayO ks o≠3) (fun vs _=>x.length - iOf vs 1)
  ⟨0,Nat.zero_le _,by rw [if_neg (by rintro ⟨a,ha,_⟩;simp at ha)];rfl,Mod.refl _ _,by simp⟩ ?_
 rintro vs w1 ⟨k,hk,rfl,g,hall⟩ _
 simp only [nth_s,nth_z,List.headD_cons,List.tail_cons]
 rw [ltK_i]
 refine condK_p (fun hlt=>?_) fun hge=>?_
 ·have hlt':k < x.length:=by omega
  have hmem:=List.getElem_mem hlt'
  obtain ⟨p,r,rfl,_,hr,hc,hop⟩:=(RDops.grow h g).get hlt'
  refine ixK_n hlt' (ldnK_i hr (fun j u hu=>by rw [Addr.add_add];exact hc j u hu) ?_)
  refine newst_n hr rfl hop.one fun b w2 hb hz g2 hc2 _=>?_
  refine ldnK_i hr hc2 ?_
  refine callK_mono (onep_ok (hS.grow (g.trans g2)) (hop.mod (D':=D) g2 (fun _ _ _ h=>h) fun _ _ h=>h) (hT.grow (g.trans g2)) (hI _ hmem)) ?_
  rintro _ w3 ⟨rfl,g3⟩
  have g03:=(g.trans g2).trans g3
  obtain ⟨m1,m2,m3⟩:=mayO_v ks x[k]
  rw [eqK_i]
  refine condK_p (fun h3=>?_) fun h3=>?_
  ·rw [h3];exact bad _ g03 (.inl ⟨_,hmem,m1.1 h3⟩)
  have e1:x.take (k+1)=x.take k++[x[k]]:=by rw [List.take_add_one,List.getElem?_eq_getElem hlt'];rfl
  have hall':∀ o ∈ x.take (k+1),mayO ks o≠3:=fun o ho=>by
   rw [e1] at ho
   rcases List.mem_append.1 ho with ho | ho
   ·exact hall o ho
   ·simp at ho;subst ho;exact h3
  have hno:OpsNoKey ks (x.take (k+1))↔OpsNoKey ks (x.take k)∨mayO ks x[k]≠0:=by
   unfold OpsNoKey
   rw [e1]
   constructor
   ·rintro ⟨a,ha,hn⟩
    rcases List.mem_append.1 ha with ha | ha
    ·exact .inl ⟨a,ha,hn⟩
    ·simp at ha;subst ha
     exact .inr fun h0=>by have:=(m3 h3).1 h0;rcases hn with hn | hn;exact hn this.1;exact hn this.2
   ·rintro (⟨a,ha,hn⟩ | hn)
    ·exact ⟨a,List.mem_append_left _ ha,hn⟩
    ·refine ⟨x[k],List.mem_append_right _ (List.mem_singleton.2 rfl),?_⟩
     by_cases hz:maySet ks x[k].set=0
     ·exact .inr fun h0=>hn ((m3 h3).2 ⟨hz,h0⟩)
     ·exact .inl hz
  rw [neK_i]
  refine condK_neg (fun h0=>?_) fun h0=>?_
  ·rw [addK_i,loop_step (by omega)]
   refine ⟨⟨k+1,hlt',?_,g03,hall'⟩,by rw [iOf1,iOf1];omega⟩
   congr 2
   refine ite_iff ?_
   rw [hno]
   exact ⟨.inl,fun h'=>by rcases h' with h' | h';exact h';exact (h' h0).elim⟩
  ·rw [addK_i,loop_step (by omega)]
   refine ⟨⟨k+1,hlt',?_,g03,hall'⟩,by rw [iOf1,iOf1];omega⟩
   rw [if_pos (hno.2 (.inr h0))]
   congr 2
   omega
 ·have:k=x.length:=by omega
  subst this
  rw [List.take_length] at hall ⊢
  refine callK_mono (takesp_ok (RDops.grow ho g)) ?_
  rintro _ w2 ⟨rfl,g2⟩
  rw [gtK_i]
  refine condK_p (fun h1=>bad _ (g.trans g2) (.inr (.inl h1))) fun h1=>?_
  refine callK_mono (makesp_ok (RDops.grow ho (g.trans g2))) ?_
  rintro _ w3 ⟨rfl,g3⟩
  rw [gtK_i]
  refine condK_p (fun h2=>bad _ ((g.trans g2).trans g3) (.inr (.inr h2))) fun h2=>?_
  refine ⟨?_,(g.trans g2).trans g3⟩
  have hnb:¬ OpsBad ks x:=by
   rintro (⟨o,ho,hn⟩ | hn | hn)
   ·exact hall o ho ((mayO_v ks o).1.2 hn)
   ·exact h1 hn
   ·exact h2 hn
  unfold mayOps
  rw [if_neg hnb]
end Go.Proofs.YtgmpbihbdbmhoaaGreatDoor

namespace Go.Proofs.YtgmpbihbdbmhoaaGreatDoor
open Go Go.K

theorem or_lo:(∀ x:Nat,x < 64→(128 ||| x)=128+x)∧(∀ x:Nat,x < 32→(192 ||| x)=192+x)∧(∀ x:Nat,x < 16→(224 ||| x)=224+x)∧(∀ x:Nat,x < 8→(240 ||| x)=240+x)∧(∀ x:Nat,x < 256→(x &&& 63)=x % 64):=by decide +kernel
theorem run_bit8 {t:TypeId} {xo yo:Operand} {a b:Nat} (w:World) (ha:a < 256) (hb:b < 256):(binS .or t xo yo (.int .u8 a) (.int .u8 b)).run Tryz.prog w=.ok (.int .u8 ((a ||| b:Nat):Int)) w∧(binS .and t xo yo (.int .u8 a) (.int .u8 b)).run Tryz.prog w=.ok (.int .u8 ((a &&& b:Nat):Int)) w:=by
 have e8:∀ x:Nat,x < 256→(BitVec.ofInt 8 (x:Int)).toNat=x:=fun x hx=>by
  rw [BitVec.toNat_ofInt]
  have e:((2 ^ 8:Nat):Int)=256:=by decide
  rw [e,Int.emod_eq_of_lt (by omega) (by omega)]
  rfl
 constructor
 ·rw [(run_bits w).1]
  show Result.ok (Value.int .u8 (IntKind.u8.wrap ((BitVec.ofInt 8 (a:Int) ||| BitVec.ofInt 8 (b:Int)).toNat:Int))) w=_
  rw [BitVec.toNat_or,e8 a ha,e8 b hb,wrapu8 (by omega) (by have:=Nat.or_lt_two_pow (n:=8) ha hb;omega)]
 ·rw [(run_bits w).2]
  show Result.ok (Value.int .u8 (IntKind.u8.wrap ((BitVec.ofInt 8 (a:Int) &&& BitVec.ofInt 8 (b:Int)).toNat:Int))) w=_
  rw [BitVec.toNat_and,e8 a ha,e8 b hb,wrapu8 (by omega) (by have:=Nat.and_le_left (n:=a) (m:=b);omega)]
theorem conv_r8 {r:Nat} {K:Cont} {w:World} (h:K (.int .u8 ((r % 256:Nat):Int)) w):runK Tryz.prog (convert 21 5 (.int .i32 r)) K w:=by
 refine conv_i (k:=.u8) (by kernel_rfl) (by kernel_rfl) ?_
 rw [wrapu8_mod];exact h
theorem conv_u32 {r:Nat} {K:Cont} {w:World} (hr:r < 2147483648) (h:K (.int .u32 r) w):runK Tryz.prog (convert 21 132 (.int .i32 r)) K w:=by
 refine conv_i (k:=.u32) (by kernel_rfl) (by kernel_rfl) ?_
 have e:IntKind.u32.wrap (r:Int)=r:=by
  have e1:(2:Int) ^ IntKind.u32.bits=4294967296:=by decide
  simp only [IntKind.wrap,e1,IntKind.signed,Bool.false_and]
  rw [if_neg (by decide)]
  omega
 rw [e];exact h
theorem shr_r {r n:Nat} {t:TypeId} {xo yo:Operand} {q:IntKind} {K:Cont} {w:World} (hn:n≤32) (h:K (.int .i32 ((r / 2 ^ n:Nat):Int)) w):runK Tryz.prog (binS .shr t xo yo (.int .i32 r) (.int q n)) K w:=by
 refine runK_i (run_shr (n:=n) w hn) ?_
 rw [Int.fdiv_eq_ediv_of_nonneg _ (by exact_mod_cast Nat.zero_le _)]
 exact_mod_cast h
theorem condK_bb {b:Bool} {x y:Prop} (h1:b=true→x) (h2:b=false→y):condK (.bool b) x y:=by
 cases b
 ·exact condK_f (h2 rfl)
 ·exact condK_t (h1 rfl)
theorem six_i {r:Nat} {t t':TypeId} {xo yo xo' yo':Operand} {K:Cont} {w:World} (h:K (.int .u8 ((128+r % 64:Nat):Int)) w) :
  runK Tryz.prog (convert 21 5 (.int .i32 r)) (fun t20 w5=>runK Tryz.prog (binS .and t xo yo t20 (.int .u8 63)) (fun t21 w6=>runK Tryz.prog (binS .or t' xo' yo' (.int .u8 128) t21) K w6) w5) w:=by
 refine conv_r8 ?_
 refine runK_i (run_bit8 (a:=r % 256) (b:=63) w (by omega) (by omega)).2 ?_
 rw [or_lo.2.2.2.2 _ (by omega)]
 refine runK_i (run_bit8 (a:=128) (b:=r % 256 % 64) w (by omega) (by omega)).1 ?_
 rw [or_lo.1 _ (by omega),show r % 256 % 64=r % 64 by omega]
 exact h
theorem row_bytes {xs:List Int} {w:World} {cs:List Value} (hc:cs=xs.map (Value.int .u8)) (hl:xs.length≤4):RBytes (fun z=>z=w.heap.size) (w.alloc (.cells cs.toArray 5)) (.slice (some ⟨w.heap.size,0,none⟩) xs.length xs.length) xs:=
 ⟨_,_,rfl,Nat.le_refl _,by simp only [maxLen];omega,fun i x hx=>⟨_,[.int .u8 x],rfl,rfl,rfl,fun j u hu=>by
  have hj:j=0:=by have:=(List.getElem?_eq_some_iff.1 hu).1;simp at this;exact this
  subst hj
  simp at hu;subst hu
  rw [addr0,Nat.mul_one,Nat.add_zero,cell_allocF,hc]
  simp [hx],rfl⟩⟩
theorem app_row {B:Nat} {v:Value} {l xs:List Int} {w0 w:World} {zero:List Value} {n:Nat} {parts:List (Nat × Value)} {K:Cont} (h:OBytes w0.heap.size w v l) (g:Grow w0 w) (hn:xs.length=n) (h4:xs.length≤4)
  (hf:Instr.fill (fun i=>some (i * 1,1)) ((Array.range (n * 1)).map (zero.toArray[· % zero.toArray.size]!)) parts=some (xs.map (Value.int .u8)).toArray) (hl:l.length+4≤1099511627776)
  (hK:∀ v' w',OBytes w0.heap.size w' v' (l++xs)→Grow w0 w'→K v' w') :
  rowK 5 1 n zero parts (fun s w1=>runK Tryz.prog (Builtin.append_ #[31,31] 31 [v,s].toArray) K w1) w:=by
 refine rowK_i hf ?_
 subst hn
 have ga:Grow w (w.alloc (.cells (xs.map (Value.int .u8)).toArray 5)):=Mod.alloc _ _ _
 have gg:=g.trans ga
 obtain ⟨v',w',r1,r2,r3,r4⟩:=OwnR.append (ty:=31) elem_byte (OwnR.mod h ga (fun _ _ h=>h) fun _ _ _ h=>h) (row_bytes (w:=w) (xs:=xs) rfl h4) (fun _ _=>RByte.one) (by omega) gg.size (by simp only [maxLen];omega) fun _ _ _ _ h=>h
 exact runK_i r1 (hK v' w' r2 (gg.next (Mod.of_grownBy r3) fun b hb e=>by have:=(OwnR.ownB h b e).1;omega))
theorem surr_i {r:Int} {I:List Value→World→Prop} {w:World} (hm:r < 55296∨57344≤r) (h:I [.bool (decide (r < 65536))] w) :
  ltK .u32 (.int .u32 r) (.int .u32 55296) fun t27=>condK t27 (I [t27] w) (ltK .u32 (.int .u32 57343) (.int .u32 r) fun t29=>condK t29 (leK .u32 (.int .u32 r) (.int .u32 65535) fun t32=>I [t32] w) (I [.bool false] w)):=by
 rw [ltK_i]
 refine condK_p (fun h3=>?_) fun h3=>?_
 ·have e:decide (r < 55296)=decide (r < 65536):=by rw [decide_eq_true h3,decide_eq_true (by omega)]
  rw [e];exact h
 ·rw [ltK_i]
  refine condK_p (fun _=>?_) fun h4=>(h4 (by omega)).elim
  rw [leK_i]
  have e:decide (r≤65535)=decide (r < 65536):=decide_eq_decide.2 (by omega)
  rw [e];exact h
theorem arune_ok {v:Value} {l:List Int} {r:Int} {w0 w:World} (h:OBytes w0.heap.size w v l) (g:Grow w0 w) (hr:MayR r) (hl:l.length+4≤1099511627776) :
  callK Tryz.prog 103 [v,.int .i32 r] (fun v' w'=>OBytes w0.heap.size w' v' (l++oneB r)∧Grow w0 w') w:=by
 apply S103_ok
 unfold S103
 unfold MayR at hr
 obtain ⟨n,rfl⟩:∃ n:Nat,r=n:=⟨r.toNat,by omega⟩
 refine conv_u32 (by omega) ?_
 rw [leK_i]
 refine condK_p (fun h1=>?_) fun h1=>?_
 ·refine conv_r8 ?_
  refine app_row (B:=0) (xs:=[((n % 256:Nat):Int)]) h g rfl (by simp) (by kernel_rfl) hl fun v' w' o' g'=>⟨?_,g'⟩
  have e:oneB (n:Int)=[((n % 256:Nat):Int)]:=by unfold oneB;rw [if_pos (by omega)];congr 1;omega
  rw [e];exact o'
 ·refine callK_mono (K':=fun v' w'=>OBytes w0.heap.size w' v' (l++oneB n)∧Grow w0 w') ?_ fun _ _ h=>h
  apply S141_ok
  unfold S141
  refine conv_u32 (by omega) ?_
  rw [leK_i]
  refine condK_p (fun h2=>?_) fun h2=>?_
  ·refine shr_r (n:=6) (by decide) ?_
   refine conv_r8 ?_
   refine runK_i (run_bit8 (a:=192) (b:=n / 2 ^ 6 % 256) w (by omega) (by omega)).1 ?_
   rw [or_lo.2.1 _ (by omega)]
   refine six_i ?_
   refine app_row (B:=0) (xs:=[((192+n / 2 ^ 6 % 256:Nat):Int),((128+n % 64:Nat):Int)]) h g rfl (by simp) (by kernel_rfl) hl fun v' w' o' g'=>⟨?_,g'⟩
   have e:oneB (n:Int)=[((192+n / 2 ^ 6 % 256:Nat):Int),((128+n % 64:Nat):Int)]:=by
    unfold oneB;rw [if_neg (by omega),if_pos (by omega)]
    simp only [List.cons.injEq,and_true]
    omega
   rw [e];exact o'
  ·have big:¬ n < 2048:=by omega
   obtain ⟨B,hB⟩:∃ B:Bool,decide ((n:Int) < 65536)=B:=⟨_,rfl⟩
   refine JoinK_i (fun vs W=>W=w∧vs=[.bool B]) ?_ ?_
   ·rintro _ _ ⟨rfl,rfl⟩ _
    rename World=>w
    simp only [nth_z,List.headD_cons]
    refine condK_bb (fun h3=>?_) fun h3=>?_
    ·have h3:=of_decide_eq_true (hB.trans h3)
     refine shr_r (n:=12) (by decide) ?_
     refine conv_r8 ?_
     refine runK_i (run_bit8 (a:=224) (b:=n / 2 ^ 12 % 256) w (by omega) (by omega)).1 ?_
     rw [or_lo.2.2.1 _ (by omega)]
     refine shr_r (n:=6) (by decide) ?_
     refine six_i ?_
     refine six_i ?_
     refine app_row (B:=0) (xs:=[((224+n / 2 ^ 12 % 256:Nat):Int),((128+n / 2 ^ 6 % 64:Nat):Int),((128+n % 64:Nat):Int)]) h g rfl (by simp) (by kernel_rfl) hl fun v' w' o' g'=>⟨?_,g'⟩
     have e:oneB (n:Int)=[((224+n / 2 ^ 12 % 256:Nat):Int),((128+n / 2 ^ 6 % 64:Nat):Int),((128+n % 64:Nat):Int)]:=by
      unfold oneB;rw [if_neg (by omega),if_neg (by omega),if_pos (by omega)]
      simp only [List.cons.injEq,and_true]
      omega
     rw [e];exact o'
    ·have h3:=of_decide_eq_false (hB.trans h3)
     refine JoinK_i (fun vs W=>W=w∧vs=[.bool true]) ?_ ?_
     ·rintro _ _ ⟨rfl,rfl⟩ _
      rename World=>w
      simp only [nth_z,List.headD_cons]
      refine condK_t ?_
      refine shr_r (n:=18) (by decide) ?_
      refine conv_r8 ?_
      refine runK_i (run_bit8 (a:=240) (b:=n / 2 ^ 18 % 256) w (by omega) (by omega)).1 ?_
      rw [or_lo.2.2.2.1 _ (by omega)]
      refine shr_r (n:=12) (by decide) ?_
      refine six_i ?_
      refine shr_r (n:=6) (by decide) ?_
      refine six_i ?_
      refine six_i ?_
      refine app_row (B:=0) (xs:=[((240+n / 2 ^ 18 % 256:Nat):Int),((128+n / 2 ^ 12 % 64:Nat):Int),((128+n / 2 ^ 6 % 64:Nat):Int),((128+n % 64:Nat):Int)]) h g rfl (by simp) (by kernel_rfl) hl fun v' w' o' g'=>⟨?_,g'⟩
      have e:oneB (n:Int)=[((240+n / 2 ^ 18 % 256:Nat):Int),((128+n / 2 ^ 12 % 64:Nat):Int),((128+n / 2 ^ 6 % 64:Nat):Int),((128+n % 64:Nat):Int)]:=by
       unfold oneB;rw [if_neg (by omega),if_neg (by omega),if_neg (by omega)]
       simp only [List.cons.injEq,and_true]
       omega
      rw [e];exact o'
     ·rw [gtK_i]
      refine condK_p (fun _=>?_) fun e=>?_
      ·rw [leK_i]
       have hle:(n:Int)≤1114111:=by omega
       exact ⟨rfl,by rw [decide_eq_true hle]⟩
      ·exact (h3 (by omega)).elim
   ·exact surr_i (r:=(n:Int)) (I:=fun vs W=>W=w∧vs=[.bool B]) (by omega) ⟨rfl,by rw [hB]⟩
theorem textR_len:∀ l:List Int,(textR l).length≤l.length * 4:=by
 intro l
 induction l with
 | nil=>simp [textR]
 | cons r l ih=>
  have:=(oneB_len r).2
  have e:textR (r :: l)=oneB r++textR l:=rfl
  rw [e,List.length_append,List.length_cons]
  omega
theorem rbytes_ok {S:Nat→Prop} {v:Value} {l:List Int} {w:World} (h:RRun S w v l) (hr:∀ r ∈ l,MayR r) (hl:l.length * 4≤1099511620000) :
  callK Tryz.prog 52 [v] (fun v' w'=>Grow w w'∧∃ bv,v'=.tuple #[bv,.int .i64 0]∧OBytes w.heap.size w' bv (textR l)) w:=by
 apply S52_ok
 unfold S52
 obtain ⟨a,c,rfl,hm⟩:=h.shape
 rw [lenK_i]
 refine LoopK_i (fun vs W=>∃ (i:Nat) (bv:Value),i≤l.length∧vs=[bv,.int .i64 i]∧OBytes w.heap.size W bv (textR (l.take i))∧Grow w W) (fun vs _=>l.length - iOf vs 1) ⟨0,_,Nat.zero_le _,rfl,OwnR.nil,Mod.refl _ _⟩ ?_
 rintro vs W ⟨i,bv,hi,rfl,ho,g⟩ _
 simp only [nth_s,nth_z,List.headD_cons,List.tail_cons]
 rw [ltK_i]
 refine condK_p (fun hlt=>?_) fun hge=>?_
 ·have hlt':i < l.length:=by omega
  have hmay:=hr _ (List.getElem_mem hlt')
  obtain ⟨p,r,rfl,_,_,hc,rfl⟩:=(h.grow g (by decide) fun _ _ h=>h).get hlt'
  refine ixK_n hlt' ?_
  refine ld1K_i (by have:=hc 0 _ rfl;exact this) ?_
  refine callK_mono (rmayp_ok (r:=l[i])) ?_
  rintro _ _ ⟨rfl,rfl⟩
  rename World=>W
  rw [decide_eq_true hmay,notK_i]
  refine condK_f ?_
  have hbl:(textR (l.take i)).length≤l.length * 4:=by
   have:=textR_len (l.take i)
   have:(l.take i).length≤l.length:=by simp;omega
   omega
  refine callK_mono (arune_ok ho g hmay (by omega)) ?_
  rintro v' w4 ⟨o4,g4⟩
  rw [addK_i,loop_step (by omega)]
  refine ⟨⟨i+1,v',hlt',rfl,?_,g4⟩,by rw [iOf1,iOf1];omega⟩
  have e:textR (l.take (i+1))=textR (l.take i)++oneB l[i]:=by
   unfold textR
   rw [List.take_add_one,List.getElem?_eq_getElem hlt',List.flatMap_append]
   simp
  rw [e];exact o4
 ·have:i=l.length:=by omega
  subst this
  rw [List.take_length] at ho
  exact ⟨g,bv,rfl,ho⟩
end Go.Proofs.YtgmpbihbdbmhoaaGreatDoor

namespace Go.Proofs.YtgmpbihbdbmhoaaGreatDoor
open Go Go.K

def uvR:Nat→Bool→List Int→Option (Nat × List Int)
 | _,_,[]=>none
 | f,first,x :: t=>if (f=0∧1 < x)∨(first=false∧x=0) then none else if x < 128 then some (x.toNat,t) else
  match f with
  | 0=>none
  | f+1=>(uvR f false t).map fun r=>((x - 128).toNat+128 * r.1,r.2)
theorem uvB_small {f n:Nat} (h:n≤127):uvB f n=[(n:Int)]:=by
 cases f with
 | zero=>rfl
 | succ f=>simp only [uvB];rw [if_pos h]
theorem uvB_great {f n:Nat} (h:127 < n):uvB (f+1) n=((n % 128+128:Nat):Int) :: uvB f (n / 128):=by
 simp only [uvB];rw [if_neg (by omega)]
theorem uvR_sound:∀ {l:List Int} {f:Nat} {first:Bool} {n:Nat} {t:List Int},(∀ x ∈ l,0≤x∧x < 256)→uvR f first l=some (n,t)→l=uvB f n++t∧n < 2 * 128 ^ f∧(first=false→0 < n):=by
 intro l
 induction l with
 | nil=>intro f first n t _ h;unfold uvR at h;cases h
 | cons x l ih=>
  intro f first n t hb h
  have hx:=hb x (by simp)
  have hp:0 < 128 ^ f:=Nat.pow_pos (by decide)
  unfold uvR at h
  by_cases h1:(f=0∧1 < x)∨(first=false∧x=0)
  ·rw [if_pos h1] at h;cases h
  rw [if_neg h1] at h
  by_cases h2:x < 128
  ·rw [if_pos h2] at h
   cases h
   refine ⟨?_,?_,fun e=>?_⟩
   ·rw [uvB_small (by omega),show ((x.toNat:Nat):Int)=x by omega];rfl
   ·cases f with
    | zero=>simp only [Nat.pow_zero];have:¬ 1 < x:=fun e=>h1 (Or.inl ⟨rfl,e⟩);omega
    | succ f=>have:=Nat.pow_pos (n:=f) (show 0 < 128 by decide);rw [Nat.pow_succ];omega
   ·have:¬ x=0:=fun e'=>h1 (Or.inr ⟨e,e'⟩)
    omega
  rw [if_neg h2] at h
  cases f with
  | zero=>cases h
  | succ f=>
   simp only at h
   cases hr:uvR f false l with
   | none=>rw [hr] at h;cases h
   | some r=>
    obtain ⟨m,t'⟩:=r
    rw [hr] at h
    simp only [Option.map_some,Option.some.injEq,Prod.mk.injEq] at h
    obtain ⟨rfl,rfl⟩:=h
    obtain ⟨e1,e2,e3⟩:=ih (fun y hy=>hb y (by simp [hy])) hr
    have e3:=e3 rfl
    refine ⟨?_,?_,fun _=>by omega⟩
    ·rw [uvB_great (by omega),show ((x - 128).toNat+128 * m) / 128=m by omega,List.cons_append,←e1]
     congr 1
     omega
    ·rw [Nat.pow_succ];omega
theorem uvR_full:∀ {f:Nat} {first:Bool} {n:Nat} (t:List Int),n < 2 * 128 ^ f→(first=false→0 < n)→uvR f first (uvB f n++t)=some (n,t):=by
 intro f
 induction f with
 | zero=>
  intro first n t h h0
  rw [Nat.pow_zero] at h
  rw [uvB_small (by omega)]
  show uvR 0 first ((n:Int) :: t)=_
  unfold uvR
  rw [if_neg (by rintro (⟨_,e⟩ | ⟨e,e'⟩);omega;have:=h0 e;omega),if_pos (by omega)]
  simp
 | succ f ih=>
  intro first n t h h0
  by_cases hs:n≤127
  ·rw [uvB_small hs]
   show uvR (f+1) first ((n:Int) :: t)=_
   unfold uvR
   rw [if_neg (by rintro (⟨e,_⟩ | ⟨e,e'⟩);omega;have:=h0 e;omega),if_pos (by omega)]
   simp
  ·rw [uvB_great (by omega),List.cons_append]
   unfold uvR
   rw [if_neg (by rintro (⟨e,_⟩ | ⟨e,e'⟩) <;> omega),if_neg (by omega)]
   simp only
   rw [ih t (by rw [Nat.pow_succ] at h;omega) (fun _=>by omega)]
   simp only [Option.map_some,Option.some.injEq,Prod.mk.injEq,and_true]
   omega
theorem uv_read {n:Nat} (t:List Int) (h:n < 18446744073709551616):uvR 9 true (uv n++t)=some (n,t):=by
 have e:(2:Nat) * 128 ^ 9=18446744073709551616:=by decide
 exact uvR_full t (by omega) fun h=>by cases h
theorem read_uv {l:List Int} {n:Nat} {t:List Int} (hb:∀ x ∈ l,0≤x∧x < 256) (h:uvR 9 true l=some (n,t)):l=uv n++t∧n < 18446744073709551616:=by
 have e:(2:Nat) * 128 ^ 9=18446744073709551616:=by decide
 obtain ⟨h1,h2,_⟩:=uvR_sound hb h
 exact ⟨h1,by omega⟩
def unzig (n:Nat):Int:=if n % 2=0 then (n / 2:Nat) else -((n / 2:Nat):Int) - 1
theorem zig_unzig {n:Nat} (h:n < 18446744073709551616):zigN (unzig n)=n∧-9223372036854775808≤unzig n∧unzig n≤9223372036854775807:=by
 unfold zigN unzig
 split <;> (refine ⟨?_,?_,?_⟩ <;> try split) <;> omega
structure RdP {α:Type} (f:α→List Int) (R:α→Prop) (b:List Int) (p:Nat) (bad:Bool) (a:α) (q:Nat) (bad1:Bool):Prop where
 le:p≤q
 len:q≤b.length
 stays:bad=true→bad1=true
 sound:bad1=false→R a∧b.drop p=f a++b.drop q
 full:bad=false→∀ c t,R c→b.drop p=f c++t→bad1=false
section
variable {α β γ:Type} {f:α→List Int} {R:α→Prop} {b:List Int} {p q r:Nat} {bad bad1 bad2:Bool} {a:α}
theorem RdP.was (x:RdP f R b p bad a q bad1) (h:bad1=false):bad=false:=by
 cases bad
 ·rfl
 ·rw [x.stays rfl] at h;cases h
theorem RdP.seq {c:β} {z:γ} {g:α→β→List Int} {Q:α→β→Prop} {h:γ→List Int} {T:γ→Prop} (hf:PF f R) (x:RdP f R b p bad a q bad1) (y:RdP (g a) (Q a) b q bad1 c r bad2)
  (hm:R a→Q a c→T z∧h z=f a++g a c) (hc:∀ z,T z→∃ a' c',R a'∧Q a' c'∧h z=f a'++g a' c'):RdP h T b p bad z r bad2:=by
 refine ⟨Nat.le_trans x.le y.le,y.len,fun e=>y.stays (x.stays e),fun e=>?_,fun e z t hz ht=>?_⟩
 ·obtain ⟨y1,y2⟩:=y.sound e
  obtain ⟨x1,x2⟩:=x.sound (y.was e)
  obtain ⟨m1,m2⟩:=hm x1 y1
  exact ⟨m1,by rw [m2,x2,y2,List.append_assoc]⟩
 ·obtain ⟨a',c',h1,h2,h3⟩:=hc z hz
  rw [h3,List.append_assoc] at ht
  have e1:=x.full e a' _ h1 ht
  obtain ⟨x1,x2⟩:=x.sound e1
  rw [ht] at x2
  obtain ⟨rfl,e3⟩:=hf _ _ _ _ h1 x1 x2
  exact y.full e1 c' t h2 e3.symm
theorem RdP.map {z:γ} {h:γ→List Int} {T:γ→Prop} (x:RdP f R b p bad a q bad1) (hm:R a→T z∧h z=f a) (hc:∀ z,T z→∃ a',R a'∧h z=f a'):RdP h T b p bad z q bad1:=by
 refine ⟨x.le,x.len,x.stays,fun e=>?_,fun e z t hz ht=>?_⟩
 ·obtain ⟨x1,x2⟩:=x.sound e
  obtain ⟨m1,m2⟩:=hm x1
  exact ⟨m1,by rw [m2];exact x2⟩
 ·obtain ⟨a',h1,h3⟩:=hc z hz
  exact x.full e a' t h1 (by rw [ht,h3])
theorem RdP.none {z:γ} {h:γ→List Int} {T:γ→Prop} (hq:p≤b.length) (hc:∀ z,¬ T z):RdP h T b p bad z p true:=
 ⟨Nat.le_refl _,hq,fun _=>rfl,fun e=>(by cases e),fun _ z _ hz=>(hc z hz).elim⟩
theorem RdP.unit {z:γ} {h:γ→List Int} {T:γ→Prop} (hq:p≤b.length) (hz:T z) (h0:h z=[]):RdP h T b p bad z p bad:=
 ⟨Nat.le_refl _,hq,fun e=>e,fun _=>⟨hz,by rw [h0];rfl⟩,fun e _ _ _ _=>e⟩
structure RdL {α:Type} (f:α→List Int) (R:α→Prop) (b:List Int) (p:Nat) (bad:Bool) (n:Nat) (l:List α) (q:Nat) (bad1:Bool):Prop where
 le:p≤q
 len:q≤b.length
 stays:bad=true→bad1=true
 sound:bad1=false→(∀ x ∈ l,R x)∧b.drop p=l.flatMap f++b.drop q
 full:bad=false→∀ (m:List α) (t:List Int),m.length=n→(∀ x ∈ m,R x)→b.drop p=m.flatMap f++t→bad1=false
theorem RdL.nil {n:Nat} (hp:p≤b.length):RdL f R b p bad n [] p bad:=
 ⟨Nat.le_refl _,hp,fun e=>e,fun _=>⟨by simp,by simp⟩,fun e _ _ _ _ _=>e⟩
theorem RdL.snoc {n:Nat} {l:List α} (hf:PF f R) (hn:l.length < n) (x:RdL f R b p bad n l q false) (y:RdP f R b q false a r bad2):RdL f R b p bad n (l++[a]) r bad2:=by
 obtain ⟨x1,x2⟩:=x.sound rfl
 refine ⟨Nat.le_trans x.le y.le,y.len,fun e=>(by have:=x.stays e;cases this),fun e=>?_,fun e m t hm hR ht=>?_⟩
 ·obtain ⟨y1,y2⟩:=y.sound e
  refine ⟨fun z hz=>?_,?_⟩
  ·rcases List.mem_append.1 hz with hz | hz
   ·exact x1 z hz
   ·rw [List.mem_singleton.1 hz];exact y1
  ·rw [x2,y2,List.flatMap_append,List.append_assoc];simp
 ·have hsp:m=m.take l.length++m.drop l.length:=(List.take_append_drop _ _).symm
  have hlt:l.length < m.length:=by omega
  rw [hsp,List.flatMap_append,List.append_assoc,x2] at ht
  obtain ⟨_,e2⟩:=hf.flat x1 (fun z hz=>hR z (List.mem_of_mem_take hz)) (by rw [List.length_take];omega) ht
  rw [List.drop_eq_getElem_cons hlt,List.flatMap_cons,List.append_assoc] at e2
  exact y.full rfl _ _ (hR _ (List.getElem_mem hlt)) e2
theorem RdL.done {n most:Nat} {l:List α} (hpos:∀ a,1≤(f a).length) (hb:b.length < 9223372036854775808) (x:RdP uv (fun n=>n≤most) b p bad n q bad1) (y:RdL f R b q bad1 n l r bad2) (hl:bad2=false→l.length=n) (hmost:b.length≤most) (hM:most < 18446744073709551616) :
  RdP (encM f) (RepM R) b p bad l r bad2:=by
 have was:bad2=false→bad1=false:=fun h=>by
  cases hb1:bad1
  ·rfl
  ·rw [y.stays hb1] at h;cases h
 refine ⟨Nat.le_trans x.le y.le,y.len,fun e=>y.stays (x.stays e),fun e=>?_,fun e m t hm ht=>?_⟩
 ·obtain ⟨y1,y2⟩:=y.sound e
  obtain ⟨x1,x2⟩:=x.sound (was e)
  have hn:=hl e
  have h1:=congrArg List.length y2
  have h2:=flat_len_le hpos l
  rw [List.length_append,List.length_drop] at h1
  exact ⟨⟨by omega,y1⟩,by rw [x2,y2];unfold encM;rw [hn,List.append_assoc]⟩
 ·unfold encM at ht
  rw [List.append_assoc] at ht
  have h1:=flat_len_le hpos m
  have h2:=congrArg List.length ht
  rw [List.length_drop,List.length_append,List.length_append] at h2
  have e1:=x.full e m.length _ (show m.length≤most by omega) ht
  obtain ⟨x1,x2⟩:=x.sound e1
  rw [ht] at x2
  obtain ⟨e2,e3⟩:=uv_pre (by omega) (by omega) x2
  exact y.full e1 m t e2 hm.2 e3.symm
theorem pf_uv {most:Nat} (h:most < 18446744073709551616):PF uv (fun n=>n≤most):=fun _ _ _ _ ha hb e=>uv_pre (by omega) (by omega) e
end
end Go.Proofs.YtgmpbihbdbmhoaaGreatDoor

namespace Go.Proofs.YtgmpbihbdbmhoaaGreatDoor
open Go Go.K

def encW (v:AVal):List Int:=if v.kind=1∨v.kind=2 then uv (zigN v.n) else if v.kind=3 then uv v.f.toNat else if v.kind=4 then uv v.s.size++bytesL v.s else []
theorem encV_eq (v:AVal):encV v=uv v.kind.toNat++encW v:=rfl
abbrev RdV (k:Nat) (b:List Int) (p:Nat) (bad:Bool) (v:AVal) (q:Nat) (bad1:Bool):Prop:=RdP encW (fun v=>v.kind=k∧RepV v) b p bad v q bad1
section
variable {b:List Int} {p q r s:Nat} {bad bad1 bad2 bad3:Bool}
theorem RdV.int {k n:Nat} (hk:k=1∨k=2) (hn:n < 18446744073709551616) (x:RdP uv (fun n=>n < 18446744073709551616) b p bad n q bad1):RdV k b p bad ⟨k,unzig n,0,⟨#[]⟩⟩ q bad1:=by
 have hz:=zig_unzig hn
 have ek:∀ v:AVal,v.kind=(k:Int)→(v.kind=1∨v.kind=2):=fun v h=>by omega
 refine x.map (fun h=>⟨⟨rfl,Or.inl ⟨ek _ rfl,⟨hz.2.1,hz.2.2⟩,rfl,rfl⟩⟩,?_⟩) fun z hz=>⟨zigN z.n,?_,?_⟩
 ·unfold encW
  rw [if_pos (ek _ rfl),hz.1]
 ·have:=hz.2
  rcases this with ⟨_,h,_⟩ | ⟨h,_⟩ | ⟨h,_⟩
  ·exact zigN_lt h.1 h.2
  ·have:=hz.1;omega
  ·have:=hz.1;omega
 ·unfold encW
  rw [if_pos (ek _ hz.1)]
theorem RdV.float {n:Nat} (x:RdP uv (fun n=>n≤18446744073709551615) b p bad n q bad1):RdV 3 b p bad ⟨3,0,n,⟨#[]⟩⟩ q bad1:=by
 refine x.map (fun h=>⟨⟨rfl,Or.inr (Or.inl ⟨rfl,rfl,⟨by simp only;omega,by simp only;omega⟩,rfl⟩)⟩,rfl⟩) fun z hz=>⟨z.f.toNat,?_,?_⟩
 ·rcases hz.2 with ⟨h,_⟩ | ⟨_,_,h,_⟩ | ⟨h,_⟩
  ·have:=hz.1;omega
  ·omega
  ·have:=hz.1;omega
 ·unfold encW
  rw [if_neg (by have:=hz.1;omega),if_pos (by have:=hz.1;omega)]
theorem RdV.text {s:ByteArray} {l:List Int} (hs:bytesL s=l) (x:RdP encX (fun x=>x.length < 9223372036854775808) b p bad l q bad1):RdV 4 b p bad ⟨4,0,0,s⟩ q bad1:=by
 have hl:=bytesL_len s
 refine x.map (fun h=>⟨⟨rfl,Or.inr (Or.inr ⟨rfl,rfl,rfl,by simp only;rw [←hl,hs];exact h⟩)⟩,?_⟩) fun z hz=>⟨bytesL z.s,?_,?_⟩
 ·show uv s.size++bytesL s=encX l
  unfold encX
  rw [←hl,hs]
 ·rcases hz.2 with ⟨h,_⟩ | ⟨h,_⟩ | ⟨_,_,_,h⟩
  ·have:=hz.1;omega
  ·have:=hz.1;omega
  ·rw [bytesL_len];exact h
 ·have:=hz.1
  unfold encW encX
  rw [if_neg (by omega),if_neg (by omega),if_pos (by omega),bytesL_len]
theorem RdV.bads {k:Nat} {v:AVal} (hp:p≤b.length) (hk:¬ (1≤k∧k≤4)):RdV k b p bad v p true:=
 RdP.none hp fun z hz=>hk (by have:=hz.2.kind;have:=hz.1;omega)
theorem RdP.value {k most:Nat} {v:AVal} (x:RdP uv (fun n=>n≤most) b p bad k q bad1) (y:RdV k b q bad1 v r bad2) (h1:4≤most:=by decide) (h2:most < 18446744073709551616:=by decide):RdP encV RepV b p bad v r bad2:=by
 refine x.seq (g:=fun _=>encW) (Q:=fun k v=>v.kind=((k:Nat):Int)∧RepV v) (pf_uv h2) y (fun _ h=>⟨h.2,?_⟩) fun z hz=>⟨z.kind.toNat,z,?_,⟨?_,hz⟩,rfl⟩
 ·rw [encV_eq,h.1];rfl
 ·have:=hz.kind;omega
 ·have:=hz.kind;omega
theorem RdP.attr {k:Nat} {v:AVal} (x:RdP uv (fun n=>n≤9223372036854775807) b p bad k q bad1) (y:RdP encV RepV b q bad1 v r bad2):RdP encAt RepA b p bad ⟨k,v⟩ r bad2:=by
 refine x.seq (g:=fun _=>encV) (Q:=fun _=>RepV) (pf_uv (by decide)) y (fun h1 h2=>⟨⟨?_,h2⟩,rfl⟩) fun z hz=>⟨z.key.toNat,z.val,?_,hz.2,rfl⟩
 ·exact ⟨Int.natCast_nonneg _,by simp only;omega⟩
 ·have:=hz.1;unfold Key63 at this;omega
def hC (c:Bool × AVal):List Int:=if c.1 then uv 0 else encV c.2
def TC (c:Bool × AVal):Prop:=(c.1=true∧c.2=AVal.zero)∨(c.1=false∧RepV c.2)
def gC (c:Bool × AVal):List Int:=if c.1 then [] else encW c.2
def QC (k:Nat) (c:Bool × AVal):Prop:=(c.1=true∧c.2=AVal.zero∧k=0)∨(c.1=false∧RepV c.2∧c.2.kind=k)
theorem RdP.tail {k most:Nat} {c:Bool × AVal} (x:RdP uv (fun n=>n≤most) b p bad k q bad1) (y:RdP gC (QC k) b q bad1 c r bad2) (h1:4≤most:=by decide) (h2:most < 18446744073709551616:=by decide):RdP hC TC b p bad c r bad2:=by
 refine x.seq (g:=fun _=>gC) (Q:=QC) (pf_uv h2) y (fun _ h=>?_) fun z hz=>?_
 ·obtain ⟨g,v⟩:=c
  rcases h with ⟨h1,h2,h3⟩ | ⟨h1,h2,h3⟩
  ·simp only at h1 h2;subst h1;subst h2;subst h3
   exact ⟨Or.inl ⟨rfl,rfl⟩,by simp [hC,gC]⟩
  ·simp only at h1 h2 h3;subst h1
   refine ⟨Or.inr ⟨rfl,h2⟩,?_⟩
   simp only [hC,gC,Bool.false_eq_true,if_false]
   rw [encV_eq,h3];rfl
 ·obtain ⟨g,v⟩:=z
  rcases hz with ⟨h1,h2⟩ | ⟨h1,h2⟩
  ·simp only at h1 h2;subst h1;subst h2
   exact ⟨0,(true,AVal.zero),by omega,Or.inl ⟨rfl,rfl,rfl⟩,by simp [hC,gC]⟩
  ·simp only at h1 h2;subst h1
   have:=h2.kind
   refine ⟨v.kind.toNat,(false,v),by omega,Or.inr ⟨rfl,h2,by simp only;omega⟩,?_⟩
   simp only [hC,gC,Bool.false_eq_true,if_false]
   exact encV_eq v
theorem RdP.gone (hp:p≤b.length):RdP gC (QC 0) b p bad (true,AVal.zero) p bad:=RdP.unit hp (Or.inl ⟨rfl,rfl,rfl⟩) rfl
theorem RdV.kept {k:Nat} {v:AVal} (hk:k≠0) (x:RdV k b p bad v q bad1):RdP gC (QC k) b p bad (false,v) q bad1:=by
 refine x.map (fun h=>⟨Or.inr ⟨rfl,h.2,h.1⟩,rfl⟩) fun z hz=>?_
 rcases hz with ⟨_,_,h⟩ | ⟨h1,h2,h3⟩
 ·exact (hk h).elim
 ·refine ⟨z.2,⟨h3,h2⟩,?_⟩
  unfold gC
  rw [h1];rfl
theorem RdP.change {k:Nat} {c:Bool × AVal} (x:RdP uv (fun n=>n≤9223372036854775807) b p bad k q bad1) (y:RdP hC TC b q bad1 c r bad2):RdP encCh RepC b p bad ⟨k,c.1,c.2⟩ r bad2:=by
 refine x.seq (g:=fun _=>hC) (Q:=fun _=>TC) (pf_uv (by decide)) y (fun h1 h2=>⟨⟨?_,h2⟩,rfl⟩) fun z hz=>⟨z.key.toNat,(z.gone,z.val),?_,hz.2,rfl⟩
 ·exact ⟨Int.natCast_nonneg _,by simp only;omega⟩
 ·have:=hz.1;unfold Key63 at this;omega
def encT (l:List Int):List Int:=encX (textR l)
def RepT (l:List Int):Prop:=(∀ r ∈ l,MayR r)∧(textR l).length < 9223372036854775808
theorem pf_text:PF encT RepT:=fun _ _ _ _ ha hb e=>by
 obtain ⟨e1,e2⟩:=pf_bytes ha.2 hb.2 e
 exact ⟨textR_inj ha.1 hb.1 e1,e2⟩
theorem RdP.text {l m:List Int} (hb:∀ x ∈ l,0≤x∧x < 256) (x:RdP encX (fun x=>x.length < 9223372036854775808) b p bad l q bad1) (h:readB l=some m):RdP encT RepT b p bad m q bad1:=by
 obtain ⟨e,hm⟩:=text_read l.length (Nat.le_refl _) hb h
 refine x.map (fun h=>⟨⟨hm,e ▸ h⟩,by unfold encT;rw [e]⟩) fun z hz=>⟨textR z,hz.2,rfl⟩
theorem RdP.text_bad {l m:List Int} (x:RdP encX (fun x=>x.length < 9223372036854775808) b p bad l q bad1) (h:readB l=Option.none):RdP encT RepT b p bad m q true:=by
 refine ⟨x.le,x.len,fun _=>rfl,fun e=>(by cases e),fun e c t hc ht=>?_⟩
 have e1:=x.full e (textR c) t hc.2 ht
 obtain ⟨x1,x2⟩:=x.sound e1
 have ht':b.drop p=encX (textR c)++t:=ht
 rw [ht'] at x2
 obtain ⟨e2,_⟩:=pf_bytes hc.2 x1 x2
 rw [←e2,read_text hc.1] at h
 cases h
def encU (o:Dop):List Int:=if o.kind=1 then uv o.n.toNat++encM encCh o.patch else if o.kind=2 then encX (textR o.runes)++encM encAt o.set else if o.kind=3 then uv o.n.toNat else []
theorem encOp_eq (o:Dop):encOp o=uv o.kind.toNat++encU o:=rfl
abbrev RdO (m:Int) (k:Nat) (b:List Int) (p:Nat) (bad:Bool) (o:Dop) (q:Nat) (bad1:Bool):Prop:=RdP encU (fun o=>o.kind=k∧RepOm m o) b p bad o q bad1
variable {m:Nat}
theorem RdO.retain {n:Nat} {l:List Chg} (hm:m≤4294967296) (x:RdP uv (fun n=>n≤m) b p bad n q bad1) (y:RdP (encM encCh) (RepM RepC) b q bad1 l r bad2):RdO m 1 b p bad ⟨1,n,[],[],l⟩ r bad2:=by
 refine x.seq (g:=fun _=>encM encCh) (Q:=fun _=>RepM RepC) (pf_uv (by omega)) y (fun h1 h2=>⟨⟨rfl,Or.inl ⟨rfl,⟨Int.natCast_nonneg _,by simp only;omega⟩,rfl,rfl,h2⟩⟩,rfl⟩) fun z hz=>?_
 rcases hz with ⟨h0,⟨h1,h2,_,_,h3⟩ | ⟨h1,_⟩ | ⟨h1,_⟩⟩
 ·refine ⟨z.n.toNat,z.patch,by omega,h3,?_⟩
  unfold encU;rw [if_pos h1]
 ·omega
 ·omega
theorem RdO.insert {t:List Int} {l:List Attr} (x:RdP encT RepT b p bad t q bad1) (y:RdP (encM encAt) (RepM RepA) b q bad1 l r bad2):RdO m 2 b p bad ⟨2,0,t,l,[]⟩ r bad2:=by
 refine x.seq (g:=fun _=>encM encAt) (Q:=fun _=>RepM RepA) pf_text y (fun h1 h2=>⟨⟨rfl,Or.inr (Or.inl ⟨rfl,rfl,h1.1,h1.2,h2,rfl⟩)⟩,rfl⟩) fun z hz=>?_
 rcases hz with ⟨h0,⟨h1,_⟩ | ⟨h1,_,h2,h3,h4,_⟩ | ⟨h1,_⟩⟩
 ·omega
 ·refine ⟨z.runes,z.set,⟨h2,h3⟩,h4,?_⟩
  unfold encU;rw [if_neg (by omega),if_pos h1];rfl
 ·omega
theorem RdO.delete {n:Nat} (x:RdP uv (fun n=>n≤m) b p bad n q bad1):RdO m 3 b p bad ⟨3,n,[],[],[]⟩ q bad1:=by
 refine x.map (fun h1=>⟨⟨rfl,Or.inr (Or.inr ⟨rfl,⟨Int.natCast_nonneg _,by simp only;omega⟩,rfl,rfl,rfl⟩)⟩,rfl⟩) fun z hz=>?_
 rcases hz with ⟨h0,⟨h1,_⟩ | ⟨h1,_⟩ | ⟨h1,h2,_⟩⟩
 ·omega
 ·omega
 ·refine ⟨z.n.toNat,by omega,?_⟩
  unfold encU;rw [if_neg (by omega),if_neg (by omega),if_pos h1]
theorem RdO.bads {k:Nat} {o:Dop} (hp:p≤b.length) (hk:¬ (1≤k∧k≤3)):RdO m k b p bad o p true:=
 RdP.none hp fun z hz=>hk (by have:=RepO.kind hz.2;have:=hz.1;omega)
theorem RdP.op {k most:Nat} {o:Dop} (x:RdP uv (fun n=>n≤most) b p bad k q bad1) (y:RdO m k b q bad1 o r bad2) (h1:4≤most:=by decide) (h2:most < 18446744073709551616:=by decide):RdP encOp (RepOm m) b p bad o r bad2:=by
 refine x.seq (g:=fun _=>encU) (Q:=fun k o=>o.kind=((k:Nat):Int)∧RepOm m o) (pf_uv h2) y (fun _ h=>⟨h.2,?_⟩) fun z hz=>⟨z.kind.toNat,z,?_,⟨?_,hz⟩,rfl⟩
 ·rw [encOp_eq,h.1];rfl
 ·have:=RepO.kind hz;omega
 ·have:=RepO.kind hz;omega
end
noncomputable def decB (ks:List DKey) (b:List Int):List Dop × Int:=
 open Classical in if h:∃ x,RepM RepO x∧encL x=b∧mayOps ks x≠3∧rof x=x then (if mayOps ks (Classical.choose h)=0 then (Classical.choose h,0) else ([],mayOps ks (Classical.choose h))) else ([],3)
end Go.Proofs.YtgmpbihbdbmhoaaGreatDoor

namespace Go.Proofs.YtgmpbihbdbmhoaaGreatDoor
open Go Go.K

def InVB (v:AVal):Prop:=(-9223372036854775808≤v.n∧v.n≤9223372036854775807)∧(0≤v.f∧v.f < 18446744073709551616)
def InB (o:Dop):Prop:=(∀ a ∈ o.set,a.key≤9223372036854775807∧InVB a.val)∧∀ c ∈ o.patch,c.key≤9223372036854775807∧InVB c.val
theorem InB.o {o:Dop} (h:InB o):InO o:=⟨fun a ha=>(h.1 a ha).2.2.1,fun c hc=>(h.2 c hc).2.2.1⟩
variable {ks:List DKey}
abbrev PSB (ks:List DKey) (l:List Attr):Prop:=SetK ks l∧∀ a ∈ l,a.key≤9223372036854775807∧InVB a.val
abbrev PPB (ks:List DKey) (p:List Chg):Prop:=PatK ks p∧∀ c ∈ p,c.key≤9223372036854775807∧InVB c.val
abbrev GoodB (ks:List DKey) (o:Dop):Prop:=Good (PSB ks) (PPB ks) o
theorem GoodB.k {o:Dop} (h:GoodB ks o):GoodK ks o:=by
 rcases h with ⟨h1,h2,h3,h4,h5⟩ | h | ⟨h1,h2,h3,h4,h5,h6⟩
 ·exact .inl ⟨h1,h2,h3,h4,h5.1⟩
 ·exact .inr (.inl h)
 ·exact .inr (.inr ⟨h1,h2,h3,h4,h5,h6.1⟩)
theorem GoodK.b {o:Dop} (h:GoodK ks o) (hb:InB o):GoodB ks o:=by
 rcases h with ⟨h1,h2,h3,h4,h5⟩ | h | ⟨h1,h2,h3,h4,h5,h6⟩
 ·exact .inl ⟨h1,h2,h3,h4,h5,hb.2⟩
 ·exact .inr (.inl h)
 ·exact .inr (.inr ⟨h1,h2,h3,h4,h5,h6,hb.1⟩)
theorem ValOK.rep {v:AVal} (h:ValOK v) (hi:InVB v):RepV v:=by
 rcases h with ⟨h1,h2,h3⟩ | ⟨h1,h2⟩ | ⟨h1,h2,_⟩ | ⟨h1,h2,h3,_⟩
 ·exact .inl ⟨.inl h1,hi.1,by rw [h2],by rw [h2];rfl⟩
 ·exact .inl ⟨.inr h1,hi.1,by rw [h2],by rw [h2];rfl⟩
 ·exact .inr (.inl ⟨h1,by rw [h2],hi.2,by rw [h2];rfl⟩)
 ·exact .inr (.inr ⟨h1,by rw [h2],by rw [h2],by omega⟩)
theorem find_pos (hk:∀ k ∈ ks,0≤k.id) {id:Int} (h:findK ks id≠none):0≤id:=by
 obtain ⟨k,h1,h2⟩:=List.mem_map.1 (find_id' h)
 rw [←h2];exact hk k h1
theorem SetK.rep (hk:∀ k ∈ ks,0≤k.id) {l:List Attr} (h:PSB ks l):RepM RepA l:=
 ⟨by have:=h.1.2.1;omega,fun a ha=>by
  obtain ⟨h1,k,h2,_⟩:=h.1.2.2 a ha
  have h3:=h.2 a ha
  exact ⟨⟨find_pos hk (by rw [h2];simp),by omega⟩,h1.rep h3.2⟩⟩
theorem PatK.rep (hk:∀ k ∈ ks,0≤k.id) {l:List Chg} (h:PPB ks l):RepM RepC l:=
 ⟨by have:=h.1.2.1;omega,fun c hc=>by
  obtain ⟨h1,h2,h4⟩:=h.1.2.2 c hc
  have h3:=h.2 c hc
  refine ⟨⟨find_pos hk h4,by omega⟩,?_⟩
  cases hg:c.gone
  ·exact .inr ⟨rfl,(h2 hg).1.rep h3.2⟩
  ·exact .inl ⟨rfl,h1 hg⟩⟩
theorem textR_len':∀ l:List Int,(textR l).length≤l.length * 4:=by
 intro l
 induction l with
 | nil=>simp [textR]
 | cons r l ih=>
  have:=(oneB_len r).2
  have e:textR (r :: l)=oneB r++textR l:=rfl
  rw [e,List.length_append,List.length_cons]
  omega
theorem GoodB.rep (hk:∀ k ∈ ks,0≤k.id) {o:Dop} (h:GoodB ks o) (hl:lenN o≤536870912):RepO o:=by
 unfold lenN at hl
 rcases h with ⟨h1,h2,h3,h4,h5⟩ | ⟨h1,h2,h3,h4,h5⟩ | ⟨h1,h2,h3,h4,h5,h6⟩
 ·rw [if_neg (by omega)] at hl
  exact .inl ⟨h1,by omega,h2,h3,PatK.rep hk h5⟩
 ·rw [if_neg (by omega)] at hl
  exact .inr (.inr ⟨h1,by omega,h2,h3,h4⟩)
 ·rw [if_pos h1] at hl
  exact .inr (.inl ⟨h1,h3,h2,by have:=textR_len' o.runes;omega,SetK.rep hk h6,h4⟩)
theorem GoodK.form1 {o:Dop} (h:GoodK ks o) (hl:lenN o≤536870912):Form1 o:=by
 unfold lenN at hl
 rcases h with ⟨h1,h2,h3,h4,h5⟩ | ⟨h1,h2,h3,h4,h5⟩ | ⟨h1,h2,h3,h4,h5,h6⟩
 ·rw [if_neg (by omega)] at hl
  exact .inl ⟨h1,h2,h3,h4,by omega⟩
 ·rw [if_neg (by omega)] at hl
  exact .inr (.inl ⟨h1,h2,h3,h4,h5,by omega⟩)
 ·exact .inr (.inr ⟨h1,h3,h4,h5⟩)
theorem GoodK.tm {o:Dop} (h:GoodK ks o):takesF o=(lenN o:Int) - o.runes.length∧makesF o=(lenN o:Int) - (if o.kind=3 then o.n else 0)∧0≤takesF o∧takesF o≤lenN o∧0≤makesF o∧makesF o≤lenN o:=by
 unfold takesF makesF lenN lenO
 rcases h with ⟨h1,h2,h3,h4,h5⟩ | ⟨h1,h2,h3,h4,h5⟩ | ⟨h1,h2,h3,h4,h5,h6⟩
 ·rw [h1,h2];simp;omega
 ·rw [h1,h2];simp;omega
 ·rw [h1];simp
theorem sums {x:List Dop} (h:∀ o ∈ x,GoodK ks o∧lenN o≤536870912) (hl:x.length≤1048576):sumW takesF x=(total x:Int) - runesN x∧sumW makesF x=(total x:Int) - goneN x:=by
 have e1:=(sumW_small (f:=takesF) (m:=536870912) (by decide) x (fun o ho=>by have:=(h o ho).1.tm;have:=(h o ho).2;omega) (by omega)).1
 have e2:=(sumW_small (f:=makesF) (m:=536870912) (by decide) x (fun o ho=>by have:=(h o ho).1.tm;have:=(h o ho).2;omega) (by omega)).1
 rw [e1,e2]
 clear e1 e2 hl
 induction x with
 | nil=>simp [total,runesN,goneN]
 | cons o x ih=>
  obtain ⟨i1,i2⟩:=ih fun o ho=>h o (by simp [ho])
  have:=(h o (by simp)).1.tm
  simp only [List.map_cons,List.sum_cons,total,runesN,goneN] at i1 i2 ⊢
  push_cast
  omega
theorem good_may' {x:List Dop} (h:∀ o ∈ x,GoodK ks o∧lenN o≤536870912) (ht:sumW takesF x≤536870912) (hm:sumW makesF x≤536870912):mayOps ks x=0:=by
 have hf:∀ o ∈ x,FormO o∧SetK ks o.set∧PatK ks o.patch:=fun o ho=>GoodK.form (h o ho).1 (h o ho).2
 unfold mayOps
 rw [if_neg,if_neg]
 ·rintro ⟨o,ho,hn | hn⟩
  ·exact hn (setK_iff.2 (hf o ho).2.1)
  ·exact hn (patK_iff.2 (hf o ho).2.2)
 ·rintro (⟨o,ho,hn | hn | hn⟩ | hn | hn)
  ·exact hn (hf o ho).1
  ·rw [setK_iff.2 (hf o ho).2.1] at hn;cases hn
  ·rw [patK_iff.2 (hf o ho).2.2] at hn;cases hn
  ·omega
  ·omega
theorem may_sums {x:List Dop} (h:mayOps ks x=0):sumW takesF x≤536870912∧sumW makesF x≤536870912:=by
 unfold mayOps at h
 split at h
 ·cases h
 ·rename_i h1
  exact ⟨Classical.byContradiction fun hn=>h1 (.inr (.inl (by omega))),Classical.byContradiction fun hn=>h1 (.inr (.inr (by omega)))⟩
theorem runesN_le {x:List Dop} (h:∀ o ∈ x,GoodK ks o):((runesN x:Int)+goneN x≤total x)∧0≤goneN x:=by
 induction x with
 | nil=>simp [total,runesN,goneN]
 | cons o x ih=>
  have:=ih fun o ho=>h o (by simp [ho])
  have ho:=h o (by simp)
  simp only [List.map_cons,List.sum_cons,total,runesN,goneN,lenN] at this ⊢
  push_cast
  rcases ho with ⟨h1,h2,h3,h4,h5⟩ | ⟨h1,h2,h3,h4,h5⟩ | ⟨h1,h2,h3,h4,h5,h6⟩
  ·rw [h1,h2];simp;omega
  ·rw [h1,h2];simp;omega
  ·rw [h1];simp;omega
theorem one_le {x:List Dop} (h:∀ o ∈ x,GoodK ks o) {z:Dop} (hz:z ∈ x):(z.kind≠2→(lenN z:Int)+runesN x≤total x)∧(z.kind=2→(lenN z:Int)+goneN x≤total x):=by
 induction x with
 | nil=>simp at hz
 | cons o x ih=>
  have hx:∀ o ∈ x,GoodK ks o:=fun o ho=>h o (by simp [ho])
  have hr:=runesN_le hx
  have ho:=h o (by simp)
  have ho':=ho.tm
  have hone:(o.runes.length:Int)≤lenN o∧(if o.kind=3 then o.n else 0)≤lenN o∧0≤(if o.kind=3 then o.n else 0)∧(o.kind≠2→o.runes.length=0)∧(o.kind=2→(if o.kind=3 then o.n else 0)=0):=by
   have:=ho'.2.2.1
   have:=ho'.2.2.2.2.1
   refine ⟨by omega,by omega,?_,fun e=>?_,fun e=>by rw [e];rfl⟩
   ·split
    ·rcases ho with ⟨h1,_⟩ | ⟨_,_,_,_,h5⟩ | ⟨h1,_⟩ <;> omega
    ·omega
   ·rcases ho with ⟨_,h2,_⟩ | ⟨_,h2,_⟩ | ⟨h1,_⟩
    ·rw [h2];rfl
    ·rw [h2];rfl
    ·exact (e h1).elim
  simp only [List.map_cons,List.sum_cons,total,runesN,goneN] at hr ⊢
  push_cast
  rcases List.mem_cons.1 hz with rfl | hz
  ·refine ⟨fun e=>?_,fun e=>?_⟩
   ·have:=hone.2.2.2.1 e;omega
   ·have:=hone.2.2.2.2 e;omega
  ·have i1:=ih hx hz
   simp only [total,runesN,goneN] at i1
   refine ⟨fun e=>?_,fun e=>?_⟩
   ·have:=i1.1 e;omega
   ·have:=i1.2 e;omega
theorem norm_may (hk:∀ k ∈ ks,0≤k.id) {x:List Dop} (h:mayOps ks x=0) (hb:∀ o ∈ x,InB o) (hl:x.length≤1048576) :
  mayOps ks (normB x)=0∧(∀ z ∈ normB x,GoodB ks z∧lenN z≤536870912)∧RepM RepO (normB x)∧normB (normB x)=normB x∧(normB x).length≤x.length:=by
 have hg:=may_good h
 obtain ⟨e1,e2⟩:=sums hg hl
 obtain ⟨m1,m2⟩:=may_sums h
 have hr0:=runesN_le fun o ho=>(hg o ho).1
 have hf:∀ o ∈ x,Form1 o:=fun o ho=>(hg o ho).1.form1 (hg o ho).2
 obtain ⟨n1,n2⟩:=good_norm x (fun o ho=>(hg o ho).1.b (hb o ho)) (by omega)
 obtain ⟨s1,s2,s3⟩:=norm_short x hf (by omega)
 have hn:∀ z ∈ normB x,lenN z≤536870912:=by
  intro z hz
  have hr:=one_le (fun o ho=>GoodB.k (n1 o ho)) hz
  rw [s1,s2] at hr
  by_cases e:z.kind=2
  ·have:=hr.2 e;omega
  ·have:=hr.1 e;omega
 have hgn:∀ z ∈ normB x,GoodK ks z∧lenN z≤536870912:=fun z hz=>⟨GoodB.k (n1 z hz),hn z hz⟩
 obtain ⟨f1,f2⟩:=sums hgn (by omega)
 rw [s1] at f1
 rw [s2] at f2
 exact ⟨good_may' hgn (by omega) (by omega),fun z hz=>⟨n1 z hz,hn z hz⟩,⟨by omega,fun z hz=>GoodB.rep hk (n1 z hz) (hn z hz)⟩,norm_twice x hf (by omega),s3⟩
theorem may_rof {x:List Dop} (h:mayOps ks x≠3) (hl:x.length≤1048576):normB x=rof x:=by
 refine norm_eq x fun o ho=>?_
 have hf:FormO o:=Classical.byContradiction fun hn=>h (by unfold mayOps;rw [if_pos (.inl ⟨o,ho,.inl hn⟩)])
 rcases hf with ⟨h1,h2,h3,h4,h5⟩ | ⟨h1,h2,h3,h4,h5,h6⟩ | ⟨h1,h2,h3,h4,h5,h6⟩
 ·exact .inl ⟨h1,h2,h3,h4,h5⟩
 ·exact .inr (.inl ⟨h1,h2,h3,h4,h5,h6⟩)
 ·exact .inr (.inr ⟨h1,h3,h4,by intro e;rw [e] at h5;simp at h5⟩)
theorem decB_enc {x:List Dop} (hr:RepM RepO x) (h3:mayOps ks x≠3) (hn:rof x=x):decB ks (encL x)=if mayOps ks x=0 then (x,0) else ([],mayOps ks x):=by
 have h:∃ y,RepM RepO y∧encL y=encL x∧mayOps ks y≠3∧rof y=y:=⟨x,hr,rfl,h3,hn⟩
 unfold decB
 rw [dif_pos h]
 have e:Classical.choose h=x:=encL_inj (Classical.choose_spec h).1 hr (Classical.choose_spec h).2.1
 rw [e]
theorem decB_none {b:List Int} (h:∀ x,RepM RepO x→encL x=b→mayOps ks x=3∨rof x≠x):decB ks b=([],3):=by
 unfold decB
 rw [dif_neg]
 rintro ⟨x,h1,h2,h3,h4⟩
 rcases h x h1 h2 with e | e
 ·exact h3 e
 ·exact e h4
end Go.Proofs.YtgmpbihbdbmhoaaGreatDoor
