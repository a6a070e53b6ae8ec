/- By a program of ours: of each function below the predicate that its code comes to, and that it is sound. No conditions. The history in memory: its stores; contracts of New, keep. Conditions: the sizes. Contracts of the history: ready, New, keep, Push outside a bracket, Depths, Open, Begin. Conditions: the sizes. Contracts of the history: Push outside a bracket, Depths, Open, Begin, Undo, Redo. Conditions: the sizes. Contracts of the history: Undo, Redo; the history as the laws use it. Conditions: the sizes. What is known of the history; the law HistoryNone. Conditions: the sizes. What is known of the history; the law HistoryNone. No conditions. The plain law of patches: one behind the other, and on sets: the program's merges and the document's one by one agree where keys rise. No program in sight, no conditions. The plain law of composing deltas: cut in ones; the maker that is told the parts comes to the same. No program in sight, no conditions. The plain law of composing deltas: what may be, composed, may be; how long it gets. No program in sight. Contracts: a patch behind another one; a set with a patch on it. Conditions: the sizes. Plain laws: what is no number; eight bytes in one word. No conditions. Contracts: eight bytes as a word; whether bytes are UTF-8. Conditions: the two tables lie in memory as they are laid. Contracts: the changes of block keys, or of inline ones; a cell with a patch on it. Conditions: the sizes. The law HistoryBack: it answers true, and leaves all memory as it was. No conditions. What is handed in, opened: sets, blocks, cells. No conditions. Contract: whether bytes are UTF-8 (utf8.Valid): as the document reads. Conditions: the two tables lie in memory as they are laid. Plain laws: the text of a set in the table of interned sets; no two sets have the same. Conditions: the numbers lie in their types. The opening of the rows that list the two tables: what the condition gives, a world that meets it; what is handed in, opened with its ranges. No conditions. Maps in memory as functions: what a lookup, a store and a delete do. No conditions. Plain laws: the table of interned sets as data. No conditions. Plain laws: the map from the sets' texts to ids. Conditions: the numbers of the sets lie in their types. Contracts: numbers and bytes in groups of seven bits (wire). Conditions: the sizes. The table of interned sets in memory; contracts of New, ready, Len, asked, Held, Hold, Set. Conditions: the sizes. -/
import Derived.Test.YtlbaopamhkmepaaGreatDoorZHistoryBack2
import Derived.ProofKit
import Derived.Lib.SmallJoins
import Derived.Deep.Slices
import Derived.Test.YtlbaopamhkmepaaGreatDoorRows
import Derived.Lib.LaidU8
import Derived.Lib.LaidIn
import Derived.LaidHandle
import Derived.LaidMore
import Derived.MakeChecks
import Derived.Lib.Zigzag
import Derived.Laws.Cover3
namespace Go.Proofs.YtlbaopamhkmepaaGreatDoor
open Go Go.K
/-- rubric/history.New -/
def S15 (v0 v1 : Value) (K : Cont) (w : World) : Prop :=
  JoinK (fun _vs w1 => ∀ _h : Env,
  buildK [(0, 1), (1, 1), (2, 1), (3, 1), (4, 1), (5, 1), (6, 1)] [(.pointer none), (.int .i64 0), (.bool false), (.slice none 0 0), (.slice none 0 0), (.bool false), (.slice none 0 0)] [(0, v0), (1, v1), (2, (.bool true))] fun t14 =>
  boxnK 67 t14 (fun t15 w2 =>
  K (.tuple #[t15, (.int .i64 0)]) w2) w1) (fun J =>
  ltK .i64 v1 (.int .i64 0) fun t7 =>
  condK t7
  (K (.tuple #[(.pointer none), (.int .i64 2)]) w)
  (gtK .i64 v1 (.int .i64 65536) fun t10 =>
  condK t10
  (K (.tuple #[(.pointer none), (.int .i64 2)]) w)
  (J [] w)))
theorem S15_eq (v0 v1 : Value) (K : Cont) (w : World) : S15 v0 v1 K w = D Tryz.prog okf 16 (bodyOf Tryz.f15) (.node [] [] .nil (.cut [] [(4, 11)] (.node [] [] .nil (.node [] [] (.node [] [] .nil .nil) .nil)) (.node [] [] .nil .nil))) (retK Tryz.prog [.tmp 4, .tmp 5] K) (nth [v0, v1]) w := by kernel_rfl
theorem S15_ok {v0 v1 : Value} {K : Cont} {w : World} (h : S15 v0 v1 K w) : callK Tryz.prog 15 [v0, v1] K w :=
  callK_of (P := Tryz.prog) (ok := okf) (n := 16) (fn := Tryz.f15) (c := bodyOf Tryz.f15) (rs := [.tmp 4, .tmp 5]) (an := (.node [] [] .nil (.cut [] [(4, 11)] (.node [] [] .nil (.node [] [] (.node [] [] .nil .nil) .nil)) (.node [] [] .nil .nil)))) good mixed Tryz.func15 (by kernel_rfl) (by kernel_rfl) (by kernel_rfl) (by kernel_rfl) (Eq.mp (S15_eq v0 v1 K w) h)

/-- (*rubric/history.History).ready -/
def S48 (v0 : Value) (K : Cont) (w : World) : Prop :=
  pnilK v0 fun b4 =>
  condK (.bool (!b4))
  (nilckK v0 fun t7 =>
  faK 2 t7 fun t8 =>
  ld1K t8 (fun t9 w1 =>
  K t9 w1) w)
  (K (.bool false) w)
theorem S48_eq (v0 : Value) (K : Cont) (w : World) : S48 v0 K w = D Tryz.prog okf 11 (bodyOf Tryz.f48) (.node [] [] .nil (.node [] [] .nil .nil)) (retK Tryz.prog [.tmp 2] K) (nth [v0]) w := by kernel_rfl
theorem S48_ok {v0 : Value} {K : Cont} {w : World} (h : S48 v0 K w) : callK Tryz.prog 48 [v0] K w :=
  callK_of (P := Tryz.prog) (ok := okf) (n := 11) (fn := Tryz.f48) (c := bodyOf Tryz.f48) (rs := [.tmp 2]) (an := (.node [] [] .nil (.node [] [] .nil .nil))) good mixed Tryz.func48 (by kernel_rfl) (by kernel_rfl) (by kernel_rfl) (by kernel_rfl) (Eq.mp (S48_eq v0 K w) h)

/-- (*rubric/history.History).keep -/
def S51 (v0 v1 : Value) (K : Cont) (w : World) : Prop :=
  boxnK 95 v1 (fun t3 w1 =>
  DrawC [6, 7, 10] [[], [], [1], [1, 2], [1, 2, 3], [], [5], [1, 2, 3, 4, 5, 6], [0, 1, 2, 3, 4, 5, 6, 7], [0, 1, 2, 3, 4, 5, 6, 7, 8], [0, 1, 2, 3, 4, 5, 6, 7, 8, 9]] w1.drew (fun M St =>
  nilckK v0 fun t7 =>
  faK 3 t7 fun t8 =>
  sld1 (St 4) t8 fun t9 =>
  sldn (St 5) 2 t3 fun t10 =>
  rowK 95 2 1 [(.slice none 0 0), (.slice none 0 0)] [(0, t10)] (fun t11 w2 =>
  Mod (M 6) w1.drew w2 ∧
  runK Tryz.prog (Builtin.append_ #[65, 65] 65 [t9, t11].toArray) (fun t12 w3 =>
  Mod (M 7) w2 w3 ∧
  nilckK v0 fun t13 =>
  faK 3 t13 fun t14 =>
  st1K t14 t12 (fun w4 =>
  Mod (M 10) w3 w4 ∧
  DrawK w4 (fun C =>
  nilckK v0 fun t16 =>
  faK 3 t16 fun t17 =>
  qld1K C t17 fun t18 =>
  lenK t18 fun t19 =>
  nilckK v0 fun t21 =>
  faK 1 t21 fun t22 =>
  qld1K C t22 fun t23 =>
  subK .i64 t19 t23 fun t24 =>
  ∀ w5 : World, C w5 →
  gtK .i64 t24 (.int .i64 0) fun t26 =>
  condK t26
  (nilckK v0 fun t28 =>
  faK 3 t28 fun t29 =>
  ld1K t29 (fun t30 w6 =>
  runK Tryz.prog (Instr.sliceAt 65 t30 none (some t24) none) (fun t32 w7 =>
  runK Tryz.prog (Builtin.clear_ #[65] 0 [t32].toArray) (fun _u w8 =>
  DrawC [16, 19] [[], [], [1], [1, 2], [1, 2, 3], [], [], [6], [6, 7], [6, 7, 8], [6, 7, 8, 9], [], [11], [11, 12], [11, 12, 13], [11, 12, 13, 14], [1, 2, 3, 4, 5, 6, 7, 8, 9, 10, 11, 12, 13, 14, 15], [0, 1, 2, 3, 4, 5, 6, 7, 8, 9, 10, 11, 12, 13, 14, 15, 16], [0, 1, 2, 3, 4, 5, 6, 7, 8, 9, 10, 11, 12, 13, 14, 15, 16, 17], [0, 1, 2, 3, 4, 5, 6, 7, 8, 9, 10, 11, 12, 13, 14, 15, 16, 17, 18]] w8.drew (fun M_1 St_1 =>
  nilckK v0 fun t35 =>
  faK 3 t35 fun t36 =>
  sld1 (St_1 4) t36 fun t37 =>
  nilckK v0 fun t40 =>
  faK 3 t40 fun t41 =>
  sld1 (St_1 9) t41 fun t42 =>
  lenK t42 fun t43 =>
  nilckK v0 fun t45 =>
  faK 3 t45 fun t46 =>
  sld1 (St_1 14) t46 fun t47 =>
  lenK t47 fun t48 =>
  runK Tryz.prog (Instr.sliceAt 65 t37 (some t24) (some t43) (some t48)) (fun t49 w9 =>
  Mod (M_1 16) w8.drew w9 ∧
  nilckK v0 fun t50 =>
  faK 3 t50 fun t51 =>
  st1K t51 t49 (fun w10 =>
  Mod (M_1 19) w9 w10 ∧
  K (.tuple #[]) w10) w9) w8.drew)) w7) w6) w5)
  (K (.tuple #[]) w5))) w3) w2) w1.drew)) w
theorem S51_eq (v0 v1 : Value) (K : Cont) (w : World) : S51 v0 v1 K w = D Tryz.prog okf 52 (bodyOf Tryz.f51) (.node [] [] .nil (.node [] [] (.dc [6, 7, 10] [[], [], [1], [1, 2], [1, 2, 3], [], [5], [1, 2, 3, 4, 5, 6], [0, 1, 2, 3, 4, 5, 6, 7], [0, 1, 2, 3, 4, 5, 6, 7, 8], [0, 1, 2, 3, 4, 5, 6, 7, 8, 9]] [[6, 7]]) (.node [] [] .draw (.node [] [] .nil (.node [] [] (.node [] [] .nil (.dc [16, 19] [[], [], [1], [1, 2], [1, 2, 3], [], [], [6], [6, 7], [6, 7, 8], [6, 7, 8, 9], [], [11], [11, 12], [11, 12, 13], [11, 12, 13, 14], [1, 2, 3, 4, 5, 6, 7, 8, 9, 10, 11, 12, 13, 14, 15], [0, 1, 2, 3, 4, 5, 6, 7, 8, 9, 10, 11, 12, 13, 14, 15, 16], [0, 1, 2, 3, 4, 5, 6, 7, 8, 9, 10, 11, 12, 13, 14, 15, 16, 17], [0, 1, 2, 3, 4, 5, 6, 7, 8, 9, 10, 11, 12, 13, 14, 15, 16, 17, 18]] [[16]])) .nil))))) (retK Tryz.prog [] K) (nth [v0, v1]) w := by kernel_rfl
theorem S51_ok {v0 v1 : Value} {K : Cont} {w : World} (h : S51 v0 v1 K w) : callK Tryz.prog 51 [v0, v1] K w :=
  callK_of (P := Tryz.prog) (ok := okf) (n := 52) (fn := Tryz.f51) (c := bodyOf Tryz.f51) (rs := []) (an := (.node [] [] .nil (.node [] [] (.dc [6, 7, 10] [[], [], [1], [1, 2], [1, 2, 3], [], [5], [1, 2, 3, 4, 5, 6], [0, 1, 2, 3, 4, 5, 6, 7], [0, 1, 2, 3, 4, 5, 6, 7, 8], [0, 1, 2, 3, 4, 5, 6, 7, 8, 9]] [[6, 7]]) (.node [] [] .draw (.node [] [] .nil (.node [] [] (.node [] [] .nil (.dc [16, 19] [[], [], [1], [1, 2], [1, 2, 3], [], [], [6], [6, 7], [6, 7, 8], [6, 7, 8, 9], [], [11], [11, 12], [11, 12, 13], [11, 12, 13, 14], [1, 2, 3, 4, 5, 6, 7, 8, 9, 10, 11, 12, 13, 14, 15], [0, 1, 2, 3, 4, 5, 6, 7, 8, 9, 10, 11, 12, 13, 14, 15, 16], [0, 1, 2, 3, 4, 5, 6, 7, 8, 9, 10, 11, 12, 13, 14, 15, 16, 17], [0, 1, 2, 3, 4, 5, 6, 7, 8, 9, 10, 11, 12, 13, 14, 15, 16, 17, 18]] [[16]])) .nil)))))) good mixed Tryz.func51 (by kernel_rfl) (by kernel_rfl) (by kernel_rfl) (by kernel_rfl) (Eq.mp (S51_eq v0 v1 K w) h)

/-- (*rubric/history.History).Push -/
def S18 (v0 v1 v2 : Value) (K : Cont) (w : World) : Prop :=
  callK Tryz.prog 48 [v0] (fun t11 w1 =>
  notK t11 fun t12 =>
  condK t12
  (K (.int .i64 1) w1)
  (callK Tryz.prog 49 [v1] (fun t14 w2 =>
  callK Tryz.prog 49 [v2] (fun t16 w3 =>
  buildK [(0, 1), (1, 1)] [(.slice none 0 0), (.slice none 0 0)] [(0, t14), (1, t16)] fun t17 =>
  newK 95 [(.slice none 0 0), (.slice none 0 0)] (fun t7 w4 =>
  stnK 2 t7 t17 (fun w5 =>
  JoinK (fun _vs w6 => ∀ _h : Env,
  nilckK v0 fun t40 =>
  faK 4 t40 fun t41 =>
  st1K t41 (.slice none 0 0) (fun w7 =>
  K (.int .i64 0) w7) w6) (fun J =>
  nilckK v0 fun t19 =>
  faK 5 t19 fun t20 =>
  ld1K t20 (fun t21 w8 =>
  condK t21
  (ldnK 2 t7 (fun t24 w9 =>
  callK Tryz.prog 50 [v0, t24] (fun t25 w10 =>
  extK 0 t25 fun t26 =>
  extK 1 t25 fun t27 =>
  newK 95 [(.slice none 0 0), (.slice none 0 0)] (fun t8 w11 =>
  stnK 2 t8 t26 (fun w12 =>
  neK .i64 t27 (.int .i64 0) fun t29 =>
  condK t29
  (K t27 w12)
  (ldnK 2 t8 (fun t32 w13 =>
  rowK 95 2 1 [(.slice none 0 0), (.slice none 0 0)] [(0, t32)] (fun t33 w14 =>
  nilckK v0 fun t34 =>
  faK 6 t34 fun t35 =>
  st1K t35 t33 (fun w15 =>
  J [] w15) w14) w13) w12)) w11) w10) w9) w8)
  (ldnK 2 t7 (fun t37 w16 =>
  callK Tryz.prog 51 [v0, t37] (fun _t38 w17 =>
  J [] w17) w16) w8)) w5)) w4) w3) w2) w1)) w
theorem S18_eq (v0 v1 v2 : Value) (K : Cont) (w : World) : S18 v0 v1 v2 K w = D Tryz.prog okf 42 (bodyOf Tryz.f18) (.node [] [] .nil (.node [] [] (.node [] [] .nil (.node [] [] (.node [] [] .nil .nil) .nil)) (.node [] [] .nil (.cut [] [(6, 6), (8, 9), (18, 38)] (.node [] [] .nil (.node [] [] (.node [] [] .nil (.node [] [] (.node [] [] .nil (.node [] [] (.node [] [] .nil .nil) .nil)) .nil)) .nil)) (.node [] [] .nil (.node [] [] .nil .nil)))))) (retK Tryz.prog [.tmp 6] K) (nth [v0, v1, v2]) w := by kernel_rfl
theorem S18_ok {v0 v1 v2 : Value} {K : Cont} {w : World} (h : S18 v0 v1 v2 K w) : callK Tryz.prog 18 [v0, v1, v2] K w :=
  callK_of (P := Tryz.prog) (ok := okf) (n := 42) (fn := Tryz.f18) (c := bodyOf Tryz.f18) (rs := [.tmp 6]) (an := (.node [] [] .nil (.node [] [] (.node [] [] .nil (.node [] [] (.node [] [] .nil .nil) .nil)) (.node [] [] .nil (.cut [] [(6, 6), (8, 9), (18, 38)] (.node [] [] .nil (.node [] [] (.node [] [] .nil (.node [] [] (.node [] [] .nil (.node [] [] (.node [] [] .nil .nil) .nil)) .nil)) .nil)) (.node [] [] .nil (.node [] [] .nil .nil))))))) good mixed Tryz.func18 (by kernel_rfl) (by kernel_rfl) (by kernel_rfl) (by kernel_rfl) (Eq.mp (S18_eq v0 v1 v2 K w) h)

/-- (*rubric/history.History).Begin -/
def S27 (v0 : Value) (K : Cont) (w : World) : Prop :=
  callK Tryz.prog 48 [v0] (fun t5 w1 =>
  notK t5 fun t6 =>
  condK t6
  (K (.int .i64 1) w1)
  (nilckK v0 fun t9 =>
  faK 5 t9 fun t10 =>
  ld1K t10 (fun t11 w2 =>
  condK t11
  (K (.int .i64 9) w2)
  (nilckK v0 fun t14 =>
  faK 5 t14 fun t15 =>
  st1K t15 (.bool true) (fun w3 =>
  nilckK v0 fun t16 =>
  faK 6 t16 fun t17 =>
  st1K t17 (.slice none 0 0) (fun w4 =>
  K (.int .i64 0) w4) w3) w2)) w1)) w
theorem S27_eq (v0 : Value) (K : Cont) (w : World) : S27 v0 K w = D Tryz.prog okf 18 (bodyOf Tryz.f27) (.node [] [] .nil (.node [] [] (.node [] [] .nil (.node [] [] (.node [] [] .nil .nil) (.node [] [] .nil (.node [] [] (.node [] [] .nil .nil) .nil)))) (.node [] [] .nil (.node [] [] .nil .nil)))) (retK Tryz.prog [.tmp 2] K) (nth [v0]) w := by kernel_rfl
theorem S27_ok {v0 : Value} {K : Cont} {w : World} (h : S27 v0 K w) : callK Tryz.prog 27 [v0] K w :=
  callK_of (P := Tryz.prog) (ok := okf) (n := 18) (fn := Tryz.f27) (c := bodyOf Tryz.f27) (rs := [.tmp 2]) (an := (.node [] [] .nil (.node [] [] (.node [] [] .nil (.node [] [] (.node [] [] .nil .nil) (.node [] [] .nil (.node [] [] (.node [] [] .nil .nil) .nil)))) (.node [] [] .nil (.node [] [] .nil .nil))))) good mixed Tryz.func27 (by kernel_rfl) (by kernel_rfl) (by kernel_rfl) (by kernel_rfl) (Eq.mp (S27_eq v0 K w) h)

/-- (*rubric/history.History).move -/
def S52 (v0 v1 v2 : Value) (K : Cont) (w : World) : Prop :=
  newK 95 [(.slice none 0 0), (.slice none 0 0)] (fun t6 w1 =>
  nilckK v1 fun t11 =>
  ld1K t11 (fun t12 w2 =>
  lenK t12 fun t13 =>
  subK .i64 t13 (.int .i64 1) fun t14 =>
  nilckK v0 fun t17 =>
  faK 5 t17 fun t18 =>
  ld1K t18 (fun t19 w3 =>
  condK t19
  (buildK [(0, 1), (1, 1)] [(.slice none 0 0), (.slice none 0 0)] [] fun t20 =>
  stnK 2 t6 t20 (fun w4 =>
  ldnK 2 t6 (fun r0 w5 =>
  K (.tuple #[r0, (.int .i64 9)]) w5) w4) w3)
  (ltK .i64 t14 (.int .i64 0) fun t23 =>
  condK t23
  (buildK [(0, 1), (1, 1)] [(.slice none 0 0), (.slice none 0 0)] [] fun t24 =>
  stnK 2 t6 t24 (fun w6 =>
  ldnK 2 t6 (fun r0_1 w7 =>
  K (.tuple #[r0_1, (.int .i64 10)]) w7) w6) w3)
  (nilckK v1 fun t26 =>
  ld1K t26 (fun t27 w8 =>
  ixK 2 t27 t14 fun t29 =>
  ldnK 2 t29 (fun t30 w9 =>
  newK 95 [(.slice none 0 0), (.slice none 0 0)] (fun t9 w10 =>
  stnK 2 t9 t30 (fun w11 =>
  nilckK v1 fun t33 =>
  ld1K t33 (fun t34 w12 =>
  runK Tryz.prog (Instr.sliceAt 65 t34 none (some t14) none) (fun t36 w13 =>
  callK Tryz.prog 88 [t36] (fun t37 w14 =>
  nilckK v1 fun t38 =>
  st1K t38 t37 (fun w15 =>
  DrawC [5, 6, 8] [[], [], [1], [1, 2], [], [4], [1, 2, 3, 4, 5], [0, 1, 2, 3, 4, 5, 6], [0, 1, 2, 3, 4, 5, 6, 7]] w15.drew (fun M St =>
  nilckK v2 fun t41 =>
  sld1 (St 3) t41 fun t42 =>
  sldn (St 4) 2 t9 fun t43 =>
  rowK 95 2 1 [(.slice none 0 0), (.slice none 0 0)] [(0, t43)] (fun t44 w16 =>
  Mod (M 5) w15.drew w16 ∧
  runK Tryz.prog (Builtin.append_ #[65, 65] 65 [t42, t44].toArray) (fun t45 w17 =>
  Mod (M 6) w16 w17 ∧
  nilckK v2 fun t46 =>
  st1K t46 t45 (fun w18 =>
  Mod (M 8) w17 w18 ∧
  ldnK 2 t9 (fun t47 w19 =>
  stnK 2 t6 t47 (fun w20 =>
  ldnK 2 t6 (fun r0_2 w21 =>
  K (.tuple #[r0_2, (.int .i64 0)]) w21) w20) w19) w18) w17) w16) w15.drew)) w14) w13) w12) w11) w10) w9) w8) w3))) w2) w1) w
theorem S52_eq (v0 v1 v2 : Value) (K : Cont) (w : World) : S52 v0 v1 v2 K w = D Tryz.prog okf 48 (bodyOf Tryz.f52) (.node [] [] .nil (.node [] [] .nil (.node [] [] (.node [] [] .nil (.node [] [] (.node [] [] .nil .nil) (.node [] [] .nil (.node [] [] (.node [] [] .nil .nil) .nil)))) (.node [] [] .nil (.node [] [] .nil (.node [] [] (.dc [5, 6, 8] [[], [], [1], [1, 2], [], [4], [1, 2, 3, 4, 5], [0, 1, 2, 3, 4, 5, 6], [0, 1, 2, 3, 4, 5, 6, 7]] [[5, 6]]) (.node [] [] .nil .nil))))))) (retK Tryz.prog [.cell 6 95, .tmp 7] K) (nth [v0, v1, v2]) w := by kernel_rfl
theorem S52_ok {v0 v1 v2 : Value} {K : Cont} {w : World} (h : S52 v0 v1 v2 K w) : callK Tryz.prog 52 [v0, v1, v2] K w :=
  callK_of (P := Tryz.prog) (ok := okf) (n := 48) (fn := Tryz.f52) (c := bodyOf Tryz.f52) (rs := [.cell 6 95, .tmp 7]) (an := (.node [] [] .nil (.node [] [] .nil (.node [] [] (.node [] [] .nil (.node [] [] (.node [] [] .nil .nil) (.node [] [] .nil (.node [] [] (.node [] [] .nil .nil) .nil)))) (.node [] [] .nil (.node [] [] .nil (.node [] [] (.dc [5, 6, 8] [[], [], [1], [1, 2], [], [4], [1, 2, 3, 4, 5], [0, 1, 2, 3, 4, 5, 6], [0, 1, 2, 3, 4, 5, 6, 7]] [[5, 6]]) (.node [] [] .nil .nil)))))))) good mixed Tryz.func52 (by kernel_rfl) (by kernel_rfl) (by kernel_rfl) (by kernel_rfl) (Eq.mp (S52_eq v0 v1 v2 K w) h)

/-- (*rubric/history.History).Undo -/
def S19 (v0 : Value) (K : Cont) (w : World) : Prop :=
  callK Tryz.prog 48 [v0] (fun t7 w1 =>
  notK t7 fun t8 =>
  condK t8
  (K (.tuple #[(.slice none 0 0), (.int .i64 1)]) w1)
  (JoinK (fun vs w2 => ∀ _h : Env,
  faK 1 (nth vs 0) fun t20 =>
  ld1K t20 (fun t21 w3 =>
  callK Tryz.prog 49 [t21] (fun t22 w4 =>
  K (.tuple #[t22, (nth vs 1)]) w4) w3) w2) (fun J =>
  DrawC [7, 11, 12] [[], [], [1], [1, 2], [], [4], [4, 5], [0, 1, 2, 3, 4, 5, 6], [0, 1, 2, 3, 4, 5, 6, 7], [0, 1, 2, 3, 4, 5, 6, 7, 8], [0, 1, 2, 3, 4, 5, 6, 7, 8], [], [0, 1, 2, 3, 4, 5, 6, 7, 8, 9, 11], [0, 1, 2, 3, 4, 5, 6, 7, 8, 9, 10, 11, 12]] w1.drew (fun M _St =>
  nilckK v0 fun t12 =>
  faK 3 t12 fun t13 =>
  nilckK v0 fun t15 =>
  faK 4 t15 fun t16 =>
  (callK Tryz.prog 52 [v0, t13, t16] (fun t17 w5 =>
  Mod (M 7) w1.drew w5 ∧
  extK 0 t17 fun t18 =>
  extK 1 t17 fun t19 =>
  newK 95 [(.slice none 0 0), (.slice none 0 0)] (fun t4 w6 =>
  Mod (M 11) w5 w6 ∧
  stnK 2 t4 t18 (fun w7 =>
  Mod (M 12) w6 w7 ∧
  J [t4, t19] w7) w6) w5) w1.drew) ∧
  (newK 95 [(.slice none 0 0), (.slice none 0 0)] (fun t4_1 w8 =>
  Mod (M 11) w1.drew w8 ∧
  callK Tryz.prog 52 [v0, t13, t16] (fun t17_1 w9 =>
  Mod (M 7) w8 w9 ∧
  extK 0 t17_1 fun t18_1 =>
  extK 1 t17_1 fun t19_1 =>
  stnK 2 t4_1 t18_1 (fun w10 =>
  Mod (M 12) w9 w10 ∧
  J [t4_1, t19_1] w10) w9) w8) w1.drew))))) w
theorem S19_eq (v0 : Value) (K : Cont) (w : World) : S19 v0 K w = D Tryz.prog okf 24 (bodyOf Tryz.f19) (.node [] [] .nil (.node [] [] (.node [] [] .nil (.node [] [] (.node [] [] .nil .nil) .nil)) (.cut [4, 5] [(4, 5), (9, 19)] (.dt [7, 11, 12] [[], [], [1], [1, 2], [], [4], [4, 5], [0, 1, 2, 3, 4, 5, 6], [0, 1, 2, 3, 4, 5, 6, 7], [0, 1, 2, 3, 4, 5, 6, 7, 8], [0, 1, 2, 3, 4, 5, 6, 7, 8], [], [0, 1, 2, 3, 4, 5, 6, 7, 8, 9, 11], [0, 1, 2, 3, 4, 5, 6, 7, 8, 9, 10, 11, 12]] [[7]] (.op 0 (.op 1 (.op 2 (.op 3 (.op 4 (.op 5 (.op 6 (.br (.op 7 (.op 8 (.op 9 (.op 10 (.op 11 (.op 12 (.op 13 .nil))))))) (.op 11 (.op 7 (.op 8 (.op 9 (.op 10 (.op 12 (.op 13 .nil)))))))))))))))) (.node [] [] .nil .nil)))) (retK Tryz.prog [.tmp 2, .tmp 3] K) (nth [v0]) w := by kernel_rfl
theorem S19_ok {v0 : Value} {K : Cont} {w : World} (h : S19 v0 K w) : callK Tryz.prog 19 [v0] K w :=
  callK_of (P := Tryz.prog) (ok := okf) (n := 24) (fn := Tryz.f19) (c := bodyOf Tryz.f19) (rs := [.tmp 2, .tmp 3]) (an := (.node [] [] .nil (.node [] [] (.node [] [] .nil (.node [] [] (.node [] [] .nil .nil) .nil)) (.cut [4, 5] [(4, 5), (9, 19)] (.dt [7, 11, 12] [[], [], [1], [1, 2], [], [4], [4, 5], [0, 1, 2, 3, 4, 5, 6], [0, 1, 2, 3, 4, 5, 6, 7], [0, 1, 2, 3, 4, 5, 6, 7, 8], [0, 1, 2, 3, 4, 5, 6, 7, 8], [], [0, 1, 2, 3, 4, 5, 6, 7, 8, 9, 11], [0, 1, 2, 3, 4, 5, 6, 7, 8, 9, 10, 11, 12]] [[7]] (.op 0 (.op 1 (.op 2 (.op 3 (.op 4 (.op 5 (.op 6 (.br (.op 7 (.op 8 (.op 9 (.op 10 (.op 11 (.op 12 (.op 13 .nil))))))) (.op 11 (.op 7 (.op 8 (.op 9 (.op 10 (.op 12 (.op 13 .nil)))))))))))))))) (.node [] [] .nil .nil))))) good mixed Tryz.func19 (by kernel_rfl) (by kernel_rfl) (by kernel_rfl) (by kernel_rfl) (Eq.mp (S19_eq v0 K w) h)

/-- (*rubric/history.History).Redo -/
def S21 (v0 : Value) (K : Cont) (w : World) : Prop :=
  callK Tryz.prog 48 [v0] (fun t7 w1 =>
  notK t7 fun t8 =>
  condK t8
  (K (.tuple #[(.slice none 0 0), (.int .i64 1)]) w1)
  (JoinK (fun vs w2 => ∀ _h : Env,
  faK 0 (nth vs 0) fun t20 =>
  ld1K t20 (fun t21 w3 =>
  callK Tryz.prog 49 [t21] (fun t22 w4 =>
  K (.tuple #[t22, (nth vs 1)]) w4) w3) w2) (fun J =>
  DrawC [7, 11, 12] [[], [], [1], [1, 2], [], [4], [4, 5], [0, 1, 2, 3, 4, 5, 6], [0, 1, 2, 3, 4, 5, 6, 7], [0, 1, 2, 3, 4, 5, 6, 7, 8], [0, 1, 2, 3, 4, 5, 6, 7, 8], [], [0, 1, 2, 3, 4, 5, 6, 7, 8, 9, 11], [0, 1, 2, 3, 4, 5, 6, 7, 8, 9, 10, 11, 12]] w1.drew (fun M _St =>
  nilckK v0 fun t12 =>
  faK 4 t12 fun t13 =>
  nilckK v0 fun t15 =>
  faK 3 t15 fun t16 =>
  (callK Tryz.prog 52 [v0, t13, t16] (fun t17 w5 =>
  Mod (M 7) w1.drew w5 ∧
  extK 0 t17 fun t18 =>
  extK 1 t17 fun t19 =>
  newK 95 [(.slice none 0 0), (.slice none 0 0)] (fun t4 w6 =>
  Mod (M 11) w5 w6 ∧
  stnK 2 t4 t18 (fun w7 =>
  Mod (M 12) w6 w7 ∧
  J [t4, t19] w7) w6) w5) w1.drew) ∧
  (newK 95 [(.slice none 0 0), (.slice none 0 0)] (fun t4_1 w8 =>
  Mod (M 11) w1.drew w8 ∧
  callK Tryz.prog 52 [v0, t13, t16] (fun t17_1 w9 =>
  Mod (M 7) w8 w9 ∧
  extK 0 t17_1 fun t18_1 =>
  extK 1 t17_1 fun t19_1 =>
  stnK 2 t4_1 t18_1 (fun w10 =>
  Mod (M 12) w9 w10 ∧
  J [t4_1, t19_1] w10) w9) w8) w1.drew))))) w
theorem S21_eq (v0 : Value) (K : Cont) (w : World) : S21 v0 K w = D Tryz.prog okf 24 (bodyOf Tryz.f21) (.node [] [] .nil (.node [] [] (.node [] [] .nil (.node [] [] (.node [] [] .nil .nil) .nil)) (.cut [4, 5] [(4, 5), (9, 19)] (.dt [7, 11, 12] [[], [], [1], [1, 2], [], [4], [4, 5], [0, 1, 2, 3, 4, 5, 6], [0, 1, 2, 3, 4, 5, 6, 7], [0, 1, 2, 3, 4, 5, 6, 7, 8], [0, 1, 2, 3, 4, 5, 6, 7, 8], [], [0, 1, 2, 3, 4, 5, 6, 7, 8, 9, 11], [0, 1, 2, 3, 4, 5, 6, 7, 8, 9, 10, 11, 12]] [[7]] (.op 0 (.op 1 (.op 2 (.op 3 (.op 4 (.op 5 (.op 6 (.br (.op 7 (.op 8 (.op 9 (.op 10 (.op 11 (.op 12 (.op 13 .nil))))))) (.op 11 (.op 7 (.op 8 (.op 9 (.op 10 (.op 12 (.op 13 .nil)))))))))))))))) (.node [] [] .nil .nil)))) (retK Tryz.prog [.tmp 2, .tmp 3] K) (nth [v0]) w := by kernel_rfl
theorem S21_ok {v0 : Value} {K : Cont} {w : World} (h : S21 v0 K w) : callK Tryz.prog 21 [v0] K w :=
  callK_of (P := Tryz.prog) (ok := okf) (n := 24) (fn := Tryz.f21) (c := bodyOf Tryz.f21) (rs := [.tmp 2, .tmp 3]) (an := (.node [] [] .nil (.node [] [] (.node [] [] .nil (.node [] [] (.node [] [] .nil .nil) .nil)) (.cut [4, 5] [(4, 5), (9, 19)] (.dt [7, 11, 12] [[], [], [1], [1, 2], [], [4], [4, 5], [0, 1, 2, 3, 4, 5, 6], [0, 1, 2, 3, 4, 5, 6, 7], [0, 1, 2, 3, 4, 5, 6, 7, 8], [0, 1, 2, 3, 4, 5, 6, 7, 8], [], [0, 1, 2, 3, 4, 5, 6, 7, 8, 9, 11], [0, 1, 2, 3, 4, 5, 6, 7, 8, 9, 10, 11, 12]] [[7]] (.op 0 (.op 1 (.op 2 (.op 3 (.op 4 (.op 5 (.op 6 (.br (.op 7 (.op 8 (.op 9 (.op 10 (.op 11 (.op 12 (.op 13 .nil))))))) (.op 11 (.op 7 (.op 8 (.op 9 (.op 10 (.op 12 (.op 13 .nil)))))))))))))))) (.node [] [] .nil .nil))))) good mixed Tryz.func21 (by kernel_rfl) (by kernel_rfl) (by kernel_rfl) (by kernel_rfl) (Eq.mp (S21_eq v0 K w) h)

/-- (*rubric/history.History).Open -/
def S33 (v0 : Value) (K : Cont) (w : World) : Prop :=
  callK Tryz.prog 48 [v0] (fun t4 w1 =>
  condK t4
  (nilckK v0 fun t7 =>
  faK 5 t7 fun t8 =>
  ld1K t8 (fun t9 w2 =>
  K t9 w2) w1)
  (K (.bool false) w1)) w
theorem S33_eq (v0 : Value) (K : Cont) (w : World) : S33 v0 K w = D Tryz.prog okf 11 (bodyOf Tryz.f33) (.node [] [] .nil (.node [] [] .nil .nil)) (retK Tryz.prog [.tmp 2] K) (nth [v0]) w := by kernel_rfl
theorem S33_ok {v0 : Value} {K : Cont} {w : World} (h : S33 v0 K w) : callK Tryz.prog 33 [v0] K w :=
  callK_of (P := Tryz.prog) (ok := okf) (n := 11) (fn := Tryz.f33) (c := bodyOf Tryz.f33) (rs := [.tmp 2]) (an := (.node [] [] .nil (.node [] [] .nil .nil))) good mixed Tryz.func33 (by kernel_rfl) (by kernel_rfl) (by kernel_rfl) (by kernel_rfl) (Eq.mp (S33_eq v0 K w) h)

/-- (*rubric/history.History).Depths -/
def S20 (v0 : Value) (K : Cont) (w : World) : Prop :=
  callK Tryz.prog 48 [v0] (fun t5 w1 =>
  notK t5 fun t6 =>
  condK t6
  (K (.tuple #[(.int .i64 0), (.int .i64 0)]) w1)
  (DrawK w1 (fun C =>
  nilckK v0 fun t8 =>
  faK 3 t8 fun t9 =>
  qld1K C t9 fun t10 =>
  lenK t10 fun t11 =>
  nilckK v0 fun t13 =>
  faK 4 t13 fun t14 =>
  qld1K C t14 fun t15 =>
  lenK t15 fun t16 =>
  ∀ w2 : World, C w2 →
  K (.tuple #[t11, t16]) w2))) w
theorem S20_eq (v0 : Value) (K : Cont) (w : World) : S20 v0 K w = D Tryz.prog okf 17 (bodyOf Tryz.f20) (.node [] [] .nil (.node [] [] (.node [] [] .nil (.node [] [] (.node [] [] .nil .nil) .nil)) (.node [] [] .draw .nil))) (retK Tryz.prog [.tmp 2, .tmp 3] K) (nth [v0]) w := by kernel_rfl
theorem S20_ok {v0 : Value} {K : Cont} {w : World} (h : S20 v0 K w) : callK Tryz.prog 20 [v0] K w :=
  callK_of (P := Tryz.prog) (ok := okf) (n := 17) (fn := Tryz.f20) (c := bodyOf Tryz.f20) (rs := [.tmp 2, .tmp 3]) (an := (.node [] [] .nil (.node [] [] (.node [] [] .nil (.node [] [] (.node [] [] .nil .nil) .nil)) (.node [] [] .draw .nil)))) good mixed Tryz.func20 (by kernel_rfl) (by kernel_rfl) (by kernel_rfl) (by kernel_rfl) (Eq.mp (S20_eq v0 K w) h)

/-- slices.Clone[[]rubric/history.group,rubric/history.group] -/
def S88 (v0 : Value) (K : Cont) (w : World) : Prop :=
  snilK v0 fun b4 =>
  condK (.bool b4)
  (K (.slice none 0 0) w)
  (rowK 95 2 0 [] [] (fun t5 w1 =>
  runK Tryz.prog (Builtin.append_ #[65, 65] 65 [t5, v0].toArray) (fun t7 w2 =>
  K t7 w2) w1) w)
theorem S88_eq (v0 : Value) (K : Cont) (w : World) : S88 v0 K w = D Tryz.prog okf 8 (bodyOf Tryz.f88) (.node [] [] .nil (.node [] [] (.node [] [] .nil (.node [] [] (.node [] [] .nil .nil) .nil)) (.node [] [] .nil .nil))) (retK Tryz.prog [.tmp 2] K) (nth [v0]) w := by kernel_rfl
theorem S88_ok {v0 : Value} {K : Cont} {w : World} (h : S88 v0 K w) : callK Tryz.prog 88 [v0] K w :=
  callK_of (P := Tryz.prog) (ok := okf) (n := 8) (fn := Tryz.f88) (c := bodyOf Tryz.f88) (rs := [.tmp 2]) (an := (.node [] [] .nil (.node [] [] (.node [] [] .nil (.node [] [] (.node [] [] .nil .nil) .nil)) (.node [] [] .nil .nil)))) good mixed Tryz.func88 (by kernel_rfl) (by kernel_rfl) (by kernel_rfl) (by kernel_rfl) (Eq.mp (S88_eq v0 K w) h)

/-- rubric/rubriclaw27.in -/
def S17 (v0 : Value) (K : Cont) (w : World) : Prop :=
  rowK 21 1 1 [(.int .i32 0)] [(0, v0)] (fun t5 w1 =>
  buildK [(0, 1), (1, 1), (2, 1), (3, 1), (4, 1)] [(.int .u8 0), (.int .i64 0), (.slice none 0 0), (.slice none 0 0), (.slice none 0 0)] [(0, (.int .u8 2)), (2, t5)] fun t6 =>
  rowK 39 5 1 [(.int .u8 0), (.int .i64 0), (.slice none 0 0), (.slice none 0 0), (.slice none 0 0)] [(0, t6)] (fun t7 w2 =>
  buildK [(0, 1), (1, 1), (2, 1), (3, 1), (4, 1)] [(.int .u8 0), (.int .i64 0), (.slice none 0 0), (.slice none 0 0), (.slice none 0 0)] [(0, (.int .u8 3)), (1, (.int .i64 1))] fun t8 =>
  rowK 39 5 1 [(.int .u8 0), (.int .i64 0), (.slice none 0 0), (.slice none 0 0), (.slice none 0 0)] [(0, t8)] (fun t9 w3 =>
  K (.tuple #[t7, t9]) w3) w2) w1) w
theorem S17_eq (v0 : Value) (K : Cont) (w : World) : S17 v0 K w = D Tryz.prog okf 10 (bodyOf Tryz.f17) (.node [] [] .nil (.node [] [] .nil .nil)) (retK Tryz.prog [.tmp 2, .tmp 3] K) (nth [v0]) w := by kernel_rfl
theorem S17_ok {v0 : Value} {K : Cont} {w : World} (h : S17 v0 K w) : callK Tryz.prog 17 [v0] K w :=
  callK_of (P := Tryz.prog) (ok := okf) (n := 10) (fn := Tryz.f17) (c := bodyOf Tryz.f17) (rs := [.tmp 2, .tmp 3]) (an := (.node [] [] .nil (.node [] [] .nil .nil))) good mixed Tryz.func17 (by kernel_rfl) (by kernel_rfl) (by kernel_rfl) (by kernel_rfl) (Eq.mp (S17_eq v0 K w) h)

/-- rubric/rubriclaw27.known -/
def S16 (K : Cont) (w : World) : Prop :=
  callK Tryz.prog 14 [(.slice none 0 0)] (fun t22 w1 =>
  extK 0 t22 fun t23 =>
  extK 1 t22 fun t24 =>
  callK Tryz.prog 15 [t23, (.int .i64 2)] (fun t27 w2 =>
  extK 0 t27 fun t28 =>
  extK 1 t27 fun t29 =>
  JoinK (fun _vs w3 => ∀ _h : Env,
  runK Tryz.prog (Instr.build 93 [(0, (.int .i32 97)), (1, (.int .i32 98)), (2, (.int .i32 99))].toArray) (fun t40 w4 =>
  LoopK [(.int .i64 0)] (fun vs_1 again w5 => ∀ _h_1 : Env,
  ltK .i64 (nth vs_1 0) (.int .i64 3) fun t42 =>
  condK t42
  (runK Tryz.prog (Instr.index 93 t40 (nth vs_1 0)) (fun t43 w6 =>
  callK Tryz.prog 17 [t43] (fun t46 w7 =>
  extK 0 t46 fun t47 =>
  extK 1 t46 fun t48 =>
  callK Tryz.prog 18 [t28, t47, t48] (fun t52 w8 =>
  neK .i64 t52 (.int .i64 0) fun t53 =>
  condK t53
  (K (.bool false) w8)
  (addK .i64 (nth vs_1 0) (.int .i64 1) fun t54 =>
  again [t54] w8)) w7) w6) w5)
  (callK Tryz.prog 19 [t28] (fun t57 w9 =>
  extK 0 t57 fun t58 =>
  extK 1 t57 fun t59 =>
  callK Tryz.prog 19 [t28] (fun t62 w10 =>
  extK 0 t62 fun _t63 =>
  extK 1 t62 fun t64 =>
  callK Tryz.prog 19 [t28] (fun t67 w11 =>
  extK 0 t67 fun _t68 =>
  extK 1 t67 fun t69 =>
  callK Tryz.prog 21 [t28] (fun t72 w12 =>
  extK 0 t72 fun t73 =>
  extK 1 t72 fun t74 =>
  callK Tryz.prog 17 [(.int .i32 98)] (fun t76 w13 =>
  extK 0 t76 fun t77 =>
  extK 1 t76 fun t78 =>
  callK Tryz.prog 20 [t28] (fun t81 w14 =>
  extK 0 t81 fun t82 =>
  extK 1 t81 fun t83 =>
  eqK .i64 t59 (.int .i64 0) fun t85 =>
  condK t85
  (eqK .i64 t64 (.int .i64 0) fun t88 =>
  condK t88
  (eqK .i64 t69 (.int .i64 10) fun t92 =>
  condK t92
  (eqK .i64 t74 (.int .i64 0) fun t96 =>
  condK t96
  (callK Tryz.prog 22 [t58, t78] (fun t101 w15 =>
  condK t101
  (callK Tryz.prog 22 [t73, t77] (fun t106 w16 =>
  condK t106
  (eqK .i64 t82 (.int .i64 1) fun t110 =>
  condK t110
  (eqK .i64 t83 (.int .i64 1) fun t114 =>
  condK t114
  (callK Tryz.prog 18 [t28, t77, t78] (fun t120 w17 =>
  eqK .i64 t120 (.int .i64 0) fun t121 =>
  condK t121
  (callK Tryz.prog 27 [t28] (fun t125 w18 =>
  eqK .i64 t125 (.int .i64 0) fun t126 =>
  condK t126
  (callK Tryz.prog 27 [t28] (fun t130 w19 =>
  eqK .i64 t130 (.int .i64 9) fun t131 =>
  condK t131
  (callK Tryz.prog 33 [t28] (fun t135 w20 =>
  K t135 w20) w19)
  (K (.bool false) w19)) w18)
  (K (.bool false) w18)) w17)
  (K (.bool false) w17)) w16)
  (K (.bool false) w16))
  (K (.bool false) w16))
  (K (.bool false) w16)) w15)
  (K (.bool false) w15)) w14)
  (K (.bool false) w14))
  (K (.bool false) w14))
  (K (.bool false) w14))
  (K (.bool false) w14)) w13) w12) w11) w10) w9) w5)) w4) w3) (fun J =>
  neK .i64 t24 (.int .i64 0) fun t31 =>
  condK t31
  (K (.bool false) w2)
  (neK .i64 t29 (.int .i64 0) fun t34 =>
  condK t34
  (K (.bool false) w2)
  (pnilK t28 fun b38 =>
  condK (.bool b38)
  (K (.bool false) w2)
  (J [] w2))))) w1) w
theorem S16_eq (K : Cont) (w : World) : S16  K w = D Tryz.prog okf 137 (bodyOf Tryz.f16) (.node [] [] .nil (.node [] [] .nil (.node [] [] .nil (.cut [] [(0, 0), (30, 39)] (.node [] [] .nil (.node [] [] (.node [] [] .nil .nil) .nil)) (.node [] [] (.node [] [] .nil (.node [41] [(0, 0), (6, 8), (41, 54)] (.node [] [] .nil (.node [] [] (.node [] [] .nil .nil) (.node [] [] (.node [] [] .nil (.node [] [] .nil (.node [] [] .nil (.node [] [] (.node [] [] .nil .nil) .nil)))) .nil))) .nil)) (.node [] [] .nil (.node [] [] .nil (.node [] [] .nil (.node [] [] .nil (.node [] [] .nil (.node [] [] .nil (.node [] [] .nil .nil)))))))))))) (retK Tryz.prog [.tmp 0] K) (nth []) w := by kernel_rfl
theorem S16_ok {K : Cont} {w : World} (h : S16  K w) : callK Tryz.prog 16 [] K w :=
  callK_of (P := Tryz.prog) (ok := okf) (n := 137) (fn := Tryz.f16) (c := bodyOf Tryz.f16) (rs := [.tmp 0]) (an := (.node [] [] .nil (.node [] [] .nil (.node [] [] .nil (.cut [] [(0, 0), (30, 39)] (.node [] [] .nil (.node [] [] (.node [] [] .nil .nil) .nil)) (.node [] [] (.node [] [] .nil (.node [41] [(0, 0), (6, 8), (41, 54)] (.node [] [] .nil (.node [] [] (.node [] [] .nil .nil) (.node [] [] (.node [] [] .nil (.node [] [] .nil (.node [] [] .nil (.node [] [] (.node [] [] .nil .nil) .nil)))) .nil))) .nil)) (.node [] [] .nil (.node [] [] .nil (.node [] [] .nil (.node [] [] .nil (.node [] [] .nil (.node [] [] .nil (.node [] [] .nil .nil))))))))))))) good mixed Tryz.func16 (by kernel_rfl) (by kernel_rfl) (by kernel_rfl) (by kernel_rfl) (Eq.mp (S16_eq  K w) h)

/-- rubric/rubriclaw27.HistoryBack -/
def S3 (v0 v1 : Value) (K : Cont) (w : World) : Prop :=
  callK Tryz.prog 14 [(.slice none 0 0)] (fun t31 w1 =>
  extK 0 t31 fun t32 =>
  extK 1 t31 fun t33 =>
  callK Tryz.prog 15 [t32, v0] (fun t37 w2 =>
  extK 0 t37 fun t38 =>
  extK 1 t37 fun t39 =>
  JoinK (fun _vs w3 => ∀ _h : Env,
  lenK v1 fun t57 =>
  LoopK [(.int .i64 0)] (fun vs_1 again w4 => ∀ _h_1 : Env,
  ltK .i64 (nth vs_1 0) t57 fun t59 =>
  condK t59
  (ixK 1 v1 (nth vs_1 0) fun t60 =>
  ld1K t60 (fun t61 w5 =>
  runK Tryz.prog (convert 3 34 t61) (fun t64 w6 =>
  runK Tryz.prog (binS .rem 34 (.tmp 64) (.const (.int .u64 26)) t64 (.int .u64 26)) (fun t65 w7 =>
  addK .u64 (.int .u64 97) t65 fun t66 =>
  runK Tryz.prog (convert 34 21 t66) (fun t67 w8 =>
  callK Tryz.prog 17 [t67] (fun t68 w9 =>
  extK 0 t68 fun t69 =>
  extK 1 t68 fun t70 =>
  runK Tryz.prog (convert 3 34 t61) (fun t73 w10 =>
  runK Tryz.prog (binS .rem 34 (.tmp 73) (.const (.int .u64 9)) t73 (.int .u64 9)) (fun t74 w11 =>
  runK Tryz.prog (convert 34 3 t74) (fun t75 w12 =>
  addK .i64 (.int .i64 1) t75 fun t76 =>
  ixK 5 t70 (.int .i64 0) fun t77 =>
  faK 1 t77 fun t78 =>
  st1K t78 t76 (fun w13 =>
  callK Tryz.prog 18 [t38, t69, t70] (fun t82 w14 =>
  neK .i64 t82 (.int .i64 0) fun t83 =>
  condK t83
  (K (.bool false) w14)
  (addK .i64 (nth vs_1 0) (.int .i64 1) fun t84 =>
  again [t84] w14)) w13) w12) w11) w10) w9) w8) w7) w6) w5) w4)
  (lenK v1 fun t87 =>
  minK .i64 v0 t87 fun t88 =>
  LoopK [(.int .i64 0)] (fun vs_2 again_1 w15 => ∀ _h_2 : Env,
  ltK .i64 (nth vs_2 0) (.int .i64 2) fun t90 =>
  condK t90
  (LoopK [(.int .i64 0)] (fun vs_3 again_2 w16 => ∀ _h_3 : Env,
  ltK .i64 (nth vs_3 0) t88 fun t94 =>
  condK t94
  (lenK v1 fun t98 =>
  subK .i64 t98 (.int .i64 1) fun t99 =>
  subK .i64 t99 (nth vs_3 0) fun t101 =>
  ixK 1 v1 t101 fun t102 =>
  ld1K t102 (fun t103 w17 =>
  callK Tryz.prog 19 [t38] (fun t106 w18 =>
  extK 0 t106 fun t107 =>
  extK 1 t106 fun t108 =>
  JoinK (fun _vs_4 w19 => ∀ _h_4 : Env,
  callK Tryz.prog 20 [t38] (fun t130 w20 =>
  extK 0 t130 fun t131 =>
  extK 1 t130 fun t132 =>
  subK .i64 t88 (.int .i64 1) fun t135 =>
  subK .i64 t135 (nth vs_3 0) fun t137 =>
  neK .i64 t131 t137 fun t138 =>
  condK t138
  (K (.bool false) w20)
  (addK .i64 (nth vs_3 0) (.int .i64 1) fun t142 =>
  neK .i64 t132 t142 fun t143 =>
  condK t143
  (K (.bool false) w20)
  (addK .i64 (nth vs_3 0) (.int .i64 1) fun t145_1 =>
  again_2 [t145_1] w20))) w19) (fun J_1 =>
  neK .i64 t108 (.int .i64 0) fun t110 =>
  condK t110
  (K (.bool false) w18)
  (lenK t107 fun t113 =>
  neK .i64 t113 (.int .i64 1) fun t114 =>
  condK t114
  (K (.bool false) w18)
  (ixK 5 t107 (.int .i64 0) fun t118 =>
  faK 1 t118 fun t119 =>
  ld1K t119 (fun t120 w21 =>
  runK Tryz.prog (convert 3 34 t103) (fun t122 w22 =>
  runK Tryz.prog (binS .rem 34 (.tmp 122) (.const (.int .u64 9)) t122 (.int .u64 9)) (fun t123 w23 =>
  runK Tryz.prog (convert 34 3 t123) (fun t124 w24 =>
  addK .i64 (.int .i64 1) t124 fun t125 =>
  neK .i64 t120 t125 fun t126 =>
  condK t126
  (K (.bool false) w24)
  (J_1 [] w24)) w23) w22) w21) w18)))) w17) w16)
  (callK Tryz.prog 19 [t38] (fun t148 w25 =>
  extK 0 t148 fun _t149 =>
  extK 1 t148 fun t150 =>
  neK .i64 t150 (.int .i64 10) fun t152 =>
  condK t152
  (K (.bool false) w25)
  (LoopK [(.int .i64 0)] (fun vs_5 again_3 w26 => ∀ _h_5 : Env,
  ltK .i64 (nth vs_5 0) t88 fun t155 =>
  condK t155
  (lenK v1 fun t160 =>
  subK .i64 t160 t88 fun t162 =>
  addK .i64 t162 (nth vs_5 0) fun t164 =>
  ixK 1 v1 t164 fun t165 =>
  ld1K t165 (fun t166 w27 =>
  runK Tryz.prog (convert 3 34 t166) (fun t167 w28 =>
  runK Tryz.prog (binS .rem 34 (.tmp 167) (.const (.int .u64 26)) t167 (.int .u64 26)) (fun t168 w29 =>
  addK .u64 (.int .u64 97) t168 fun t169 =>
  runK Tryz.prog (convert 34 21 t169) (fun t170 w30 =>
  callK Tryz.prog 17 [t170] (fun t171 w31 =>
  extK 0 t171 fun t172 =>
  extK 1 t171 fun _t173 =>
  callK Tryz.prog 21 [t38] (fun t176 w32 =>
  extK 0 t176 fun t177 =>
  extK 1 t176 fun t178 =>
  neK .i64 t178 (.int .i64 0) fun t180 =>
  condK t180
  (K (.bool false) w32)
  (callK Tryz.prog 22 [t177, t172] (fun t184 w33 =>
  notK t184 fun t185 =>
  condK t185
  (K (.bool false) w33)
  (addK .i64 (nth vs_5 0) (.int .i64 1) fun t187_1 =>
  again_3 [t187_1] w33)) w32)) w31) w30) w29) w28) w27) w26)
  (callK Tryz.prog 21 [t38] (fun t190 w34 =>
  extK 0 t190 fun _t191 =>
  extK 1 t190 fun t192 =>
  neK .i64 t192 (.int .i64 10) fun t194 =>
  condK t194
  (K (.bool false) w34)
  (gtK .i64 (nth vs_2 0) (.int .i64 1) fun t197 =>
  condK t197
  (K (.bool false) w34)
  (addK .i64 (nth vs_2 0) (.int .i64 1) fun t199_1 =>
  again_1 [t199_1] w34))) w26)) w25)) w16)) w15)
  (callK Tryz.prog 16 [] (fun t200 w35 =>
  K t200 w35) w15)) w4)) w3) (fun J =>
  neK .i64 t33 (.int .i64 0) fun t41 =>
  condK t41
  (callK Tryz.prog 16 [] (fun t55 w36 =>
  K t55 w36) w2)
  (neK .i64 t39 (.int .i64 0) fun t44 =>
  condK t44
  (callK Tryz.prog 16 [] (fun t55_1 w37 =>
  K t55_1 w37) w2)
  (pnilK t38 fun b48 =>
  condK (.bool b48)
  (callK Tryz.prog 16 [] (fun t55_2 w38 =>
  K t55_2 w38) w2)
  (lenK v1 fun t52 =>
  gtK .i64 t52 (.int .i64 40) fun t53 =>
  condK t53
  (callK Tryz.prog 16 [] (fun t55_3 w39 =>
  K t55_3 w39) w2)
  (J [] w2)))))) w1) w
theorem S3_eq (v0 v1 : Value) (K : Cont) (w : World) : S3 v0 v1 K w = D Tryz.prog okf 201 (bodyOf Tryz.f3) (.node [] [] .nil (.node [] [] .nil (.node [] [] .nil (.cut [] [(4, 4), (40, 55)] (.node [] [] .nil (.node [] [] (.node [] [] .nil .nil) .nil)) (.node [] [] (.node [] [] .nil (.node [58] [(4, 4), (10, 12), (58, 84)] (.node [] [] .nil (.node [] [] (.node [] [] .nil .nil) (.node [] [] (.node [] [] .nil (.node [] [] .nil (.node [] [] .nil (.node [] [] .nil (.node [] [] (.node [] [] .nil .nil) .nil))))) .nil))) .nil)) (.node [] [] .nil (.node [] [] (.node [] [] .nil (.node [89] [(4, 4), (14, 29), (89, 199)] (.node [] [] .nil (.node [] [] (.node [] [] .nil .nil) (.node [] [] (.node [] [] .nil (.node [] [] (.node [] [] .nil (.node [93] [(4, 4), (15, 20), (93, 145)] (.node [] [] .nil (.node [] [] (.node [] [] .nil .nil) (.node [] [] (.node [] [] .nil (.node [] [] .nil (.node [] [] .nil (.cut [] [(4, 4), (109, 127)] (.node [] [] .nil (.node [] [] (.node [] [] .nil .nil) .nil)) (.node [] [] .nil (.node [] [] .nil (.node [] [] (.node [] [] .nil .nil) .nil))))))) .nil))) .nil)) (.node [] [] (.node [] [] .nil (.node [] [] .nil (.node [] [] (.node [] [] .nil .nil) .nil))) (.node [] [] (.node [] [] .nil (.node [154] [(4, 4), (23, 27), (154, 187)] (.node [] [] .nil (.node [] [] (.node [] [] .nil .nil) (.node [] [] (.node [] [] .nil (.node [] [] .nil (.node [] [] .nil (.node [] [] .nil (.node [] [] (.node [] [] .nil .nil) .nil))))) .nil))) .nil)) (.node [] [] .nil (.node [] [] .nil (.node [] [] (.node [] [] .nil .nil) .nil))))))) .nil))) .nil)) (.node [] [] .nil .nil)))))))) (retK Tryz.prog [.tmp 4] K) (nth [v0, v1]) w := by kernel_rfl
theorem S3_ok {v0 v1 : Value} {K : Cont} {w : World} (h : S3 v0 v1 K w) : callK Tryz.prog 3 [v0, v1] K w :=
  callK_of (P := Tryz.prog) (ok := okf) (n := 201) (fn := Tryz.f3) (c := bodyOf Tryz.f3) (rs := [.tmp 4]) (an := (.node [] [] .nil (.node [] [] .nil (.node [] [] .nil (.cut [] [(4, 4), (40, 55)] (.node [] [] .nil (.node [] [] (.node [] [] .nil .nil) .nil)) (.node [] [] (.node [] [] .nil (.node [58] [(4, 4), (10, 12), (58, 84)] (.node [] [] .nil (.node [] [] (.node [] [] .nil .nil) (.node [] [] (.node [] [] .nil (.node [] [] .nil (.node [] [] .nil (.node [] [] .nil (.node [] [] (.node [] [] .nil .nil) .nil))))) .nil))) .nil)) (.node [] [] .nil (.node [] [] (.node [] [] .nil (.node [89] [(4, 4), (14, 29), (89, 199)] (.node [] [] .nil (.node [] [] (.node [] [] .nil .nil) (.node [] [] (.node [] [] .nil (.node [] [] (.node [] [] .nil (.node [93] [(4, 4), (15, 20), (93, 145)] (.node [] [] .nil (.node [] [] (.node [] [] .nil .nil) (.node [] [] (.node [] [] .nil (.node [] [] .nil (.node [] [] .nil (.cut [] [(4, 4), (109, 127)] (.node [] [] .nil (.node [] [] (.node [] [] .nil .nil) .nil)) (.node [] [] .nil (.node [] [] .nil (.node [] [] (.node [] [] .nil .nil) .nil))))))) .nil))) .nil)) (.node [] [] (.node [] [] .nil (.node [] [] .nil (.node [] [] (.node [] [] .nil .nil) .nil))) (.node [] [] (.node [] [] .nil (.node [154] [(4, 4), (23, 27), (154, 187)] (.node [] [] .nil (.node [] [] (.node [] [] .nil .nil) (.node [] [] (.node [] [] .nil (.node [] [] .nil (.node [] [] .nil (.node [] [] .nil (.node [] [] (.node [] [] .nil .nil) .nil))))) .nil))) .nil)) (.node [] [] .nil (.node [] [] .nil (.node [] [] (.node [] [] .nil .nil) .nil))))))) .nil))) .nil)) (.node [] [] .nil .nil))))))))) good mixed Tryz.func3 (by kernel_rfl) (by kernel_rfl) (by kernel_rfl) (by kernel_rfl) (Eq.mp (S3_eq v0 v1 K w) h)

end Go.Proofs.YtlbaopamhkmepaaGreatDoor

namespace Go.Proofs.YtlbaopamhkmepaaGreatDoor
open Go Go.K
structure Grp where
  d : List Dop
  u : List Dop
/-- a history as data: the most groups, those to be undone and done again, the newest one last; whether a bracket is open, and its group -/
structure Hist where
  max : Nat
  us : List Grp
  rs : List Grp
  op : Bool
  own : List Grp
/-- a group more, of at most mx -/
def keepL (mx : Nat) (us : List Grp) (g : Grp) : List Grp := if us.length < mx then us ++ [g] else (us ++ [g]).drop 1
abbrev TGrp : Nat := 95
theorem RDops.to {S S' D D' M : Nat → Prop} {w w' : World} {v : Value} {l : List Dop} (h : RDops S D w v l) (hm : Mod M w w') (hS : ∀ b, b < w.heap.size → S b → ¬ M b) (hD : ∀ b, b < w.heap.size → D b → ¬ M b) (hS' : ∀ b, b < w.heap.size → S b → S' b) (hD' : ∀ b, b < w.heap.size → D b → D' b) : RDops S' D' w' v l :=
  SlR.mono h hS' (fun b hb hs => hm.same b hb (hS b hb hs)) (by decide) fun _ _ hx => hx.mod hm hD hD'
def RGrp (C : Nat → Prop) : World → List Value → Grp → Prop := fun w r g => ∃ dv uv, r = [dv, uv] ∧ RDops C C w dv g.d ∧ RDops C C w uv g.u
theorem RGrp.one {C : Nat → Prop} {w : World} {r : List Value} {g : Grp} (h : RGrp C w r g) : ∀ u ∈ r, u.oneCell' = true := by
  obtain ⟨dv, uv, rfl, h1, h2⟩ := h
  obtain ⟨a, c, rfl, _⟩ := h1.shape
  obtain ⟨a', c', rfl, _⟩ := h2.shape
  intro u hu
  simp at hu
  rcases hu with rfl | rfl <;> rfl
theorem RGrp.to {C C' M : Nat → Prop} {w w' : World} {r : List Value} {g : Grp} (h : RGrp C w r g) (hm : Mod M w w') (hC : ∀ b, b < w.heap.size → C b → ¬ M b) (hC' : ∀ b, b < w.heap.size → C b → C' b) : RGrp C' w' r g := by
  obtain ⟨dv, uv, e, h1, h2⟩ := h
  exact ⟨dv, uv, e, h1.to hm hC hC hC' hC', h2.to hm hC hC hC' hC'⟩
theorem RGrp.mod {C M : Nat → Prop} {w w' : World} {r : List Value} {g : Grp} (h : RGrp C w r g) (hm : Mod M w w') (hC : ∀ b, b < w.heap.size → C b → ¬ M b) : RGrp C w' r g := h.to hm hC fun _ _ h => h
theorem elem_grp : ElemOK Tryz.prog 65 TGrp 2 48 := ⟨Tryz.t95, .agg #[.slice none 0 0, .slice none 0 0], by kernel_rfl, by kernel_rfl, by kernel_rfl, by kernel_rfl, by kernel_rfl, by rfl, by decide⟩
/-- the seven cells -/
abbrev histL (sv : Value) (mx : Nat) (uv rv : Value) (op : Bool) (ov : Value) : List Value := [sv, .int .i64 mx, .bool true, uv, rv, .bool op, ov]
/-- a history at block b. F: all its blocks; C: those that are only read -/
structure HistR (F C : Nat → Prop) (W : World) (b : Nat) (sv : Value) (ks : List DKey) (uv rv ov : Value) (mx : Nat) (us rs : List Grp) (op : Bool) (own : List Grp) : Prop where
  cells : ∀ j v, (histL sv mx uv rv op ov)[j]? = some v → W.cell? ⟨b, j, none⟩ = some v
  live : ∀ j, j < 7 → Live W ⟨b, j, none⟩
  sch : SchR C W sv ks
  und : StkR TGrp 2 (RGrp C) W uv us
  red : StkR TGrp 2 (RGrp C) W rv rs
  own : SlR C 2 (RGrp C) W ov own
  fb : F b ∧ ¬ C b
  uF : ∀ g, uv.ownBlock = some g → F g ∧ ¬ C g ∧ g ≠ b
  rF : ∀ g, rv.ownBlock = some g → F g ∧ ¬ C g ∧ g ≠ b ∧ uv.ownBlock ≠ some g
  cf : ∀ x, C x → F x ∧ x < W.heap.size
section
variable {F C M : Nat → Prop} {W W' : World} {b : Nat} {sv : Value} {ks : List DKey} {uv rv ov : Value} {mx : Nat} {us rs own : List Grp} {op : Bool}
theorem HistR.lt (h : HistR F C W b sv ks uv rv ov mx us rs op own) : b < W.heap.size := World.block_lt_of_cell? W _ (h.cells 5 _ rfl)
theorem HistR.mod (h : HistR F C W b sv ks uv rv ov mx us rs op own) (hm : Mod M W W') (hM : ∀ x, F x → ¬ M x) : HistR F C W' b sv ks uv rv ov mx us rs op own :=
  have hC : ∀ x, x < W.heap.size → C x → ¬ M x := fun x _ hx => hM x (h.cf x hx).1
  ⟨fun j v hv => hm.cell (h.cells j v hv) (hM b h.fb.1), fun j hj => (h.live j hj).mod hm (hM b h.fb.1), h.sch.mod hm hC, h.und.mod (by decide) hm (fun g hg => hM g (h.uF g hg).1) fun r x hx => hx.mod hm hC, h.red.mod (by decide) hm (fun g hg => hM g (h.rF g hg).1) fun r x hx => hx.mod hm hC, h.own.mod hm hC (by decide) fun r x hx => hx.mod hm hC,
    h.fb, h.uF, h.rF, fun x hx => ⟨(h.cf x hx).1, Nat.lt_of_lt_of_le (h.cf x hx).2 hm.size⟩⟩
theorem HistR.grow (h : HistR F C W b sv ks uv rv ov mx us rs op own) (g : Grow W W') : HistR F C W' b sv ks uv rv ov mx us rs op own := h.mod g fun _ _ h => h
/-- more blocks that are only read -/
theorem HistR.more {F' C' : Nat → Prop} (h : HistR F C W b sv ks uv rv ov mx us rs op own) (hF : ∀ x, F x → F' x) (hC : ∀ x, C x → C' x) (hn : ∀ x, C' x → F' x ∧ x < W.heap.size ∧ (C x ∨ ¬ F x)) : HistR F' C' W b sv ks uv rv ov mx us rs op own := by
  have m0 : Mod (fun _ => False) W W := Mod.refl _ _
  have no : ∀ g, F g → ¬ C g → ¬ C' g := fun g hf hc hc' => by
    rcases (hn g hc').2.2 with h | h
    · exact hc h
    · exact h hf
  exact ⟨h.cells, h.live, h.sch.sub fun x _ hx => hC x hx, h.und.mod (by decide) m0 (fun _ _ h => h) fun r x hx => hx.to m0 (fun _ _ _ h => h) fun x _ hx => hC x hx, h.red.mod (by decide) m0 (fun _ _ h => h) fun r x hx => hx.to m0 (fun _ _ _ h => h) fun x _ hx => hC x hx, h.own.sub (fun x _ hx => hC x hx) (by decide) fun r x hx => hx.to m0 (fun _ _ _ h => h) fun x _ hx => hC x hx,
    ⟨hF _ h.fb.1, no b h.fb.1 h.fb.2⟩, fun g hg => ⟨hF _ (h.uF g hg).1, no g (h.uF g hg).1 (h.uF g hg).2.1, (h.uF g hg).2.2⟩, fun g hg => ⟨hF _ (h.rF g hg).1, no g (h.rF g hg).1 (h.rF g hg).2.1, (h.rF g hg).2.2⟩, fun x hx => ⟨(hn x hx).1, (hn x hx).2.1⟩⟩
theorem HistR.setOp {op' : Bool} {K : World → Prop} (h : HistR F C W b sv ks uv rv ov mx us rs op own)
    (hK : ∀ W', HistR F C W' b sv ks uv rv ov mx us rs op' own → Mod (fun x => x = b) W W' → K W') : st1K (.pointer (some ⟨b, 5, none⟩)) (.bool op') K W := by
  refine box_store h.cells (fun j hj => h.live j hj) (q := 5) (show 5 < 7 by decide) rfl rfl fun W' hm hc hl => ?_
  have hC : ∀ x, x < W.heap.size → C x → ¬ x = b := fun x _ hx e => h.fb.2 (e ▸ hx)
  exact hK W' ⟨hc, fun j hj => hl j hj, h.sch.mod hm hC, h.und.mod (by decide) hm (fun g hg => (h.uF g hg).2.2) fun r x hx => hx.mod hm hC, h.red.mod (by decide) hm (fun g hg => (h.rF g hg).2.2.1) fun r x hx => hx.mod hm hC, h.own.mod hm hC (by decide) fun r x hx => hx.mod hm hC,
    h.fb, h.uF, h.rF, fun x hx => ⟨(h.cf x hx).1, Nat.lt_of_lt_of_le (h.cf x hx).2 hm.size⟩⟩ hm
theorem HistR.setOwn {ov' : Value} {own' : List Grp} {K : World → Prop} (h : HistR F C W b sv ks uv rv ov mx us rs op own) (ho : SlR C 2 (RGrp C) W ov' own')
    (hK : ∀ W', HistR F C W' b sv ks uv rv ov' mx us rs op own' → Mod (fun x => x = b) W W' → K W') : st1K (.pointer (some ⟨b, 6, none⟩)) ov' K W := by
  refine box_store h.cells (fun j hj => h.live j hj) (q := 6) (show 6 < 7 by decide) (by obtain ⟨a, c, rfl, _⟩ := ho.shape; rfl) (by obtain ⟨a, c, rfl, _⟩ := ho.shape; rfl) fun W' hm hc hl => ?_
  have hC : ∀ x, x < W.heap.size → C x → ¬ x = b := fun x _ hx e => h.fb.2 (e ▸ hx)
  exact hK W' ⟨hc, fun j hj => hl j hj, h.sch.mod hm hC, h.und.mod (by decide) hm (fun g hg => (h.uF g hg).2.2) fun r x hx => hx.mod hm hC, h.red.mod (by decide) hm (fun g hg => (h.rF g hg).2.2.1) fun r x hx => hx.mod hm hC, ho.mod hm hC (by decide) fun r x hx => hx.mod hm hC,
    h.fb, h.uF, h.rF, fun x hx => ⟨(h.cf x hx).1, Nat.lt_of_lt_of_le (h.cf x hx).2 hm.size⟩⟩ hm
/-- another row of groups -/
theorem HistR.setU {F' : Nat → Prop} {uv' : Value} {us' : List Grp} {K : World → Prop} (h : HistR F C W b sv ks uv rv ov mx us rs op own) (hm : Mod M W W') (hMo : ∀ x, M x → uv.ownBlock = some x) (hF : ∀ x, F x → F' x)
    (ho : StkR TGrp 2 (RGrp C) W' uv' us') (hn : ∀ g, uv'.ownBlock = some g → uv.ownBlock = some g ∨ W.heap.size ≤ g ∧ F' g)
    (hK : ∀ W'', HistR F' C W'' b sv ks uv' rv ov mx us' rs op own → Mod (fun x => x = b) W' W'' → K W'') : st1K (.pointer (some ⟨b, 3, none⟩)) uv' K W' := by
  have hbM : ¬ M b := fun e => (h.uF b (hMo b e)).2.2 rfl
  have hCM : ∀ x, x < W.heap.size → C x → ¬ M x := fun x _ hx e => (h.uF x (hMo x e)).2.1 hx
  refine box_store (vs := histL sv mx uv rv op ov) (fun j v hv => hm.cell (h.cells j v hv) hbM) (fun j hj => (h.live j hj).mod hm hbM) (q := 3) (show 3 < 7 by decide) ho.one.1 ho.one.2 fun W'' hm' hc hl => ?_
  have hC' : ∀ x, x < W'.heap.size → C x → ¬ x = b := fun x _ hx e => h.fb.2 (e ▸ hx)
  have hbs := h.lt
  have ou := h.und.ownB
  have or := h.red.ownB
  have nb : ∀ g, uv'.ownBlock = some g → F' g ∧ ¬ C g ∧ g ≠ b := fun g hg => by
    rcases hn g hg with e | ⟨e, e'⟩
    · have := h.uF g e; exact ⟨hF _ this.1, this.2.1, this.2.2⟩
    · exact ⟨e', fun hc => by have := (h.cf g hc).2; omega, fun e2 => by omega⟩
  exact hK W'' ⟨hc, fun j hj => hl j hj, (h.sch.mod hm hCM).mod hm' hC', ho.mod (by decide) hm' (fun g hg => (nb g hg).2.2) fun r x hx => hx.mod hm' hC', (h.red.mod (R' := RGrp C) (by decide) hm (fun g hg e => (h.rF g hg).2.2.2 (hMo g e)) fun r x hx => hx.mod hm hCM).mod (by decide) hm' (fun g hg => (h.rF g hg).2.2.1) fun r x hx => hx.mod hm' hC', (h.own.mod hm hCM (by decide) fun r x hx => hx.mod hm hCM).mod hm' hC' (by decide) fun r x hx => hx.mod hm' hC',
    ⟨hF _ h.fb.1, h.fb.2⟩, nb, fun g hg => ⟨hF _ (h.rF g hg).1, (h.rF g hg).2.1, (h.rF g hg).2.2.1, fun e => by
      rcases hn g e with e1 | ⟨e1, _⟩
      · exact (h.rF g hg).2.2.2 e1
      · have := or g hg; omega⟩,
    fun x hx => ⟨hF _ (h.cf x hx).1, Nat.lt_of_lt_of_le (h.cf x hx).2 (Nat.le_trans hm.size hm'.size)⟩⟩ hm'
/-- another row of groups -/
theorem HistR.setR {F' : Nat → Prop} {rv' : Value} {rs' : List Grp} {K : World → Prop} (h : HistR F C W b sv ks uv rv ov mx us rs op own) (hm : Mod M W W') (hMo : ∀ x, M x → rv.ownBlock = some x) (hF : ∀ x, F x → F' x)
    (ho : StkR TGrp 2 (RGrp C) W' rv' rs') (hn : ∀ g, rv'.ownBlock = some g → rv.ownBlock = some g ∨ W.heap.size ≤ g ∧ F' g)
    (hK : ∀ W'', HistR F' C W'' b sv ks uv rv' ov mx us rs' op own → Mod (fun x => x = b) W' W'' → K W'') : st1K (.pointer (some ⟨b, 4, none⟩)) rv' K W' := by
  have hbM : ¬ M b := fun e => (h.rF b (hMo b e)).2.2.1 rfl
  have hCM : ∀ x, x < W.heap.size → C x → ¬ M x := fun x _ hx e => (h.rF x (hMo x e)).2.1 hx
  refine box_store (vs := histL sv mx uv rv op ov) (fun j v hv => hm.cell (h.cells j v hv) hbM) (fun j hj => (h.live j hj).mod hm hbM) (q := 4) (show 4 < 7 by decide) ho.one.1 ho.one.2 fun W'' hm' hc hl => ?_
  have hC' : ∀ x, x < W'.heap.size → C x → ¬ x = b := fun x _ hx e => h.fb.2 (e ▸ hx)
  have hbs := h.lt
  have ou := h.und.ownB
  have or := h.red.ownB
  have nb : ∀ g, rv'.ownBlock = some g → F' g ∧ ¬ C g ∧ g ≠ b := fun g hg => by
    rcases hn g hg with e | ⟨e, e'⟩
    · have := h.rF g e; exact ⟨hF _ this.1, this.2.1, this.2.2.1⟩
    · exact ⟨e', fun hc => by have := (h.cf g hc).2; omega, fun e2 => by omega⟩
  exact hK W'' ⟨hc, fun j hj => hl j hj, (h.sch.mod hm hCM).mod hm' hC', (h.und.mod (R' := RGrp C) (by decide) hm (fun g hg e => (h.rF g (hMo g e)).2.2.2 hg) fun r x hx => hx.mod hm hCM).mod (by decide) hm' (fun g hg => (h.uF g hg).2.2) fun r x hx => hx.mod hm' hC', ho.mod (by decide) hm' (fun g hg => (nb g hg).2.2) fun r x hx => hx.mod hm' hC', (h.own.mod hm hCM (by decide) fun r x hx => hx.mod hm hCM).mod hm' hC' (by decide) fun r x hx => hx.mod hm' hC',
    ⟨hF _ h.fb.1, h.fb.2⟩, fun g hg => ⟨hF _ (h.uF g hg).1, (h.uF g hg).2⟩, fun g hg => ⟨(nb g hg).1, (nb g hg).2.1, (nb g hg).2.2, fun e => by
      rcases hn g hg with e1 | ⟨e1, _⟩
      · exact (h.rF g e1).2.2.2 e
      · have := ou g e; omega⟩,
    fun x hx => ⟨hF _ (h.cf x hx).1, Nat.lt_of_lt_of_le (h.cf x hx).2 (Nat.le_trans hm.size hm'.size)⟩⟩ hm'
/-- the first element is cleared, and the slice begins behind it -/
theorem clear_first {g c : Nat} {l : List Grp} (h : OwnR 0 TGrp 2 (RGrp C) W (.slice (some ⟨g, 0, none⟩) l.length c) l) (h0 : 0 < l.length) (hgC : ¬ C g) :
    ∃ W', (Builtin.clear_ #[65] 0 [.slice (some ⟨g, 0, none⟩) 1 c].toArray).run Tryz.prog W = .ok (.tuple #[]) W' ∧ Mod (fun x => x = g) W W' ∧ StkR TGrp 2 (RGrp C) W' (sliced (some ⟨g, 0, none⟩) 1 l.length l.length 2) (l.drop 1) := by
  obtain ⟨a, r, e1, _, hr, hc, _⟩ := h.sl.get h0
  cases e1
  have hz : (Builtin.zeroCells (Value.agg #[.slice none 0 0, .slice none 0 0]).cells 1).toList = [.slice none 0 0, .slice none 0 0] := by kernel_rfl
  have hlv : ∀ j, j < 2 → Live W ((⟨g, 0, none⟩ : Addr).add j) := fun j hj => by
    obtain ⟨g', e, _, hl⟩ := OwnR.live h (i := 0) (j := j) h0 hj
    cases e
    rwa [Nat.zero_mul, Nat.zero_add] at hl
  have hrun := setL_run (P := Tryz.prog) (⟨g, 0, none⟩ : Addr) [.slice none 0 0, .slice none 0 0] 0 W (fun u hu => by simp at hu; rcases hu with rfl | rfl <;> rfl) (fun j _ hj => hlv j (by simpa using hj))
  obtain ⟨m1, _, _, _⟩ := setL_over (b := g) [.slice none 0 0, .slice none 0 0] 0 W (fun j _ hj => hlv j (by simpa using hj))
  have hgW : g < W.heap.size := (OwnR.ownB h g rfl).2
  refine ⟨_, ?_, m1, .inr ?_⟩
  · have hu : Tryz.prog.underlying 65 = some (.slice TGrp) := by kernel_rfl
    have hi : Tryz.prog.info? TGrp = some Tryz.t95 := by kernel_rfl
    have hv : (zeroValue TGrp).run Tryz.prog W = .ok (.agg #[.slice none 0 0, .slice none 0 0]) W := by
      simp [zeroValue, typeInfo, hi, show Tryz.t95.zero = some (.agg #[.slice none 0 0, .slice none 0 0]) from rfl]
    simp [Builtin.clear_, run_underlying hu, hv, hz, hrun]
  · have hsl := h.sl
    by_cases h1 : l.length = 1
    · refine ⟨⟨g, 0, none⟩, ?_, Nat.lt_of_lt_of_le hgW m1.size, ?_⟩
      · simp [sliced, h1]
      · have : l.drop 1 = [] := List.eq_nil_of_length_eq_zero (by simp [h1])
        rw [this]
        simp only [sliced, h1, if_true, Nat.sub_self]
        exact ⟨_, 0, rfl, Nat.le_refl _, by simp [maxLen], fun i x hx => by simp at hx⟩
    · have e : sliced (some (⟨g, 0, none⟩ : Addr)) 1 l.length l.length 2 = .slice (some ⟨g, 2, none⟩) (l.drop 1).length (l.drop 1).length := by
        simp only [sliced, if_neg h1, Option.map_some, List.length_drop]
        rw [Nat.one_mul, addr0]
      obtain ⟨_, _, esl, _, hlm, hel⟩ := hsl
      cases esl
      refine ⟨⟨g, 2, none⟩, e, Nat.lt_of_lt_of_le hgW m1.size, ?_⟩
      rw [e]
      refine ⟨_, _, rfl, Nat.le_refl _, by simp only [List.length_drop]; simp only [maxLen] at hlm ⊢; have := OwnR.shape h; obtain ⟨_, _, e', h2, h3, _⟩ := this; simp only [maxLen] at h3; omega, fun i x hx => ?_⟩
      rw [List.getElem?_drop] at hx
      obtain ⟨q, r', e2, _, hr', hc', hR'⟩ := hel (1 + i) x hx
      cases e2
      refine ⟨_, r', rfl, rfl, hr', fun j u hu => ?_, hR'.mod m1 fun y _ hy e => hgC (e ▸ hy)⟩
      have hj : j < 2 := by rw [← hr']; exact (List.getElem?_eq_some_iff.1 hu).1
      have := hc' j u hu
      rw [addr0] at this
      have ea : (⟨g, 2, none⟩ : Addr).add (i * 2 + j) = ⟨g, 2 + (i * 2 + j), none⟩ := by unfold Addr.add; split <;> simp_all
      rw [ea, show 2 + (i * 2 + j) = (1 + i) * 2 + j by omega]
      simp only [setL, addr0]
      rw [World.cell?_setCell_other _ _ _ _ (by intro h; have := congrArg Addr.off h; simp only at this; omega), World.cell?_setCell_other _ _ _ _ (by intro h; have := congrArg Addr.off h; simp only at this; omega)]
      exact this
end
end Go.Proofs.YtlbaopamhkmepaaGreatDoor

namespace Go.K
open Go
theorem slice_lhm_run {P : Program} {t e k : Nat} {i : TypeInfo} {a : Option Addr} {n c l h m : Nat} (ht : P.underlying t = some (.slice e)) (hi : P.info? e = some i) (hk : i.size = k) (h1 : l ≤ h) (h2 : h ≤ m) (h3 : m ≤ c) (w : World) :
    (Instr.sliceAt t (.slice a n c) (some (.int .i64 l)) (some (.int .i64 h)) (some (.int .i64 m))).run P w = .ok (sliced a l h m k) w := by
  have hel : P.elem t = e := by simp [Program.elem, ht]
  rw [run_sliceAt_slice _ _ _ _ _ _ (by rw [hel]; exact ht), run_slice_lhm _ _ _ _ _ (by rw [hel]; exact ht) _ _ _ _ _ _ (by omega) (by omega) (by omega) (by omega), hel]
  simp [sizeOf, typeInfo, hi, hk]
theorem slice_h_run {P : Program} {t e k : Nat} {i : TypeInfo} {a : Option Addr} {n c j : Nat} (ht : P.underlying t = some (.slice e)) (hi : P.info? e = some i) (hk : i.size = k) (hj : j ≤ c) (w : World) : (Instr.sliceAt t (.slice a n c) none (some (.int .i64 j)) none).run P w = .ok (sliced a 0 j c k) w := by
  have hel : P.elem t = e := by simp [Program.elem, ht]
  rw [run_sliceAt_slice _ _ _ _ _ _ (by rw [hel]; exact ht), run_slice_h _ _ _ _ _ (by rw [hel]; exact ht) _ _ (by omega) (by omega), hel]
  simp [sizeOf, typeInfo, hi, hk]
end Go.K
namespace Go.Proofs.YtlbaopamhkmepaaGreatDoor
open Go Go.K

/-- a history at block b -/
def HistI (F : Nat → Prop) (W : World) (b : Nat) (ks : List DKey) (h : Hist) : Prop := ∃ C sv uv rv ov, HistR F C W b sv ks uv rv ov h.max h.us h.rs h.op h.own
/-- the answer of a call that may turn the history -/
def HAfter (F : Nat → Prop) (w w' : World) (b : Nat) (ks : List DKey) (h : Hist) : Prop := ∃ F', (∀ x, F' x → F x ∨ w.heap.size ≤ x ∧ x < w'.heap.size) ∧ HistI F' w' b ks h ∧ Mod F w w'
section
variable {F C M : Nat → Prop} {W W' : World} {b : Nat} {sv : Value} {ks : List DKey} {uv rv ov : Value} {mx : Nat} {us rs own : List Grp} {op : Bool} {h : Hist}
theorem HistI.mod (hh : HistI F W b ks h) (hm : Mod M W W') (hM : ∀ x, F x → ¬ M x) : HistI F W' b ks h := by
  obtain ⟨C, sv, uv, rv, ov, hh⟩ := hh
  exact ⟨C, sv, uv, rv, ov, hh.mod hm hM⟩
theorem HistI.grow (hh : HistI F W b ks h) (g : Grow W W') : HistI F W' b ks h := hh.mod g fun _ _ h => h
theorem hready_ok (h : HistI F W b ks h) : callK Tryz.prog 48 [.pointer (some ⟨b, 0, none⟩)] (fun v' w' => v' = .bool true ∧ w' = W) W := by
  obtain ⟨C, sv, uv, rv, ov, h⟩ := h
  apply S48_ok
  unfold S48
  refine pnilK_s (condK_t (nilckK_s ?_))
  rw [faK_i, addr0]
  exact ld1K_i (h.cells 2 _ rfl) ⟨rfl, rfl⟩
theorem hnew_ok {mx : Nat} (hS : SchR C W sv ks) (hmx : mx ≤ 65536) :
    callK Tryz.prog 15 [sv, .int .i64 mx] (fun v' w' => Grow W w' ∧ ∃ b, W.heap.size ≤ b ∧ v' = .tuple #[.pointer (some ⟨b, 0, none⟩), .int .i64 0] ∧ HistI (fun x => (C x ∧ x < W.heap.size) ∨ W.heap.size ≤ x ∧ x < w'.heap.size) w' b ks ⟨mx, [], [], false, []⟩) W := by
  apply S15_ok
  unfold S15
  refine JoinK_i (fun _ W' => W' = W) ?_ ?_
  rotate_left
  · rw [ltK_i]
    refine condK_p (fun e => by omega) fun _ => ?_
    rw [gtK_i]
    exact condK_p (fun e => by omega) fun _ => rfl
  rintro _ _ rfl _
  rename World => W
  obtain ⟨bs, _, _, _, rfl, _⟩ := id hS
  refine ⟨(histL (.pointer (some ⟨bs, 0, none⟩)) mx (.slice none 0 0) (.slice none 0 0) false (.slice none 0 0)).toArray, by kernel_rfl, ?_⟩
  refine boxn_i (vs := histL (.pointer (some ⟨bs, 0, none⟩)) mx (.slice none 0 0) (.slice none 0 0) false (.slice none 0 0)) fun b w1 hb hz g hc hl => ?_
  refine ⟨g, b, by omega, rfl, fun x => C x ∧ x < W.heap.size, .pointer (some ⟨bs, 0, none⟩), .slice none 0 0, .slice none 0 0, .slice none 0 0, ?_⟩
  refine ⟨fun j v hv => by have := hc j v hv; rwa [addr0] at this, fun j hj => by have := hl j hj; rwa [addr0] at this, (hS.sub fun x hx hC => ⟨hC, hx⟩).grow g, .inl OwnR.nil, .inl OwnR.nil, SlR.nil, ⟨.inr ⟨by omega, by omega⟩, fun hx => by omega⟩, fun g hg => (nomatch hg), fun g hg => (nomatch hg), fun x hx => ⟨.inl hx, by omega⟩⟩
/-- a group more -/
theorem keep_ok {dv uu : Value} {g : Grp} (h : HistR F C W b sv ks uv rv ov mx us rs op own) (hl : us.length ≤ mx) (hmx : mx ≤ 65536) (hg : RGrp C W [dv, uu] g) :
    callK Tryz.prog 51 [.pointer (some ⟨b, 0, none⟩), .agg #[dv, uu]] (fun _ w' => ∃ F' uv', (∀ x, F' x → F x ∨ W.heap.size ≤ x ∧ x < w'.heap.size) ∧ HistR F' C w' b sv ks uv' rv ov mx (keepL mx us g) rs op own ∧ Mod F W w') W := by
  apply S51_ok
  unfold S51
  refine boxn_i (vs := [dv, uu]) fun b3 w1 hb3 hz1 g1 hc1 _ => ?_
  have gd : Grow w1 w1.drew := Mod.drew _ _
  have hR1 := h.grow (g1.trans gd)
  have hzd : w1.drew.heap.size = w1.heap.size := rfl
  have hou := h.und.ownB
  have hlt := h.lt
  refine drawC_i (fun k y => (k = 7 ∧ uv.ownBlock = some y) ∨ (k = 10 ∧ y = b)) ?_
  refine nilckK_s ?_
  rw [faK_i, addr0]
  refine sld1_i ⟨hR1.cells 3 _ rfl, fun j hj e => by
    rcases e with ⟨rfl, e⟩ | ⟨rfl, _⟩
    · exact (h.uF b e).2.2 rfl
    · exact absurd hj (by decide)⟩ ?_
  refine sldn_i (vs := [dv, uu]) rfl (fun q v hv => ⟨gd.cell (hc1 q v hv) fun h => h, fun j hj e => by
    rcases e with ⟨rfl, e⟩ | ⟨rfl, e⟩
    · rw [add_block] at e; have := hou b3 e; omega
    · rw [add_block] at e; have e' : b3 = b := e; omega⟩) ?_
  have hg1 : RGrp C w1.drew [dv, uu] g := hg.mod (g1.trans gd) fun _ _ _ h => h
  refine StkR.push elem_grp hR1.und (cs := [dv, uu]) (x := g) (by kernel_rfl) rfl hg1 (fun _ _ _ => RGrp.one) (fun w2 w3 r y hs hm hr => hr.mod hm fun x hx hC e => ?_) (by omega) (by simp only [maxLen]; omega) (fun w2 g => g.mono fun _ _ h => h.elim) fun w2 uv' w3 ho m23 m3 hn => ⟨m23.mono fun x _ e => .inl ⟨rfl, e⟩, ?_⟩
  · rcases e with e | e
    · exact (h.uF x e).2.1 hC
    · have := (h.cf x hC).2; omega
  refine nilckK_s ?_
  rw [faK_i, addr0]
  have z3 := m3.size
  have hlt3 := OwnR.ownB ho
  refine hR1.setU (F' := fun x => F x ∨ W.heap.size ≤ x ∧ x < w3.heap.size) m3 (fun _ h => h) (fun _ h => .inl h) (.inl ho) (fun g hg => by
    rcases hn g hg with e | e
    · exact .inl e
    · exact .inr ⟨e, .inr ⟨by omega, (hlt3 g hg).2⟩⟩) fun w4 hR4 m4 => ⟨m4.mono fun x _ e => .inr ⟨rfl, e⟩, ?_⟩
  have z4 := m4.size
  have mW4 : Mod F W w4 := (((g1.trans gd).mono fun _ _ h => h.elim).trans (m3.mono fun x _ e => (h.uF x e).1)).trans (m4.mono fun x _ e => by rw [e]; exact h.fb.1)
  obtain ⟨a, c, e, hcap, hcm, hp, hnone⟩ := ho.shape
  have hlen : (us ++ [g]).length = us.length + 1 := by simp
  refine drawK_i (fun W' => Grow w4 W') (Mod.drew _ _) ?_
  refine nilckK_s ?_
  rw [faK_i, addr0]
  refine qld1K_i (fun w2 g => g.cell (hR4.cells 3 _ rfl) fun h => h) ?_
  rw [e, lenK_i]
  refine nilckK_s ?_
  rw [faK_i, addr0]
  refine qld1K_i (fun w2 g => g.cell (hR4.cells 1 _ rfl) fun h => h) ?_
  rw [subK_i, hlen, wrap64 (by omega) (by omega)]
  intro w5 g5
  have hR5 := hR4.grow g5
  have mW5 : Mod F W w5 := mW4.next g5 fun _ _ h => h.elim
  rw [gtK_i]
  refine condK_p (fun hpos => ?_) fun hnp => ?_
  rotate_left
  · refine ⟨fun x => F x ∨ W.heap.size ≤ x ∧ x < w3.heap.size, uv', fun x hx => ?_, ?_, mW5⟩
    · have := g5.size
      rcases hx with hx | hx
      · exact .inl hx
      · exact .inr ⟨hx.1, by omega⟩
    · have ek : keepL mx us g = us ++ [g] := by unfold keepL; rw [if_pos (by omega)]
      rw [ek]; exact hR5
  have hmu : us.length = mx := by omega
  have e1 : ((us.length + 1 : Nat) : Int) - (mx : Int) = 1 := by omega
  rw [e1]
  cases a with
  | none => have := hnone rfl; simp at this
  | some p =>
    obtain ⟨g0, rfl, _, hg0, hob⟩ := hp p rfl
    have hok4 : OwnR 0 TGrp 2 (RGrp C) w4 uv' (us ++ [g]) := OwnR.mod ho m4 (fun y hy e => (hR4.uF y hy).2.2 e) fun r x _ hx => hx.mod m4 fun y _ hy e => h.fb.2 (e ▸ hy)
    have hok : OwnR 0 TGrp 2 (RGrp C) w5 uv' (us ++ [g]) := OwnR.mod hok4 g5 (fun _ _ h => h) fun r x _ hx => hx.mod g5 fun _ _ _ h => h
    rw [e] at hok
    have hg0b : g0 ≠ b := (hR4.uF g0 hob).2.2
    refine nilckK_s ?_
    rw [faK_i, addr0]
    refine ld1K_i (hR5.cells 3 _ rfl) ?_
    rw [e]
    refine runK_i (slice_hi_run (e := TGrp) (k := 2) (i := Tryz.t95) (j := 1) (by kernel_rfl) (by kernel_rfl) (by kernel_rfl) (by omega) w5) ?_
    obtain ⟨w8, hclr, m8, hst⟩ := clear_first hok (by omega) (hR4.uF g0 hob).2.1
    refine runK_i hclr ?_
    have gd8 : Grow w8 w8.drew := Mod.drew _ _
    have hb8 : w8.drew.cell? ⟨b, 3, none⟩ = some uv' := gd8.cell (m8.cell (hR5.cells 3 _ rfl) fun e => hg0b e.symm) fun h => h
    refine drawC_i (fun k y => k = 19 ∧ y = b) ?_
    refine nilckK_s ?_
    rw [faK_i, addr0]
    refine sld1_i ⟨hb8, fun j hj e => by obtain ⟨rfl, _⟩ := e; exact absurd hj (by decide)⟩ ?_
    refine nilckK_s ?_
    rw [faK_i, addr0]
    refine sld1_i ⟨hb8, fun j hj e => by obtain ⟨rfl, _⟩ := e; exact absurd hj (by decide)⟩ ?_
    rw [e, lenK_i]
    refine nilckK_s ?_
    rw [faK_i, addr0]
    refine sld1_i ⟨e ▸ hb8, fun j hj e => by obtain ⟨rfl, _⟩ := e; exact absurd hj (by decide)⟩ ?_
    rw [lenK_i]
    refine runK_i (slice_lhm_run (e := TGrp) (k := 2) (i := Tryz.t95) (l := 1) (by kernel_rfl) (by kernel_rfl) (by kernel_rfl) (by omega) (Nat.le_refl _) hcap w8.drew) ⟨Mod.refl _ _, ?_⟩
    refine nilckK_s ?_
    rw [faK_i, addr0]
    have hst' : StkR TGrp 2 (RGrp C) w8.drew (sliced (some ⟨g0, 0, none⟩) 1 (us ++ [g]).length (us ++ [g]).length 2) ((us ++ [g]).drop 1) := hst.mod (by decide) gd8 (fun _ _ h => h) fun r x hx => hx.mod gd8 fun _ _ _ h => h
    have hown : ∀ y, (sliced (some (⟨g0, 0, none⟩ : Addr)) 1 (us ++ [g]).length (us ++ [g]).length 2).ownBlock = some y → y = g0 := by
      intro y hy
      unfold sliced at hy
      split at hy
      · exact (Option.some.inj hy).symm
      · simp only [Option.map_some, Value.ownBlock, add_block, Option.some.injEq] at hy
        exact hy.symm
    have m58 : Mod (fun x => x = g0) w5 w8.drew := m8.next gd8 fun _ _ h => h.elim
    have z5 := g5.size
    have z8 := m58.size
    refine hR5.setU (F' := fun x => F x ∨ W.heap.size ≤ x ∧ x < w3.heap.size) m58 (fun x e => by rw [e]; exact hob) (fun _ h => h) hst' (fun y hy => .inl (by rw [hown y hy]; exact hob)) fun w9 hR9 m9 => ⟨m9.mono fun x _ e => ⟨rfl, e⟩, ?_⟩
    have z9 := m9.size
    have ek : keepL mx us g = (us ++ [g]).drop 1 := by unfold keepL; rw [if_neg (by omega)]
    rw [ek]
    refine ⟨fun x => F x ∨ W.heap.size ≤ x ∧ x < w3.heap.size, _, fun x hx => ?_, hR9, (mW5.next m58 fun x hx e => ?_).trans (m9.mono fun x _ e => by rw [e]; exact h.fb.1)⟩
    · rcases hx with hx | hx
      · exact .inl hx
      · exact .inr ⟨hx.1, by omega⟩
    · rcases (hR4.uF g0 hob).1 with hf | hf
      · rw [e]; exact hf
      · omega
end
end Go.Proofs.YtlbaopamhkmepaaGreatDoor

namespace Go.K
open Go
theorem SlR.takeN {α : Type} {S : Nat → Prop} {k : Nat} {R : World → List Value → α → Prop} {w : World} {a : Option Addr} {n c : Nat} {l : List α} (h : SlR S k R w (.slice a n c) l) {j : Nat} (hj : j ≤ l.length) : SlR S k R w (.slice a j c) (l.take j) := by
  obtain ⟨_, _, e, h1, h2, h3⟩ := h
  cases e
  refine ⟨_, _, by rw [List.length_take, Nat.min_eq_left hj], by rw [List.length_take]; omega, h2, fun i x hx => ?_⟩
  rw [List.getElem?_take] at hx
  split at hx
  · exact h3 i x hx
  · cases hx
theorem sliced_zero {p : Addr} {j c s : Nat} : sliced (some p) 0 j c s = .slice (some p) j c := by
  have e : p.add 0 = p := Addr.add_zero' p
  unfold sliced
  simp [e]
theorem concat_of_pos {α : Type} {l : List α} (h : 0 < l.length) : ∃ l' g, l = l' ++ [g] := by
  rcases List.eq_nil_or_concat l with rfl | ⟨l', g, e⟩
  · simp at h
  · exact ⟨l', g, by rw [e, List.concat_eq_append]⟩
end Go.K
namespace Go.Proofs.YtlbaopamhkmepaaGreatDoor
open Go Go.K
section
variable {F C M : Nat → Prop} {W W' : World} {b : Nat} {sv : Value} {ks : List DKey} {uv rv ov : Value} {mx : Nat} {us rs own : List Grp} {op : Bool} {h : Hist}
theorem depths_ok (hh : HistI F W b ks h) : callK Tryz.prog 20 [.pointer (some ⟨b, 0, none⟩)] (fun v' w' => v' = .tuple #[.int .i64 h.us.length, .int .i64 h.rs.length] ∧ Grow W w') W := by
  apply S20_ok
  unfold S20
  refine callK_mono (hready_ok hh) ?_
  rintro _ _ ⟨rfl, rfl⟩
  rename World => W
  obtain ⟨C, sv, uv, rv, ov, hR⟩ := hh
  rw [notK_i]
  refine condK_f (drawK_i (fun W' => Grow W W') (Mod.drew _ _) (nilckK_s ?_))
  rw [faK_i, addr0]
  refine qld1K_i (fun w2 g => g.cell (hR.cells 3 _ rfl) fun h => h) ?_
  obtain ⟨a, c, e, _⟩ := hR.und.shape (by decide)
  obtain ⟨a', c', e', _⟩ := hR.red.shape (by decide)
  rw [e, lenK_i]
  refine nilckK_s ?_
  rw [faK_i, addr0]
  refine qld1K_i (fun w2 g => g.cell (hR.cells 4 _ rfl) fun h => h) ?_
  rw [e', lenK_i]
  exact fun W' g => ⟨rfl, g⟩
theorem open_ok (hh : HistI F W b ks h) : callK Tryz.prog 33 [.pointer (some ⟨b, 0, none⟩)] (fun v' w' => v' = .bool h.op ∧ w' = W) W := by
  apply S33_ok
  unfold S33
  refine callK_mono (hready_ok hh) ?_
  rintro _ _ ⟨rfl, rfl⟩
  rename World => W
  obtain ⟨C, sv, uv, rv, ov, hR⟩ := hh
  refine condK_t (nilckK_s ?_)
  rw [faK_i, addr0]
  exact ld1K_i (hR.cells 5 _ rfl) ⟨rfl, rfl⟩
theorem begin_ok (hh : HistI F W b ks h) : callK Tryz.prog 27 [.pointer (some ⟨b, 0, none⟩)] (fun v' w' => (h.op = true ∧ v' = .int .i64 9 ∧ w' = W) ∨ (h.op = false ∧ v' = .int .i64 0 ∧ HAfter F W w' b ks { h with op := true, own := [] })) W := by
  apply S27_ok
  unfold S27
  refine callK_mono (hready_ok hh) ?_
  rintro _ _ ⟨rfl, rfl⟩
  rename World => W
  obtain ⟨C, sv, uv, rv, ov, hR⟩ := hh
  rw [notK_i]
  refine condK_f (nilckK_s ?_)
  rw [faK_i, addr0]
  refine ld1K_i (hR.cells 5 _ rfl) ?_
  cases ho : h.op with
  | true => exact condK_t (.inl ⟨rfl, rfl, rfl⟩)
  | false =>
    refine condK_f (nilckK_s ?_)
    rw [faK_i, addr0]
    refine hR.setOp fun W1 hR1 m1 => nilckK_s ?_
    rw [faK_i, addr0]
    refine hR1.setOwn SlR.nil fun W2 hR2 m2 => .inr ⟨rfl, rfl, F, fun _ h => .inl h, ⟨C, sv, uv, rv, _, hR2⟩, (m1.trans m2).mono fun x _ e => by rw [e]; exact hR.fb.1⟩
/-- Push, without a bracket -/
theorem push_ok {S D S' D' : Nat → Prop} {dv uu : Value} {x y : List Dop} (hh : HistI F W b ks h) (hop : h.op = false) (hl : h.us.length ≤ h.max) (hmx : h.max ≤ 65536) (hd : RDops S D W dv x) (hu : RDops S' D' W uu y) (bx : mDops x ≤ 1099511627776) (by' : mDops y ≤ 1099511627776) (hF : ∀ z, F z → z < W.heap.size) :
    callK Tryz.prog 18 [.pointer (some ⟨b, 0, none⟩), dv, uu] (fun v' w' => v' = .int .i64 0 ∧ HAfter F W w' b ks { h with us := keepL h.max h.us ⟨x, y⟩, rs := [] }) W := by
  apply S18_ok
  unfold S18
  refine callK_mono (hready_ok hh) ?_
  rintro _ _ ⟨rfl, rfl⟩
  rename World => W
  obtain ⟨C, sv, uv, rv, ov, hR⟩ := hh
  rw [notK_i]
  refine condK_f ?_
  refine callK_mono (copy_dops hd bx) ?_
  rintro cv w2 ⟨o2, g2⟩
  refine callK_mono (copy_dops (hu.grow g2) by') ?_
  rintro cu w3 ⟨o3, g3⟩
  have g23 := g2.trans g3
  obtain ⟨ca, cc, ecv, _⟩ := (ODops.sl o2).shape
  obtain ⟨ca', cc', ecu, _⟩ := (ODops.sl o3).shape
  refine ⟨#[cv, cu], by rw [ecv, ecu]; kernel_rfl, ?_⟩
  refine newst_n (vs := [cv, cu]) rfl rfl (fun u hu => by simp at hu; rcases hu with rfl | rfl; rw [ecv]; rfl; rw [ecu]; rfl) fun b7 w4 hb7 hz7 g4 hc4 _ => ?_
  have z2 := g2.size
  have z3 := g3.size
  have r2 : RDops (fun z => W.heap.size ≤ z ∧ z < w4.heap.size) (fun z => W.heap.size ≤ z ∧ z < w4.heap.size) w4 cv x := (ODops.reads o2).to (g3.trans g4) (fun _ _ _ h => h) (fun _ _ _ h => h) (fun z _ hz => ⟨hz.1, by omega⟩) fun z _ hz => ⟨hz.1, by omega⟩
  have r3 : RDops (fun z => W.heap.size ≤ z ∧ z < w4.heap.size) (fun z => W.heap.size ≤ z ∧ z < w4.heap.size) w4 cu y := (ODops.reads o3).to g4 (fun _ _ _ h => h) (fun _ _ _ h => h) (fun z _ hz => ⟨by omega, by omega⟩) fun z _ hz => ⟨by omega, by omega⟩
  have hR4 := (hR.grow (g23.trans g4)).more (F' := fun z => F z ∨ W.heap.size ≤ z ∧ z < w4.heap.size) (C' := fun z => C z ∨ W.heap.size ≤ z ∧ z < w4.heap.size) (fun _ h => .inl h) (fun _ h => .inl h) (fun z hz => by
    rcases hz with hz | hz
    · have := hR.cf z hz; exact ⟨.inl this.1, by omega, .inl hz⟩
    · exact ⟨.inr hz, hz.2, .inr fun hf => by have := hF z hf; omega⟩)
  have hg : RGrp (fun z => C z ∨ W.heap.size ≤ z ∧ z < w4.heap.size) w4 [cv, cu] ⟨x, y⟩ := ⟨cv, cu, rfl, r2.to (Mod.refl (fun _ => False) _) (fun _ _ _ h => h) (fun _ _ _ h => h) (fun _ _ h => .inr h) fun _ _ h => .inr h, r3.to (Mod.refl (fun _ => False) _) (fun _ _ _ h => h) (fun _ _ _ h => h) (fun _ _ h => .inr h) fun _ _ h => .inr h⟩
  have g04 := g23.trans g4
  refine JoinK_i (fun _ w6 => ∃ F' uv', (∀ z, F' z → F z ∨ W.heap.size ≤ z ∧ z < w6.heap.size) ∧ HistR F' (fun z => C z ∨ W.heap.size ≤ z ∧ z < w4.heap.size) w6 b sv ks uv' rv ov h.max (keepL h.max h.us ⟨x, y⟩) h.rs h.op h.own ∧ Mod F W w6) ?_ ?_
  · rintro _ w6 ⟨F', uv', hF', hR6, m6⟩ _
    refine nilckK_s ?_
    rw [faK_i, addr0]
    refine hR6.setR (F' := F') (M := fun _ => False) (Mod.refl _ _) (fun _ h => h.elim) (fun _ h => h) (.inl OwnR.nil) (fun g hg => nomatch hg) fun w7 hR7 m7 => ⟨rfl, F', fun z hz => ?_, ⟨_, sv, uv', _, ov, hR7⟩, m6.trans (m7.mono fun z _ e => by rw [e]; exact hR.fb.1)⟩
    have := m7.size
    rcases hF' z hz with h | h
    · exact .inl h
    · exact .inr ⟨h.1, by omega⟩
  refine nilckK_s ?_
  rw [faK_i, addr0]
  refine ld1K_i (hR4.cells 5 _ rfl) ?_
  rw [hop]
  refine condK_f ?_
  refine ldnK_i (vs := [cv, cu]) rfl hc4 ?_
  rw [← hop]
  refine callK_mono (keep_ok hR4 hl hmx hg) ?_
  rintro _ w6 ⟨F', uv', hF', hR6, m6⟩
  have z4 := g04.size
  have z6 := m6.size
  refine ⟨F', uv', fun z hz => ?_, hR6, (g04.mono fun _ _ h => h.elim : Mod F W w4).next m6 fun z hz e => ?_⟩
  · rcases hF' z hz with (h | h) | h
    · exact .inl h
    · exact .inr ⟨h.1, by omega⟩
    · exact .inr ⟨by omega, h.2⟩
  · rcases e with e | e
    · exact e
    · omega
/-- slices.Clone of groups -/
theorem clone_grp {S : Nat → Prop} {v : Value} {l : List Grp} (h : SlR S 2 (RGrp C) W v l) (hC : ∀ x, C x → x < W.heap.size) (hl : l.length ≤ 1099511627) :
    callK Tryz.prog 88 [v] (fun v' w' => OwnR W.heap.size TGrp 2 (RGrp C) w' v' l ∧ Grow W w') W := by
  apply S88_ok
  unfold S88
  obtain ⟨a, c, rfl, hm⟩ := h.shape
  cases a with
  | none =>
    have : l = [] := by
      cases l with
      | nil => rfl
      | cons x l => obtain ⟨p, r, e, _⟩ := h.get (i := 0) (by simp); cases e
    subst this
    simp only [KS]
    exact ⟨OwnR.nil, Mod.refl _ _⟩
  | some p =>
    simp only [KS]
    refine rowK_empty ?_
    have hg : Grow W (W.alloc (.cells #[] TGrp)) := Mod.alloc _ _ _
    have hbx : (W.alloc (.cells #[] TGrp)).heap[W.heap.size]? = some (.cells #[] TGrp (0, 0)) := by show (W.heap.push _)[W.heap.size]? = _; simp
    obtain ⟨v', w', h1, h2, h3, _⟩ := append_new (ty := 65) elem_grp hbx (h.grow hg (by decide) fun r x hx => hx.mod hg fun _ _ _ h => h) (fun _ _ _ => RGrp.one) (by omega) (fun w2 hg2 r y hr => hr.mod (Mod.of_grownBy hg2) fun x hx hC' e => by have := hC x hC'; simp only [Option.some.injEq] at e; omega)
    exact runK_i h1 ⟨h2, hg.trans h3⟩
/-- the newest group of one stack to the other one -/
theorem moveU_ok (h : HistR F C W b sv ks uv rv ov mx us rs false own) (hl1 : us.length ≤ 65536) (hl2 : rs.length ≤ 65536) (hF : ∀ x, F x → x < W.heap.size) :
    callK Tryz.prog 52 [.pointer (some ⟨b, 0, none⟩), .pointer (some ⟨b, 3, none⟩), .pointer (some ⟨b, 4, none⟩)] (fun v' w' => (us = [] ∧ v' = .tuple #[.agg #[.slice none 0 0, .slice none 0 0], .int .i64 10] ∧ Grow W w') ∨
      ∃ l g r F' uv' rv', us = l ++ [g] ∧ v' = .tuple #[.agg (List.toArray r), .int .i64 0] ∧ r.length = 2 ∧ RGrp C w' r g ∧ (∀ x, F' x → F x ∨ W.heap.size ≤ x ∧ x < w'.heap.size) ∧ HistR F' C w' b sv ks uv' rv' ov mx l (rs ++ [g]) false own ∧ Mod F W w') W := by
  apply S52_ok
  unfold S52
  have hlt := h.lt
  have hoA := h.und.ownB
  have hoB := h.red.ownB
  refine newz_i fun b6 w1 hb6 hz1 g1 _ hl6 => ?_
  have hR1 := h.grow g1
  obtain ⟨a, c, e, hcap, hcm, hel⟩ := h.und.sl (by decide)
  have hsl := hR1.und.sl (by decide)
  rw [e] at hsl
  refine nilckK_s ?_
  refine ld1K_i (hR1.cells 3 _ rfl) ?_
  rw [e, lenK_i, subK_i, wrap64 (by omega) (by omega)]
  refine nilckK_s ?_
  rw [faK_i, addr0]
  refine ld1K_i (hR1.cells 5 _ rfl) ?_
  refine condK_f ?_
  rw [ltK_i]
  refine condK_p (fun hneg => ?_) fun hpos => ?_
  · refine ⟨#[.slice none 0 0, .slice none 0 0], by kernel_rfl, ?_⟩
    refine stn_over (vs := [.slice none 0 0, .slice none 0 0]) rfl (fun u hu => by simp at hu; subst hu; rfl) (fun j hj => hl6 j hj) fun W'' m hc _ => ?_
    exact ldnK_i rfl hc (.inl ⟨List.eq_nil_of_length_eq_zero (by omega), rfl, g1.next m fun x hx e => by omega⟩)
  obtain ⟨l, g, hlg⟩ := concat_of_pos (l := us) (by omega)
  have hlen : us.length = l.length + 1 := by rw [hlg]; simp
  have en : ((us.length : Int) - 1) = ((l.length : Nat) : Int) := by omega
  rw [en]
  refine nilckK_s ?_
  refine ld1K_i (hR1.cells 3 _ rfl) ?_
  rw [e]
  have hi : l.length < us.length := by omega
  obtain ⟨p, r, rfl, _, hr, hc, hre⟩ := hsl.get hi
  have hge : us[l.length] = g := by
    have : us[l.length]? = some g := by rw [hlg]; simp
    rw [List.getElem?_eq_getElem hi] at this
    exact Option.some.inj this
  rw [hge] at hre
  refine ixK_n hi (ldnK_i hr (fun j u hu => by rw [Addr.add_add]; exact hc j u hu) ?_)
  refine newst_n (vs := r) hr rfl hre.one fun b9 w3 hb9 hz9 g3 hc9 _ => ?_
  have g13 := g1.trans g3
  have hR3 := hR1.grow g3
  refine nilckK_s ?_
  refine ld1K_i (hR3.cells 3 _ rfl) ?_
  rw [e]
  refine runK_i (slice_h_run (e := TGrp) (k := 2) (i := Tryz.t95) (j := l.length) (by kernel_rfl) (by kernel_rfl) (by kernel_rfl) (by omega) w3) ?_
  rw [sliced_zero]
  have hsl3 := hR3.und.sl (by decide)
  rw [e] at hsl3
  have htk := hsl3.takeN (j := l.length) (by omega)
  have etk : us.take l.length = l := by rw [hlg]; simp
  rw [etk] at htk
  refine callK_mono (clone_grp htk (fun x hx => (hR3.cf x hx).2) (by omega)) ?_
  rintro cl w4 ⟨ho4, g4⟩
  have g34 := g3.trans g4
  have g14 := g13.trans g4
  have hR4 := hR3.grow g4
  have ho4' := OwnR.ownB ho4
  refine nilckK_s ?_
  have z1 := g1.size
  have z3 := g3.size
  have z4 := g4.size
  refine hR3.setU (F' := fun x => F x ∨ w3.heap.size ≤ x ∧ x < w4.heap.size) (M := fun _ => False) g4 (fun _ h => h.elim) (fun _ h => .inl h) (.inl (ho4.base fun _ _ => Nat.zero_le _)) (fun y hy => .inr ⟨(ho4' y hy).1, .inr ⟨(ho4' y hy).1, (ho4' y hy).2⟩⟩) fun w5 hR5 m5 => ?_
  have z5 := m5.size
  have gd : Grow w5 w5.drew := Mod.drew _ _
  have zd : w5.drew.heap.size = w5.heap.size := rfl
  have hR5d := hR5.grow gd
  obtain ⟨dv, uu, rfl, hd, hu⟩ := hre
  have hre : RGrp C w1 [dv, uu] g := ⟨dv, uu, rfl, hd, hu⟩
  have m35 : Mod (fun y => y = b) w3 w5.drew := ((g4.mono fun _ _ h => h.elim).trans m5).next gd fun _ _ h => h.elim
  have hb9c : ∀ j v, ([dv, uu] : List Value)[j]? = some v → w5.drew.cell? ((⟨b9, 0, none⟩ : Addr).add j) = some v := fun j v hv => m35.cell (hc9 j v hv) (by rw [add_block]; exact fun e => by have e' : b9 = b := e; omega)
  refine drawC_i (fun k y => (k = 6 ∧ rv.ownBlock = some y) ∨ (k = 8 ∧ y = b)) ?_
  refine nilckK_s ?_
  refine sld1_i ⟨hR5d.cells 4 _ rfl, fun j hj e => by
    rcases e with ⟨rfl, e⟩ | ⟨rfl, _⟩
    · exact (h.rF b e).2.2.1 rfl
    · exact absurd hj (by decide)⟩ ?_
  refine sldn_i (vs := [dv, uu]) rfl (fun q v hv => ⟨hb9c q v hv, fun j hj e => by
    rcases e with ⟨rfl, e⟩ | ⟨rfl, e⟩
    · rw [add_block] at e; have := hoB b9 e; omega
    · rw [add_block] at e; have e' : b9 = b := e; omega⟩) ?_
  have hCb : ∀ x, C x → ¬ x = b := fun x hx e => h.fb.2 (e ▸ hx)
  have hg5 : RGrp C w5.drew [dv, uu] g := (hre.mod g3 fun _ _ _ h => h).mod m35 fun x _ hx => hCb x hx
  refine StkR.push elem_grp hR5d.red (cs := [dv, uu]) (x := g) (by kernel_rfl) rfl hg5 (fun _ _ _ => RGrp.one) (fun w2 w3 r y hs hm hr => hr.mod hm fun x hx hC e => ?_) (by omega) (by simp only [maxLen]; omega) (fun w2 g => g.mono fun _ _ h => h.elim) fun w7 bv' w8 ho m78 m8 hn => ⟨m78.mono fun x _ e => .inl ⟨rfl, e⟩, ?_⟩
  · rcases e with e | e
    · exact (h.rF x e).2.1 hC
    · have := (h.cf x hC).2; omega
  refine nilckK_s ?_
  have z8 := m8.size
  have hlt8 := OwnR.ownB ho
  refine hR5d.setR (F' := fun x => F x ∨ w3.heap.size ≤ x ∧ x < w8.heap.size) m8 (fun _ h => h) (fun x h => by rcases h with h | h; exact .inl h; exact .inr ⟨h.1, by omega⟩) (.inl ho) (fun y hy => by
    rcases hn y hy with e | e
    · exact .inl e
    · exact .inr ⟨e, .inr ⟨by omega, (hlt8 y hy).2⟩⟩) fun w9 hR9 m9 => ⟨m9.mono fun x _ e => .inr ⟨rfl, e⟩, ?_⟩
  have z9 := m9.size
  have m59 : Mod (fun y => rv.ownBlock = some y ∨ y = b) w5.drew w9 := (m8.mono fun _ _ h => .inl h).trans (m9.mono fun _ _ h => .inr h)
  have hb9d : ∀ j v, ([dv, uu] : List Value)[j]? = some v → w9.cell? ((⟨b9, 0, none⟩ : Addr).add j) = some v := fun j v hv => m59.cell (hb9c j v hv) (by
    rw [add_block]
    rintro (e | e)
    · have := hoB b9 e; omega
    · have e' : b9 = b := e; omega)
  refine ldnK_i (vs := [dv, uu]) rfl hb9d ?_
  have hg9 : RGrp C w9 [dv, uu] g := hg5.mod m59 fun x _ hx e => by
    rcases e with e | e
    · exact (h.rF x e).2.1 hx
    · exact hCb x hx e
  refine stn_over (vs := [dv, uu]) rfl hg9.one (fun j hj => ((((hl6 j hj).mod g3 fun h => h).mod m35 fun e => by rw [add_block] at e; have e' : b6 = b := e; omega).mod m59 fun e => by
    rw [add_block] at e
    rcases e with e | e
    · have := hoB b6 e; omega
    · have e' : b6 = b := e; omega)) fun w10 m10 hc10 _ => ?_
  have z10 := m10.size
  refine ldnK_i rfl hc10 (.inr ⟨l, g, [dv, uu], fun x => F x ∨ w3.heap.size ≤ x ∧ x < w8.heap.size, _, _, hlg, rfl, rfl, hg9.mod m10 fun x _ hx e => by have := (h.cf x hx).2; omega, fun x hx => ?_, hR9.mod m10 fun x hx e => ?_, ?_⟩)
  · rcases hx with hx | hx
    · exact .inl hx
    · exact .inr ⟨by omega, by omega⟩
  · rcases hx with hx | hx
    · have := hF x hx; omega
    · omega
  · refine (((g13.mono fun _ _ h => h.elim : Mod F W w3).next m35 fun x hx e => by rw [e]; exact h.fb.1).next m59 fun x hx e => ?_).next m10 fun x hx e => by omega
    rcases e with e | e
    · exact (h.rF x e).1
    · rw [e]; exact h.fb.1
/-- the newest group of one stack to the other one -/
theorem moveR_ok (h : HistR F C W b sv ks uv rv ov mx us rs false own) (hl1 : us.length ≤ 65536) (hl2 : rs.length ≤ 65536) (hF : ∀ x, F x → x < W.heap.size) :
    callK Tryz.prog 52 [.pointer (some ⟨b, 0, none⟩), .pointer (some ⟨b, 4, none⟩), .pointer (some ⟨b, 3, none⟩)] (fun v' w' => (rs = [] ∧ v' = .tuple #[.agg #[.slice none 0 0, .slice none 0 0], .int .i64 10] ∧ Grow W w') ∨
      ∃ l g r F' uv' rv', rs = l ++ [g] ∧ v' = .tuple #[.agg (List.toArray r), .int .i64 0] ∧ r.length = 2 ∧ RGrp C w' r g ∧ (∀ x, F' x → F x ∨ W.heap.size ≤ x ∧ x < w'.heap.size) ∧ HistR F' C w' b sv ks uv' rv' ov mx (us ++ [g]) l false own ∧ Mod F W w') W := by
  apply S52_ok
  unfold S52
  have hlt := h.lt
  have hoA := h.red.ownB
  have hoB := h.und.ownB
  refine newz_i fun b6 w1 hb6 hz1 g1 _ hl6 => ?_
  have hR1 := h.grow g1
  obtain ⟨a, c, e, hcap, hcm, hel⟩ := h.red.sl (by decide)
  have hsl := hR1.red.sl (by decide)
  rw [e] at hsl
  refine nilckK_s ?_
  refine ld1K_i (hR1.cells 4 _ rfl) ?_
  rw [e, lenK_i, subK_i, wrap64 (by omega) (by omega)]
  refine nilckK_s ?_
  rw [faK_i, addr0]
  refine ld1K_i (hR1.cells 5 _ rfl) ?_
  refine condK_f ?_
  rw [ltK_i]
  refine condK_p (fun hneg => ?_) fun hpos => ?_
  · refine ⟨#[.slice none 0 0, .slice none 0 0], by kernel_rfl, ?_⟩
    refine stn_over (vs := [.slice none 0 0, .slice none 0 0]) rfl (fun u hu => by simp at hu; subst hu; rfl) (fun j hj => hl6 j hj) fun W'' m hc _ => ?_
    exact ldnK_i rfl hc (.inl ⟨List.eq_nil_of_length_eq_zero (by omega), rfl, g1.next m fun x hx e => by omega⟩)
  obtain ⟨l, g, hlg⟩ := concat_of_pos (l := rs) (by omega)
  have hlen : rs.length = l.length + 1 := by rw [hlg]; simp
  have en : ((rs.length : Int) - 1) = ((l.length : Nat) : Int) := by omega
  rw [en]
  refine nilckK_s ?_
  refine ld1K_i (hR1.cells 4 _ rfl) ?_
  rw [e]
  have hi : l.length < rs.length := by omega
  obtain ⟨p, r, rfl, _, hr, hc, hre⟩ := hsl.get hi
  have hge : rs[l.length] = g := by
    have : rs[l.length]? = some g := by rw [hlg]; simp
    rw [List.getElem?_eq_getElem hi] at this
    exact Option.some.inj this
  rw [hge] at hre
  refine ixK_n hi (ldnK_i hr (fun j u hu => by rw [Addr.add_add]; exact hc j u hu) ?_)
  refine newst_n (vs := r) hr rfl hre.one fun b9 w3 hb9 hz9 g3 hc9 _ => ?_
  have g13 := g1.trans g3
  have hR3 := hR1.grow g3
  refine nilckK_s ?_
  refine ld1K_i (hR3.cells 4 _ rfl) ?_
  rw [e]
  refine runK_i (slice_h_run (e := TGrp) (k := 2) (i := Tryz.t95) (j := l.length) (by kernel_rfl) (by kernel_rfl) (by kernel_rfl) (by omega) w3) ?_
  rw [sliced_zero]
  have hsl3 := hR3.red.sl (by decide)
  rw [e] at hsl3
  have htk := hsl3.takeN (j := l.length) (by omega)
  have etk : rs.take l.length = l := by rw [hlg]; simp
  rw [etk] at htk
  refine callK_mono (clone_grp htk (fun x hx => (hR3.cf x hx).2) (by omega)) ?_
  rintro cl w4 ⟨ho4, g4⟩
  have g34 := g3.trans g4
  have g14 := g13.trans g4
  have hR4 := hR3.grow g4
  have ho4' := OwnR.ownB ho4
  refine nilckK_s ?_
  have z1 := g1.size
  have z3 := g3.size
  have z4 := g4.size
  refine hR3.setR (F' := fun x => F x ∨ w3.heap.size ≤ x ∧ x < w4.heap.size) (M := fun _ => False) g4 (fun _ h => h.elim) (fun _ h => .inl h) (.inl (ho4.base fun _ _ => Nat.zero_le _)) (fun y hy => .inr ⟨(ho4' y hy).1, .inr ⟨(ho4' y hy).1, (ho4' y hy).2⟩⟩) fun w5 hR5 m5 => ?_
  have z5 := m5.size
  have gd : Grow w5 w5.drew := Mod.drew _ _
  have zd : w5.drew.heap.size = w5.heap.size := rfl
  have hR5d := hR5.grow gd
  obtain ⟨dv, uu, rfl, hd, hu⟩ := hre
  have hre : RGrp C w1 [dv, uu] g := ⟨dv, uu, rfl, hd, hu⟩
  have m35 : Mod (fun y => y = b) w3 w5.drew := ((g4.mono fun _ _ h => h.elim).trans m5).next gd fun _ _ h => h.elim
  have hb9c : ∀ j v, ([dv, uu] : List Value)[j]? = some v → w5.drew.cell? ((⟨b9, 0, none⟩ : Addr).add j) = some v := fun j v hv => m35.cell (hc9 j v hv) (by rw [add_block]; exact fun e => by have e' : b9 = b := e; omega)
  refine drawC_i (fun k y => (k = 6 ∧ uv.ownBlock = some y) ∨ (k = 8 ∧ y = b)) ?_
  refine nilckK_s ?_
  refine sld1_i ⟨hR5d.cells 3 _ rfl, fun j hj e => by
    rcases e with ⟨rfl, e⟩ | ⟨rfl, _⟩
    · exact (h.uF b e).2.2 rfl
    · exact absurd hj (by decide)⟩ ?_
  refine sldn_i (vs := [dv, uu]) rfl (fun q v hv => ⟨hb9c q v hv, fun j hj e => by
    rcases e with ⟨rfl, e⟩ | ⟨rfl, e⟩
    · rw [add_block] at e; have := hoB b9 e; omega
    · rw [add_block] at e; have e' : b9 = b := e; omega⟩) ?_
  have hCb : ∀ x, C x → ¬ x = b := fun x hx e => h.fb.2 (e ▸ hx)
  have hg5 : RGrp C w5.drew [dv, uu] g := (hre.mod g3 fun _ _ _ h => h).mod m35 fun x _ hx => hCb x hx
  refine StkR.push elem_grp hR5d.und (cs := [dv, uu]) (x := g) (by kernel_rfl) rfl hg5 (fun _ _ _ => RGrp.one) (fun w2 w3 r y hs hm hr => hr.mod hm fun x hx hC e => ?_) (by omega) (by simp only [maxLen]; omega) (fun w2 g => g.mono fun _ _ h => h.elim) fun w7 bv' w8 ho m78 m8 hn => ⟨m78.mono fun x _ e => .inl ⟨rfl, e⟩, ?_⟩
  · rcases e with e | e
    · exact (h.uF x e).2.1 hC
    · have := (h.cf x hC).2; omega
  refine nilckK_s ?_
  have z8 := m8.size
  have hlt8 := OwnR.ownB ho
  refine hR5d.setU (F' := fun x => F x ∨ w3.heap.size ≤ x ∧ x < w8.heap.size) m8 (fun _ h => h) (fun x h => by rcases h with h | h; exact .inl h; exact .inr ⟨h.1, by omega⟩) (.inl ho) (fun y hy => by
    rcases hn y hy with e | e
    · exact .inl e
    · exact .inr ⟨e, .inr ⟨by omega, (hlt8 y hy).2⟩⟩) fun w9 hR9 m9 => ⟨m9.mono fun x _ e => .inr ⟨rfl, e⟩, ?_⟩
  have z9 := m9.size
  have m59 : Mod (fun y => uv.ownBlock = some y ∨ y = b) w5.drew w9 := (m8.mono fun _ _ h => .inl h).trans (m9.mono fun _ _ h => .inr h)
  have hb9d : ∀ j v, ([dv, uu] : List Value)[j]? = some v → w9.cell? ((⟨b9, 0, none⟩ : Addr).add j) = some v := fun j v hv => m59.cell (hb9c j v hv) (by
    rw [add_block]
    rintro (e | e)
    · have := hoB b9 e; omega
    · have e' : b9 = b := e; omega)
  refine ldnK_i (vs := [dv, uu]) rfl hb9d ?_
  have hg9 : RGrp C w9 [dv, uu] g := hg5.mod m59 fun x _ hx e => by
    rcases e with e | e
    · exact (h.uF x e).2.1 hx
    · exact hCb x hx e
  refine stn_over (vs := [dv, uu]) rfl hg9.one (fun j hj => ((((hl6 j hj).mod g3 fun h => h).mod m35 fun e => by rw [add_block] at e; have e' : b6 = b := e; omega).mod m59 fun e => by
    rw [add_block] at e
    rcases e with e | e
    · have := hoB b6 e; omega
    · have e' : b6 = b := e; omega)) fun w10 m10 hc10 _ => ?_
  have z10 := m10.size
  refine ldnK_i rfl hc10 (.inr ⟨l, g, [dv, uu], fun x => F x ∨ w3.heap.size ≤ x ∧ x < w8.heap.size, _, _, hlg, rfl, rfl, hg9.mod m10 fun x _ hx e => by have := (h.cf x hx).2; omega, fun x hx => ?_, hR9.mod m10 fun x hx e => ?_, ?_⟩)
  · rcases hx with hx | hx
    · exact .inl hx
    · exact .inr ⟨by omega, by omega⟩
  · rcases hx with hx | hx
    · have := hF x hx; omega
    · omega
  · refine (((g13.mono fun _ _ h => h.elim : Mod F W w3).next m35 fun x hx e => by rw [e]; exact h.fb.1).next m59 fun x hx e => ?_).next m10 fun x hx e => by omega
    rcases e with e | e
    · exact (h.uF x e).1
    · rw [e]; exact h.fb.1
end
end Go.Proofs.YtlbaopamhkmepaaGreatDoor

namespace Go.Proofs.YtlbaopamhkmepaaGreatDoor
open Go Go.K
section
variable {F C M : Nat → Prop} {W W' : World} {b : Nat} {sv : Value} {ks : List DKey} {h : Hist}
theorem undo_ok (hh : HistI F W b ks h) (hop : h.op = false) (hl1 : h.us.length ≤ 65536) (hl2 : h.rs.length ≤ 65536) (hF : ∀ x, F x → x < W.heap.size) (hb : ∀ g ∈ h.us, mDops g.u ≤ 1099511627776) :
    callK Tryz.prog 19 [.pointer (some ⟨b, 0, none⟩)] (fun v' w' => (h.us = [] ∧ ∃ cv, v' = .tuple #[cv, .int .i64 10] ∧ Grow W w') ∨
      ∃ l g cv n, h.us = l ++ [g] ∧ v' = .tuple #[cv, .int .i64 0] ∧ W.heap.size ≤ n ∧ ODops n w' cv g.u ∧ ∃ F', (∀ x, F' x → (F x ∨ W.heap.size ≤ x) ∧ x < n) ∧ HistI F' w' b ks { h with us := l, rs := h.rs ++ [g] } ∧ n ≤ w'.heap.size ∧ Mod F W w') W := by
  apply S19_ok
  unfold S19
  refine callK_mono (hready_ok hh) ?_
  rintro _ _ ⟨rfl, rfl⟩
  rename World => W
  obtain ⟨C, sv, uv, rv, ov, hR⟩ := hh
  rw [hop] at hR
  rw [notK_i]
  refine condK_f ?_
  refine JoinK_i (fun vs w2 => (h.us = [] ∧ ∃ b4, vs = [.pointer (some ⟨b4, 0, none⟩), .int .i64 10] ∧ (∀ j v, ([.slice none 0 0, .slice none 0 0] : List Value)[j]? = some v → w2.cell? ((⟨b4, 0, none⟩ : Addr).add j) = some v) ∧ Grow W w2) ∨
    ∃ l g b4 r F' uv' rv', h.us = l ++ [g] ∧ vs = [.pointer (some ⟨b4, 0, none⟩), .int .i64 0] ∧ RGrp C w2 r g ∧ (∀ j v, r[j]? = some v → w2.cell? ((⟨b4, 0, none⟩ : Addr).add j) = some v) ∧ (∀ x, F' x → (F x ∨ W.heap.size ≤ x) ∧ x < w2.heap.size) ∧ HistR F' C w2 b sv ks uv' rv' ov h.max l (h.rs ++ [g]) false h.own ∧ Mod F W w2) ?_ ?_
  · rintro _ w2 (⟨hn, b4, rfl, hc, g2⟩ | ⟨l, g, b4, r, F', uv', rv', hlg, rfl, ⟨dv, uu, rfl, hd, hu⟩, hc, hF', hR2, m2⟩) _
    · simp only [nth_s, nth_z, List.headD_cons, List.tail_cons]
      rw [faK_i]
      refine ld1K_i (hc 1 _ rfl) ?_
      refine callK_mono (copy_dops (S := fun _ => False) (D := fun _ => False) (x := []) SlR.nil (by simp [mDops])) ?_
      rintro cv w3 ⟨_, g3⟩
      exact .inl ⟨hn, cv, rfl, g2.trans g3⟩
    · simp only [nth_s, nth_z, List.headD_cons, List.tail_cons]
      rw [faK_i]
      refine ld1K_i (hc 1 _ rfl) ?_
      refine callK_mono (copy_dops hu (hb g (by rw [hlg]; simp))) ?_
      rintro cv w3 ⟨o3, g3⟩
      exact .inr ⟨l, g, cv, w2.heap.size, hlg, rfl, m2.size, o3, F', hF', ⟨C, sv, uv', rv', ov, by rw [hop]; exact hR2.grow g3⟩, g3.size, m2.next g3 fun _ _ h => h.elim⟩
  have gd : Grow W W.drew := Mod.drew _ _
  have zd : W.drew.heap.size = W.heap.size := rfl
  refine drawC_i (fun k y => (k = 7 ∧ F y) ∨ (k = 12 ∧ W.heap.size ≤ y)) ?_
  refine nilckK_s ?_
  rw [faK_i, addr0]
  refine nilckK_s ?_
  rw [faK_i, addr0]
  refine ⟨?_, ?_⟩
  · refine callK_mono (moveU_ok (hR.grow gd) hl1 hl2 hF) ?_
    rintro _ w5 (⟨hn, rfl, g5⟩ | ⟨l, g, r, F', uv', rv', hlg, rfl, hr2, hg, hF', hR5, m5⟩)
    · refine ⟨g5.mono fun _ _ h => h.elim, ?_⟩
      refine extK_i (vs := [_, _]) (by rfl) (extK_i (vs := [_, _]) (by rfl) ?_)
      refine newz_i fun b4 w6 hb4 hz6 g6 _ hl6 => ⟨g6.mono fun _ _ h => h.elim, ?_⟩
      have z5 := g5.size
      refine stn_over (vs := [.slice none 0 0, .slice none 0 0]) rfl (fun u hu => by simp at hu; subst hu; rfl) (fun j hj => hl6 j hj) fun w7 m7 hc7 _ => ⟨m7.mono fun x _ e => .inr ⟨rfl, by omega⟩, .inl ⟨hn, b4, rfl, hc7, ((gd.trans g5).trans g6).next m7 fun x hx e => by omega⟩⟩
    · refine ⟨m5.mono fun x _ e => .inl ⟨rfl, e⟩, ?_⟩
      refine extK_i (vs := [_, _]) (by rfl) (extK_i (vs := [_, _]) (by rfl) ?_)
      refine newz_i fun b4 w6 hb4 hz6 g6 _ hl6 => ⟨g6.mono fun _ _ h => h.elim, ?_⟩
      have z5 := m5.size
      have hg6 := hg.mod g6 fun _ _ _ h => h
      have hR6 := hR5.grow g6
      refine stn_over (vs := r) hr2 hg6.one (fun j hj => hl6 j hj) fun w7 m7 hc7 _ => ⟨m7.mono fun x _ e => .inr ⟨rfl, by omega⟩, .inr ⟨l, g, b4, r, F', uv', rv', hlg, rfl, hg6.mod m7 fun x _ hx e => ?_, hc7, fun x hx => ?_, hR6.mod m7 fun x hx e => ?_, ?_⟩⟩
      · have := (hR5.cf x hx).2; omega
      · have := m7.size
        rcases hF' x hx with e | e
        · exact ⟨.inl e, by have := hF x e; omega⟩
        · exact ⟨.inr (by omega), by omega⟩
      · rcases hF' x hx with e' | e'
        · have := hF x e'; omega
        · omega
      · exact (((gd.mono fun _ _ h => h.elim : Mod F W W.drew).trans m5).next g6 fun _ _ h => h.elim).next m7 fun x hx e => by omega
  · refine newz_i fun b4 w8 hb4 hz8 g8 _ hl8 => ⟨g8.mono fun _ _ h => h.elim, ?_⟩
    have z8 := g8.size
    have hF8 : ∀ x, F x → x < w8.heap.size := fun x hx => by have := hF x hx; omega
    refine callK_mono (moveU_ok ((hR.grow gd).grow g8) hl1 hl2 hF8) ?_
    rintro _ w9 (⟨hn, rfl, g9⟩ | ⟨l, g, r, F', uv', rv', hlg, rfl, hr2, hg, hF', hR9, m9⟩)
    · refine ⟨g9.mono fun _ _ h => h.elim, ?_⟩
      refine extK_i (vs := [_, _]) (by rfl) (extK_i (vs := [_, _]) (by rfl) ?_)
      refine stn_over (vs := [.slice none 0 0, .slice none 0 0]) rfl (fun u hu => by simp at hu; subst hu; rfl) (fun j hj => (hl8 j hj).mod g9 fun h => h) fun w7 m7 hc7 _ => ⟨m7.mono fun x _ e => .inr ⟨rfl, by omega⟩, .inl ⟨hn, b4, rfl, hc7, ((gd.trans g8).trans g9).next m7 fun x hx e => by omega⟩⟩
    · refine ⟨m9.mono fun x _ e => .inl ⟨rfl, e⟩, ?_⟩
      refine extK_i (vs := [_, _]) (by rfl) (extK_i (vs := [_, _]) (by rfl) ?_)
      have z9 := m9.size
      have b4F : ¬ F b4 := fun e => by have := hF b4 e; omega
      refine stn_over (vs := r) hr2 hg.one (fun j hj => (hl8 j hj).mod m9 (by rw [add_block]; exact b4F)) fun w7 m7 hc7 _ => ⟨m7.mono fun x _ e => .inr ⟨rfl, by omega⟩, .inr ⟨l, g, b4, r, F', uv', rv', hlg, rfl, hg.mod m7 fun x _ hx e => ?_, hc7, fun x hx => ?_, hR9.mod m7 fun x hx e => ?_, ?_⟩⟩
      · exact b4F (e ▸ (hR.cf x hx).1)
      · have := m7.size
        rcases hF' x hx with e | e
        · exact ⟨.inl e, by have := hF x e; omega⟩
        · exact ⟨.inr (by omega), by omega⟩
      · rcases hF' x hx with e' | e'
        · exact b4F (e ▸ e')
        · omega
      · exact (((gd.trans g8).mono fun _ _ h => h.elim : Mod F W w8).trans m9).next m7 fun x hx e => by omega
theorem redo_ok (hh : HistI F W b ks h) (hop : h.op = false) (hl1 : h.us.length ≤ 65536) (hl2 : h.rs.length ≤ 65536) (hF : ∀ x, F x → x < W.heap.size) (hb : ∀ g ∈ h.rs, mDops g.d ≤ 1099511627776) :
    callK Tryz.prog 21 [.pointer (some ⟨b, 0, none⟩)] (fun v' w' => (h.rs = [] ∧ ∃ cv, v' = .tuple #[cv, .int .i64 10] ∧ Grow W w') ∨
      ∃ l g cv n, h.rs = l ++ [g] ∧ v' = .tuple #[cv, .int .i64 0] ∧ W.heap.size ≤ n ∧ ODops n w' cv g.d ∧ ∃ F', (∀ x, F' x → (F x ∨ W.heap.size ≤ x) ∧ x < n) ∧ HistI F' w' b ks { h with us := h.us ++ [g], rs := l } ∧ n ≤ w'.heap.size ∧ Mod F W w') W := by
  apply S21_ok
  unfold S21
  refine callK_mono (hready_ok hh) ?_
  rintro _ _ ⟨rfl, rfl⟩
  rename World => W
  obtain ⟨C, sv, uv, rv, ov, hR⟩ := hh
  rw [hop] at hR
  rw [notK_i]
  refine condK_f ?_
  refine JoinK_i (fun vs w2 => (h.rs = [] ∧ ∃ b4, vs = [.pointer (some ⟨b4, 0, none⟩), .int .i64 10] ∧ (∀ j v, ([.slice none 0 0, .slice none 0 0] : List Value)[j]? = some v → w2.cell? ((⟨b4, 0, none⟩ : Addr).add j) = some v) ∧ Grow W w2) ∨
    ∃ l g b4 r F' uv' rv', h.rs = l ++ [g] ∧ vs = [.pointer (some ⟨b4, 0, none⟩), .int .i64 0] ∧ RGrp C w2 r g ∧ (∀ j v, r[j]? = some v → w2.cell? ((⟨b4, 0, none⟩ : Addr).add j) = some v) ∧ (∀ x, F' x → (F x ∨ W.heap.size ≤ x) ∧ x < w2.heap.size) ∧ HistR F' C w2 b sv ks uv' rv' ov h.max (h.us ++ [g]) l false h.own ∧ Mod F W w2) ?_ ?_
  · rintro _ w2 (⟨hn, b4, rfl, hc, g2⟩ | ⟨l, g, b4, r, F', uv', rv', hlg, rfl, ⟨dv, uu, rfl, hd, hu⟩, hc, hF', hR2, m2⟩) _
    · simp only [nth_s, nth_z, List.headD_cons, List.tail_cons]
      rw [faK_i]
      refine ld1K_i (hc 0 _ rfl) ?_
      refine callK_mono (copy_dops (S := fun _ => False) (D := fun _ => False) (x := []) SlR.nil (by simp [mDops])) ?_
      rintro cv w3 ⟨_, g3⟩
      exact .inl ⟨hn, cv, rfl, g2.trans g3⟩
    · simp only [nth_s, nth_z, List.headD_cons, List.tail_cons]
      rw [faK_i]
      refine ld1K_i (hc 0 _ rfl) ?_
      refine callK_mono (copy_dops hd (hb g (by rw [hlg]; simp))) ?_
      rintro cv w3 ⟨o3, g3⟩
      exact .inr ⟨l, g, cv, w2.heap.size, hlg, rfl, m2.size, o3, F', hF', ⟨C, sv, uv', rv', ov, by rw [hop]; exact hR2.grow g3⟩, g3.size, m2.next g3 fun _ _ h => h.elim⟩
  have gd : Grow W W.drew := Mod.drew _ _
  have zd : W.drew.heap.size = W.heap.size := rfl
  refine drawC_i (fun k y => (k = 7 ∧ F y) ∨ (k = 12 ∧ W.heap.size ≤ y)) ?_
  refine nilckK_s ?_
  rw [faK_i, addr0]
  refine nilckK_s ?_
  rw [faK_i, addr0]
  refine ⟨?_, ?_⟩
  · refine callK_mono (moveR_ok (hR.grow gd) hl1 hl2 hF) ?_
    rintro _ w5 (⟨hn, rfl, g5⟩ | ⟨l, g, r, F', uv', rv', hlg, rfl, hr2, hg, hF', hR5, m5⟩)
    · refine ⟨g5.mono fun _ _ h => h.elim, ?_⟩
      refine extK_i (vs := [_, _]) (by rfl) (extK_i (vs := [_, _]) (by rfl) ?_)
      refine newz_i fun b4 w6 hb4 hz6 g6 _ hl6 => ⟨g6.mono fun _ _ h => h.elim, ?_⟩
      have z5 := g5.size
      refine stn_over (vs := [.slice none 0 0, .slice none 0 0]) rfl (fun u hu => by simp at hu; subst hu; rfl) (fun j hj => hl6 j hj) fun w7 m7 hc7 _ => ⟨m7.mono fun x _ e => .inr ⟨rfl, by omega⟩, .inl ⟨hn, b4, rfl, hc7, ((gd.trans g5).trans g6).next m7 fun x hx e => by omega⟩⟩
    · refine ⟨m5.mono fun x _ e => .inl ⟨rfl, e⟩, ?_⟩
      refine extK_i (vs := [_, _]) (by rfl) (extK_i (vs := [_, _]) (by rfl) ?_)
      refine newz_i fun b4 w6 hb4 hz6 g6 _ hl6 => ⟨g6.mono fun _ _ h => h.elim, ?_⟩
      have z5 := m5.size
      have hg6 := hg.mod g6 fun _ _ _ h => h
      have hR6 := hR5.grow g6
      refine stn_over (vs := r) hr2 hg6.one (fun j hj => hl6 j hj) fun w7 m7 hc7 _ => ⟨m7.mono fun x _ e => .inr ⟨rfl, by omega⟩, .inr ⟨l, g, b4, r, F', uv', rv', hlg, rfl, hg6.mod m7 fun x _ hx e => ?_, hc7, fun x hx => ?_, hR6.mod m7 fun x hx e => ?_, ?_⟩⟩
      · have := (hR5.cf x hx).2; omega
      · have := m7.size
        rcases hF' x hx with e | e
        · exact ⟨.inl e, by have := hF x e; omega⟩
        · exact ⟨.inr (by omega), by omega⟩
      · rcases hF' x hx with e' | e'
        · have := hF x e'; omega
        · omega
      · exact (((gd.mono fun _ _ h => h.elim : Mod F W W.drew).trans m5).next g6 fun _ _ h => h.elim).next m7 fun x hx e => by omega
  · refine newz_i fun b4 w8 hb4 hz8 g8 _ hl8 => ⟨g8.mono fun _ _ h => h.elim, ?_⟩
    have z8 := g8.size
    have hF8 : ∀ x, F x → x < w8.heap.size := fun x hx => by have := hF x hx; omega
    refine callK_mono (moveR_ok ((hR.grow gd).grow g8) hl1 hl2 hF8) ?_
    rintro _ w9 (⟨hn, rfl, g9⟩ | ⟨l, g, r, F', uv', rv', hlg, rfl, hr2, hg, hF', hR9, m9⟩)
    · refine ⟨g9.mono fun _ _ h => h.elim, ?_⟩
      refine extK_i (vs := [_, _]) (by rfl) (extK_i (vs := [_, _]) (by rfl) ?_)
      refine stn_over (vs := [.slice none 0 0, .slice none 0 0]) rfl (fun u hu => by simp at hu; subst hu; rfl) (fun j hj => (hl8 j hj).mod g9 fun h => h) fun w7 m7 hc7 _ => ⟨m7.mono fun x _ e => .inr ⟨rfl, by omega⟩, .inl ⟨hn, b4, rfl, hc7, ((gd.trans g8).trans g9).next m7 fun x hx e => by omega⟩⟩
    · refine ⟨m9.mono fun x _ e => .inl ⟨rfl, e⟩, ?_⟩
      refine extK_i (vs := [_, _]) (by rfl) (extK_i (vs := [_, _]) (by rfl) ?_)
      have z9 := m9.size
      have b4F : ¬ F b4 := fun e => by have := hF b4 e; omega
      refine stn_over (vs := r) hr2 hg.one (fun j hj => (hl8 j hj).mod m9 (by rw [add_block]; exact b4F)) fun w7 m7 hc7 _ => ⟨m7.mono fun x _ e => .inr ⟨rfl, by omega⟩, .inr ⟨l, g, b4, r, F', uv', rv', hlg, rfl, hg.mod m7 fun x _ hx e => ?_, hc7, fun x hx => ?_, hR9.mod m7 fun x hx e => ?_, ?_⟩⟩
      · exact b4F (e ▸ (hR.cf x hx).1)
      · have := m7.size
        rcases hF' x hx with e | e
        · exact ⟨.inl e, by have := hF x e; omega⟩
        · exact ⟨.inr (by omega), by omega⟩
      · rcases hF' x hx with e' | e'
        · exact b4F (e ▸ e')
        · omega
      · exact (((gd.trans g8).mono fun _ _ h => h.elim : Mod F W w8).trans m9).next m7 fun x hx e => by omega
end
/-- a history of the law's own (w0: the world in which the law began) -/
structure HL (w0 : World) (F : Nat → Prop) (W : World) (b : Nat) (ks : List DKey) (h : Hist) : Prop where
  his : HistI F W b ks h
  hF : ∀ x, F x → w0.heap.size ≤ x ∧ x < W.heap.size
  g : Grow w0 W
section
variable {w0 W W' : World} {F : Nat → Prop} {b : Nat} {ks : List DKey} {h h' : Hist}
theorem HL.grow (hh : HL w0 F W b ks h) (g : Grow W W') : HL w0 F W' b ks h := ⟨hh.his.grow g, fun x hx => ⟨(hh.hF x hx).1, Nat.lt_of_lt_of_le (hh.hF x hx).2 g.size⟩, hh.g.trans g⟩
theorem HL.after (hh : HL w0 F W b ks h) (ha : HAfter F W W' b ks h') : ∃ F', HL w0 F' W' b ks h' ∧ (∀ x, F' x → F x ∨ W.heap.size ≤ x) ∧ Mod F W W' := by
  obtain ⟨F', h1, h2, h3⟩ := ha
  have s := h3.size
  have s0 := hh.g.size
  refine ⟨F', ⟨h2, fun x hx => ?_, hh.g.next h3 fun x hx e => by have := (hh.hF x e).1; omega⟩, fun x hx => ?_, h3⟩
  · rcases h1 x hx with e | e
    · have := hh.hF x e; exact ⟨this.1, by omega⟩
    · exact ⟨by omega, e.2⟩
  · rcases h1 x hx with e | e
    · exact .inl e
    · exact .inr e.1
theorem HL.push {S D S' D' : Nat → Prop} {dv uu : Value} {x y : List Dop} (hh : HL w0 F W b ks h) (hop : h.op = false) (hl : h.us.length ≤ h.max) (hmx : h.max ≤ 65536) (hd : RDops S D W dv x) (hu : RDops S' D' W uu y) (bx : mDops x ≤ 1099511627776) (by' : mDops y ≤ 1099511627776) :
    callK Tryz.prog 18 [.pointer (some ⟨b, 0, none⟩), dv, uu] (fun v' w' => v' = .int .i64 0 ∧ ∃ F', HL w0 F' w' b ks { h with us := keepL h.max h.us ⟨x, y⟩, rs := [] } ∧ (∀ x, F' x → F x ∨ W.heap.size ≤ x) ∧ Mod F W w') W :=
  callK_mono (push_ok hh.his hop hl hmx hd hu bx by' fun x hx => (hh.hF x hx).2) fun _ _ h' => ⟨h'.1, hh.after h'.2⟩
theorem HL.undo (hh : HL w0 F W b ks h) (hop : h.op = false) (hl1 : h.us.length ≤ 65536) (hl2 : h.rs.length ≤ 65536) (hb : ∀ g ∈ h.us, mDops g.u ≤ 1099511627776) :
    callK Tryz.prog 19 [.pointer (some ⟨b, 0, none⟩)] (fun v' w' => (h.us = [] ∧ ∃ cv, v' = .tuple #[cv, .int .i64 10] ∧ Grow W w') ∨
      ∃ l g cv n F', h.us = l ++ [g] ∧ v' = .tuple #[cv, .int .i64 0] ∧ W.heap.size ≤ n ∧ ODops n w' cv g.u ∧ HL w0 F' w' b ks { h with us := l, rs := h.rs ++ [g] } ∧ (∀ x, F' x → (F x ∨ W.heap.size ≤ x) ∧ x < n) ∧ Mod F W w') W := by
  refine callK_mono (undo_ok hh.his hop hl1 hl2 (fun x hx => (hh.hF x hx).2) hb) ?_
  rintro v w' (h1 | ⟨l, g, cv, n, h1, h2, h3, h4, F', h5, h6, h7, h8⟩)
  · exact .inl h1
  · have s0 := hh.g.size
    refine .inr ⟨l, g, cv, n, F', h1, h2, h3, h4, ⟨h6, fun x hx => ?_, hh.g.next h8 fun x hx e => by have := (hh.hF x e).1; omega⟩, h5, h8⟩
    obtain ⟨e, hn⟩ := h5 x hx
    rcases e with e | e
    · exact ⟨(hh.hF x e).1, by omega⟩
    · exact ⟨by omega, by omega⟩
theorem HL.redo (hh : HL w0 F W b ks h) (hop : h.op = false) (hl1 : h.us.length ≤ 65536) (hl2 : h.rs.length ≤ 65536) (hb : ∀ g ∈ h.rs, mDops g.d ≤ 1099511627776) :
    callK Tryz.prog 21 [.pointer (some ⟨b, 0, none⟩)] (fun v' w' => (h.rs = [] ∧ ∃ cv, v' = .tuple #[cv, .int .i64 10] ∧ Grow W w') ∨
      ∃ l g cv n F', h.rs = l ++ [g] ∧ v' = .tuple #[cv, .int .i64 0] ∧ W.heap.size ≤ n ∧ ODops n w' cv g.d ∧ HL w0 F' w' b ks { h with us := h.us ++ [g], rs := l } ∧ (∀ x, F' x → (F x ∨ W.heap.size ≤ x) ∧ x < n) ∧ Mod F W w') W := by
  refine callK_mono (redo_ok hh.his hop hl1 hl2 (fun x hx => (hh.hF x hx).2) hb) ?_
  rintro v w' (h1 | ⟨l, g, cv, n, h1, h2, h3, h4, F', h5, h6, h7, h8⟩)
  · exact .inl h1
  · have s0 := hh.g.size
    refine .inr ⟨l, g, cv, n, F', h1, h2, h3, h4, ⟨h6, fun x hx => ?_, hh.g.next h8 fun x hx e => by have := (hh.hF x e).1; omega⟩, h5, h8⟩
    obtain ⟨e, hn⟩ := h5 x hx
    rcases e with e | e
    · exact ⟨(hh.hF x e).1, by omega⟩
    · exact ⟨by omega, by omega⟩
end
end Go.Proofs.YtlbaopamhkmepaaGreatDoor

namespace Go.K
open Go
/-- a new row of one element -/
theorem OwnR.row1 {α : Type} {B e k : Nat} {R : World → List Value → α → Prop} {w : World} {cs : List Value} {x : α} (hB : B ≤ w.heap.size) (hcs : cs.length = k) (h1 : ∀ u ∈ cs, u.oneCell' = true) (hx : R (w.alloc (.cells cs.toArray e)) cs x) :
    OwnR B e k R (w.alloc (.cells cs.toArray e)) (.slice (some ⟨w.heap.size, 0, none⟩) 1 1) [x] := by
  refine ⟨[cs], ⟨by simp [hcs], .inr ⟨w.heap.size, 1, cs.toArray, rfl, hB, heap_alloc_new w _, by simp, by simp [maxLen], by simp [hcs], by simp [← hcs]⟩⟩, rfl, fun r hr => ?_, fun i r y hr hy => ?_⟩
  · simp only [List.mem_singleton] at hr
    subst hr
    exact ⟨hcs, h1⟩
  · have hi : i = 0 := by have := (List.getElem?_eq_some_iff.1 hr).1; simp at this; exact this
    subst hi
    cases hr; cases hy
    exact hx
end Go.K
namespace Go.Proofs.YtlbaopamhkmepaaGreatDoor
open Go Go.K

def insO (r : Int) : Dop := ⟨2, 0, [r], [], []⟩
def delO (n : Int) : Dop := ⟨3, n, [], [], []⟩
/-- an insert of one rune, and what takes it away -/
theorem in_ok {r : Int} {w : World} : callK Tryz.prog 17 [.int .i32 r] (fun v' w' => Grow w w' ∧ ∃ dv uv, v' = .tuple #[dv, uv] ∧ ODops w.heap.size w' dv [insO r] ∧ ODops w.heap.size w' uv [delO 1] ∧ (∀ g, uv.ownBlock = some g → dv.ownBlock ≠ some g ∧ (∀ x, w.heap.size ≤ x → x < w'.heap.size → x = g ∨ x < g))) w := by
  apply S17_ok
  unfold S17
  refine rowK_i (cs := [.int .i32 r]) (by kernel_rfl) ?_
  have g1 : Grow w (w.alloc (.cells [Value.int .i32 r].toArray 21)) := Mod.alloc _ _ _
  have o1 : OwnR w.heap.size 21 1 RRune (w.alloc (.cells [Value.int .i32 r].toArray 21)) (.slice (some ⟨w.heap.size, 0, none⟩) 1 1) [r] := OwnR.row1 (Nat.le_refl _) rfl (fun u hu => by simp at hu; subst hu; rfl) rfl
  have z1 : (w.alloc (.cells [Value.int .i32 r].toArray 21)).heap.size = w.heap.size + 1 := by simp
  generalize w.alloc (.cells [Value.int .i32 r].toArray 21) = w1 at g1 o1 z1 ⊢
  refine ⟨#[.int .u8 2, .int .i64 0, .slice (some ⟨w.heap.size, 0, none⟩) 1 1, .slice none 0 0, .slice none 0 0], by kernel_rfl, ?_⟩
  refine rowK_i (cs := [.int .u8 2, .int .i64 0, .slice (some ⟨w.heap.size, 0, none⟩) 1 1, .slice none 0 0, .slice none 0 0]) (by kernel_rfl) ?_
  have g2 : Grow w1 (w1.alloc (.cells [Value.int .u8 2, .int .i64 0, .slice (some ⟨w.heap.size, 0, none⟩) 1 1, .slice none 0 0, .slice none 0 0].toArray 39)) := Mod.alloc _ _ _
  have o2 : ODops w.heap.size (w1.alloc (.cells [Value.int .u8 2, .int .i64 0, .slice (some ⟨w.heap.size, 0, none⟩) 1 1, .slice none 0 0, .slice none 0 0].toArray 39)) (.slice (some ⟨w1.heap.size, 0, none⟩) 1 1) [insO r] := by
    refine OwnR.row1 (by omega) rfl (fun u hu => by simp at hu; rcases hu with rfl | rfl | rfl | rfl <;> rfl) ⟨_, _, _, rfl, ⟨OwnR.mod (o1.base fun _ _ => Nat.zero_le _) g2 (fun _ _ h => h) fun _ _ _ h => h, fun g hg => ?_⟩, ⟨OwnR.nil, fun g hg => nomatch hg⟩, ⟨OwnR.nil, fun g hg => nomatch hg⟩⟩
    have e : w.heap.size = g := Option.some.inj hg
    exact ⟨by omega, fun e2 => by have e3 : w1.heap.size = g := Option.some.inj e2; omega⟩
  have z2 : (w1.alloc (.cells [Value.int .u8 2, .int .i64 0, .slice (some ⟨w.heap.size, 0, none⟩) 1 1, .slice none 0 0, .slice none 0 0].toArray 39)).heap.size = w1.heap.size + 1 := by simp
  generalize w1.alloc (.cells [Value.int .u8 2, .int .i64 0, .slice (some ⟨w.heap.size, 0, none⟩) 1 1, .slice none 0 0, .slice none 0 0].toArray 39) = w2 at g2 o2 z2 ⊢
  refine ⟨#[.int .u8 3, .int .i64 1, .slice none 0 0, .slice none 0 0, .slice none 0 0], by kernel_rfl, ?_⟩
  refine rowK_i (cs := [.int .u8 3, .int .i64 1, .slice none 0 0, .slice none 0 0, .slice none 0 0]) (by kernel_rfl) ?_
  have g3 : Grow w2 (w2.alloc (.cells [Value.int .u8 3, .int .i64 1, .slice none 0 0, .slice none 0 0, .slice none 0 0].toArray 39)) := Mod.alloc _ _ _
  refine ⟨(g1.trans g2).trans g3, _, _, rfl, ODops.grow o2 g3 fun _ _ _ h => h, ?_, fun g hg => ?_⟩
  · exact OwnR.row1 (by omega) rfl (fun u hu => by simp at hu; rcases hu with rfl | rfl | rfl <;> rfl) ⟨_, _, _, rfl, ⟨OwnR.nil, fun g hg => nomatch hg⟩, ⟨OwnR.nil, fun g hg => nomatch hg⟩, ⟨OwnR.nil, fun g hg => nomatch hg⟩⟩
  · have e : w2.heap.size = g := Option.some.inj hg
    refine ⟨fun e2 => by have e3 : w1.heap.size = g := Option.some.inj e2; omega, fun x _ hx => ?_⟩
    have : (w2.alloc (.cells [Value.int .u8 3, .int .i64 1, .slice none 0 0, .slice none 0 0, .slice none 0 0].toArray 39)).heap.size = w2.heap.size + 1 := by simp
    omega
/-- what was told and stays: it lies between lo and hi, the history does not -/
structure HK (F : Nat → Prop) (W : World) (lo hi : Nat) (v : Value) (l : List Dop) : Prop where
  rd : RDops (fun z => lo ≤ z ∧ z < hi) (fun z => lo ≤ z ∧ z < hi) W v l
  sz : hi ≤ W.heap.size
  ap : ∀ x, F x → x < lo ∨ hi ≤ x
theorem HK.next {F F' : Nat → Prop} {W W' : World} {lo hi : Nat} {v : Value} {l : List Dop} (h : HK F W lo hi v l) (hm : Mod F W W') (hF : ∀ x, F' x → F x ∨ W.heap.size ≤ x) : HK F' W' lo hi v l := by
  have hn : ∀ b, b < W.heap.size → (lo ≤ b ∧ b < hi) → ¬ F b := fun b _ hb hf => by rcases h.ap b hf with e | e <;> omega
  refine ⟨h.rd.mod hm hn hn, Nat.le_trans h.sz hm.size, fun x hx => ?_⟩
  rcases hF x hx with e | e
  · exact h.ap x e
  · have := h.sz; exact .inr (by omega)
theorem HK.grow {F : Nat → Prop} {W W' : World} {lo hi : Nat} {v : Value} {l : List Dop} (h : HK F W lo hi v l) (g : Grow W W') : HK F W' lo hi v l := ⟨h.rd.grow g, Nat.le_trans h.sz g.size, h.ap⟩
theorem HK.new {F : Nat → Prop} {W : World} {n : Nat} {v : Value} {l : List Dop} (h : ODops n W v l) (hF : ∀ x, F x → x < n ∨ W.heap.size ≤ x) : HK F W n W.heap.size v l := ⟨ODops.reads h, Nat.le_refl _, hF⟩
theorem mins (r : Int) : mDops [insO r] ≤ 1099511627776 := by simp [mDops, mDop, insO, mSet, mPat]
theorem mdel (n : Int) : mDops [delO n] ≤ 1099511627776 := by simp [mDops, mDop, delO, mSet, mPat]
def gin (r n : Int) : Grp := ⟨[insO r], [delO n]⟩
end Go.Proofs.YtlbaopamhkmepaaGreatDoor

namespace Go.Proofs.YtlbaopamhkmepaaGreatDoor
open Go Go.K

theorem newnil_ok {w : World} : callK Tryz.prog 14 [.slice none 0 0] (fun v' w' => Grow w w' ∧ ∃ sv, v' = .tuple #[sv, .int .i64 0] ∧ SchR (fun x => w.heap.size ≤ x) w' sv []) w := by
  refine callK_mono (new_key_ok (S := fun _ => False) (keys := []) SlR.nil) ?_
  rintro v w' ⟨g, hr⟩
  refine ⟨g, ?_⟩
  rcases hr with ⟨_, sv, ks, rfl, hp, _, hS⟩ | ⟨hn, _⟩
  · have : ks = [] := List.perm_nil.1 hp
    subst this
    exact ⟨sv, rfl, hS⟩
  · exact absurd ((mayk_iff (keys := [])).2 ⟨by simp, (fun x hx => by simp at hx), List.Pairwise.nil⟩) hn
theorem HL.new {w0 W : World} {C : Nat → Prop} {sv : Value} {ks : List DKey} {mx : Nat} (hS : SchR C W sv ks) (hC : ∀ x, x < W.heap.size → C x → w0.heap.size ≤ x) (g : Grow w0 W) (hmx : mx ≤ 65536) :
    callK Tryz.prog 15 [sv, .int .i64 mx] (fun v' w' => ∃ b F, v' = .tuple #[.pointer (some ⟨b, 0, none⟩), .int .i64 0] ∧ HL w0 F w' b ks ⟨mx, [], [], false, []⟩) W := by
  refine callK_mono (hnew_ok hS hmx) ?_
  rintro _ w' ⟨g', b, hb, rfl, hH⟩
  have := g.size
  have := g'.size
  exact ⟨b, _, rfl, hH, fun x hx => by rcases hx with ⟨h1, h2⟩ | ⟨h1, h2⟩; exact ⟨hC x h2 h1, by omega⟩; exact ⟨by omega, h2⟩, g.trans g'⟩
theorem concat_inj {α : Type} {l l' : List α} {g g' : α} (h : l ++ [g] = l' ++ [g']) : l = l' ∧ g = g' := by
  have := List.append_inj' h rfl
  exact ⟨this.1, by simpa using this.2⟩
/-- the three groups of the known case -/
def kus : Nat → List Grp
  | 0 => []
  | 1 => [gin 97 1]
  | 2 => [gin 97 1, gin 98 1]
  | _ => [gin 98 1, gin 99 1]
set_option maxRecDepth 20000 in
theorem known27_ok {w : World} : callK Tryz.prog 16 [] (fun v w' => v = .bool true ∧ Grow w w') w := by
  apply S16_ok
  unfold S16
  refine callK_mono newnil_ok ?_
  rintro _ w1 ⟨g1, sv, rfl, hS⟩
  refine extK_i (vs := [_, _]) (by rfl) (extK_i (vs := [_, _]) (by rfl) ?_)
  refine callK_mono (HL.new (mx := 2) hS (fun x _ hx => hx) g1 (by decide)) ?_
  rintro _ w2 ⟨b, F, rfl, hH⟩
  refine extK_i (vs := [_, _]) (by rfl) (extK_i (vs := [_, _]) (by rfl) ?_)
  refine JoinK_i (fun _ W => W = w2) ?_ ?_
  rotate_left
  · rw [neK_i]
    refine condK_neg (fun _ => ?_) fun e => (e rfl).elim
    rw [neK_i]
    refine condK_neg (fun _ => ?_) fun e => (e rfl).elim
    exact pnilK_s (condK_f rfl)
  rintro _ _ rfl _
  rename World => w2
  refine runK_i (v := .agg #[.int .i32 97, .int .i32 98, .int .i32 99]) (w' := w2) (by kernel_rfl) ?_
  refine LoopK_i (fun vs W => ∃ (i : Nat) (F : Nat → Prop), i ≤ 3 ∧ vs = [.int .i64 i] ∧ HL w F W b [] ⟨2, kus i, [], false, []⟩) (fun vs _ => 3 - iOf vs 0) ⟨0, F, by omega, rfl, hH⟩ ?_
  rintro vs W ⟨i, F, hi, rfl, hH⟩ _
  rw [nth_z, List.headD_cons, ltK_i]
  refine condK_p (fun hlt => ?_) fun hge => ?_
  · have step : ∀ (r : Int), keepL 2 (kus i) (gin r 1) = kus (i + 1) → (kus i).length ≤ 2 → (Instr.index 93 (.agg #[.int .i32 97, .int .i32 98, .int .i32 99]) (.int .i64 i)).run Tryz.prog W = .ok (.int .i32 r) W →
        runK Tryz.prog (Instr.index 93 (.agg #[.int .i32 97, .int .i32 98, .int .i32 99]) (.int .i64 i)) (fun t43 w6 => callK Tryz.prog 17 [t43] (fun t46 w7 => extK 0 t46 fun t47 => extK 1 t46 fun t48 => callK Tryz.prog 18 [.pointer (some ⟨b, 0, none⟩), t47, t48] (fun t52 w8 => neK .i64 t52 (.int .i64 0) fun t53 => condK t53 ((.bool false : Value) = .bool true ∧ Grow w w8) (addK .i64 (.int .i64 i) (.int .i64 1) fun t54 => (∃ (i : Nat) (F : Nat → Prop), i ≤ 3 ∧ [t54] = [.int .i64 (i : Int)] ∧ HL w F w8 b [] ⟨2, kus i, [], false, []⟩) ∧ 3 - iOf [t54] 0 < 3 - iOf [.int .i64 (i : Int)] 0)) w7) w6) W := by
      intro r hk hl hrun
      refine runK_i hrun (callK_mono in_ok ?_)
      rintro _ w7 ⟨g7, dv, uv, rfl, hd, hu, _⟩
      refine extK_i (vs := [_, _]) (by rfl) (extK_i (vs := [_, _]) (by rfl) ?_)
      refine callK_mono ((hH.grow g7).push rfl hl (show 2 ≤ 65536 by decide) (ODops.sl hd) (ODops.sl hu) (mins r) (mdel 1)) ?_
      rintro _ w8 ⟨rfl, F8, hH8, _, _⟩
      have hH8' : HL w F8 w8 b [] ⟨2, kus (i + 1), [], false, []⟩ := by rw [← hk]; exact hH8
      rw [neK_i]
      refine condK_neg (fun _ => ?_) fun e => (e rfl).elim
      rw [addK_i, loop_step (by omega)]
      exact ⟨⟨i + 1, F8, by omega, rfl, hH8'⟩, by rw [iOf0, iOf0]; omega⟩
    rcases (show i = 0 ∨ i = 1 ∨ i = 2 by omega) with rfl | rfl | rfl
    · exact step 97 rfl (by decide) (by kernel_rfl)
    · exact step 98 rfl (by decide) (by kernel_rfl)
    · exact step 99 rfl (by decide) (by kernel_rfl)
  obtain rfl : i = 3 := by omega
  have b8 : ∀ (us : List Grp), (∀ g ∈ us, g = gin 97 1 ∨ g = gin 98 1 ∨ g = gin 99 1) → (∀ g ∈ us, mDops g.u ≤ 1099511627776) ∧ ∀ g ∈ us, mDops g.d ≤ 1099511627776 := fun us h => ⟨fun g hg => by rcases h g hg with rfl | rfl | rfl <;> exact mdel 1, fun g hg => by rcases h g hg with rfl | rfl | rfl <;> exact mins _⟩
  -- undone: c
  refine callK_mono (hH.undo rfl (by simp [kus]) (by simp) (b8 _ (by simp [kus])).1) ?_
  rintro _ w9 (⟨hn, _⟩ | ⟨l, g, cx, n9, F9, hlg, rfl, hn9, ox, hH9, hF9, m9⟩)
  · cases hn
  obtain ⟨rfl, rfl⟩ := concat_inj (l := [gin 98 1]) (g := gin 99 1) hlg
  have kx : HK F9 w9 n9 w9.heap.size cx [delO 1] := HK.new ox fun x hx => .inl (hF9 x hx).2
  have hH9' : HL w F9 w9 b [] ⟨2, [gin 98 1], [gin 99 1], false, []⟩ := hH9
  refine extK_i (vs := [_, _]) (by rfl) (extK_i (vs := [_, _]) (by rfl) ?_)
  -- undone: b
  refine callK_mono (hH9'.undo rfl (by simp) (by simp) (b8 _ (by simp)).1) ?_
  rintro _ w10 (⟨hn, _⟩ | ⟨l, g, c10, n10, F10, hlg, rfl, hn10, _, hH10, hF10, m10⟩)
  · cases hn
  obtain ⟨rfl, rfl⟩ := concat_inj (l := []) (g := gin 98 1) hlg
  have kx10 := kx.next m10 fun x hx => (hF10 x hx).1
  have hH10' : HL w F10 w10 b [] ⟨2, [], [gin 99 1, gin 98 1], false, []⟩ := hH10
  refine extK_i (vs := [_, _]) (by rfl) (extK_i (vs := [_, _]) (by rfl) ?_)
  -- no more
  refine callK_mono (hH10'.undo rfl (by simp) (by simp) (by simp)) ?_
  rintro _ w11 (⟨_, c11, rfl, g11⟩ | ⟨l, g, _, _, _, hlg, _⟩)
  rotate_left
  · exact absurd hlg (by simp)
  refine extK_i (vs := [_, _]) (by rfl) (extK_i (vs := [_, _]) (by rfl) ?_)
  have hH11 := hH10'.grow g11
  have kx11 := kx10.grow g11
  -- done again: b
  refine callK_mono (hH11.redo rfl (by simp) (by simp) (b8 _ (by simp)).2) ?_
  rintro _ w12 (⟨hn, _⟩ | ⟨l, g, cy, n12, F12, hlg, rfl, hn12, oy, hH12, hF12, m12⟩)
  · cases hn
  obtain ⟨rfl, rfl⟩ := concat_inj (l := [gin 99 1]) (g := gin 98 1) hlg
  have hH12' : HL w F12 w12 b [] ⟨2, [gin 98 1], [gin 99 1], false, []⟩ := hH12
  have kx12 := kx11.next m12 fun x hx => (hF12 x hx).1
  have ky : HK F12 w12 n12 w12.heap.size cy [insO 98] := HK.new oy fun x hx => .inl (hF12 x hx).2
  refine extK_i (vs := [_, _]) (by rfl) (extK_i (vs := [_, _]) (by rfl) ?_)
  refine callK_mono in_ok ?_
  rintro _ w13 ⟨g13, dv, uv, rfl, hd, hu, _⟩
  refine extK_i (vs := [_, _]) (by rfl) (extK_i (vs := [_, _]) (by rfl) ?_)
  have hH13 := hH12'.grow g13
  refine callK_mono (depths_ok hH13.his) ?_
  rintro _ w14 ⟨rfl, g14⟩
  refine extK_i (vs := [_, _]) (by rfl) (extK_i (vs := [_, _]) (by rfl) ?_)
  have hH14 := hH13.grow g14
  rw [eqK_i]; refine condK_p (fun _ => ?_) fun e => (e rfl).elim
  rw [eqK_i]; refine condK_p (fun _ => ?_) fun e => (e rfl).elim
  rw [eqK_i]; refine condK_p (fun _ => ?_) fun e => (e rfl).elim
  rw [eqK_i]; refine condK_p (fun _ => ?_) fun e => (e rfl).elim
  have g24 := g13.trans g14
  refine callK_mono (rsame_dops (kx12.grow g24).rd (ODops.sl (ODops.grow hu g14 fun _ _ _ h => h))) ?_
  rintro _ w15 ⟨rfl, g15⟩
  rw [decide_eq_true rfl]
  refine condK_t ?_
  refine callK_mono (rsame_dops (ky.grow (g24.trans g15)).rd (ODops.sl (ODops.grow hd (g14.trans g15) fun _ _ _ h => h))) ?_
  rintro _ w16 ⟨rfl, g16⟩
  rw [decide_eq_true rfl]
  refine condK_t ?_
  rw [eqK_i]; refine condK_p (fun _ => ?_) fun e => (e rfl).elim
  rw [eqK_i]; refine condK_p (fun _ => ?_) fun e => (e rfl).elim
  have g46 := (g14.trans g15).trans g16
  have hH16 := (hH14.grow g15).grow g16
  refine callK_mono (hH16.push rfl (by simp) (by simp) (ODops.sl (ODops.grow hd g46 fun _ _ _ h => h)) (ODops.sl (ODops.grow hu g46 fun _ _ _ h => h)) (mins 98) (mdel 1)) ?_
  rintro _ w17 ⟨rfl, F17, hH17, _, _⟩
  rw [eqK_i]; refine condK_p (fun _ => ?_) fun e => (e rfl).elim
  refine callK_mono (begin_ok hH17.his) ?_
  rintro _ w18 (⟨h1, _⟩ | ⟨_, rfl, ha⟩)
  · cases h1
  obtain ⟨F18, hH18, _, _⟩ := hH17.after ha
  rw [eqK_i]; refine condK_p (fun _ => ?_) fun e => (e rfl).elim
  refine callK_mono (begin_ok hH18.his) ?_
  rintro _ w19 (⟨_, rfl, rfl⟩ | ⟨h1, _⟩)
  rotate_left
  · cases h1
  rw [eqK_i]; refine condK_p (fun _ => ?_) fun e => (e rfl).elim
  refine callK_mono (open_ok hH18.his) ?_
  rintro _ _ ⟨rfl, rfl⟩
  exact ⟨rfl, hH18.g⟩
end Go.Proofs.YtlbaopamhkmepaaGreatDoor

namespace Go.Proofs.YtlbaopamhkmepaaGreatDoor
open Go Go.K

/-! ### patches one behind the other -/
abbrev RisP (l : List Chg) : Prop := l.Pairwise fun a b => a.key < b.key
abbrev RisS (l : List Attr) : Prop := l.Pairwise fun a b => a.key < b.key
/-! ### patches on sets -/
def without (l : List Attr) (k : Int) : List Attr := l.filter fun a => decide (a.key ≠ k)
end Go.Proofs.YtlbaopamhkmepaaGreatDoor

namespace Go.Proofs.YtlbaopamhkmepaaGreatDoor
open Go Go.K

/-! ### deltas cut in ones, one behind the other -/
def lenN (o : Dop) : Nat := if o.kind = 2 then o.runes.length else o.n.toNat
/-! #### the maker cannot tell an op from its parts -/
/-! #### reading: the first op's first part -/
def restO (n : Nat) (o : Dop) : Dop := if o.kind = 2 then ⟨2, o.n, o.runes.drop n, o.set, o.patch⟩ else ⟨o.kind, o.n - n, o.runes, o.set, o.patch⟩
/-- what is left behind n -/
def behind (n : Nat) : List Dop → List Dop
  | [] => []
  | o :: x => if n < lenN o then restO n o :: x else x
/-! #### the steps of both readers -/
section
variable {one : Dop → Dop → List Dop}
end
/-! ### what composing makes of ones -/
end Go.Proofs.YtlbaopamhkmepaaGreatDoor

namespace Go.Proofs.YtlbaopamhkmepaaGreatDoor
open Go Go.K

/-! ### what normal forms and composed deltas are made of -/
def Good (PS : List Attr → Prop) (PP : List Chg → Prop) (o : Dop) : Prop := (o.kind = 1 ∧ o.runes = [] ∧ o.set = [] ∧ 1 ≤ o.n ∧ PP o.patch) ∨ (o.kind = 3 ∧ o.runes = [] ∧ o.set = [] ∧ o.patch = [] ∧ 1 ≤ o.n) ∨
  (o.kind = 2 ∧ (∀ r ∈ o.runes, MayR r) ∧ o.n = 0 ∧ o.patch = [] ∧ o.runes ≠ [] ∧ PS o.set)
section
variable {PS : List Attr → Prop} {PP : List Chg → Prop}
end
/-! ### what may be, composed, may be -/
section
variable {ks : List DKey}
/-- a set, a patch of the keys -/
def SetK (ks : List DKey) (l : List Attr) : Prop := RisS l ∧ l.length ≤ 64 ∧ ∀ a ∈ l, ValOK a.val ∧ FitsK ks a.key a.val
def PatK (ks : List DKey) (p : List Chg) : Prop := RisP p ∧ p.length ≤ 64 ∧ ∀ c ∈ p, (c.gone = true → c.val = AVal.zero) ∧ (c.gone = false → ValOK c.val ∧ FitsK ks c.key c.val) ∧ findK ks c.key ≠ none
theorem setK_nil : SetK ks [] := ⟨List.Pairwise.nil, by simp, by simp⟩
theorem patK_nil : PatK ks [] := ⟨List.Pairwise.nil, by simp, by simp⟩
/-- deltas that may be -/
abbrev GoodK (ks : List DKey) (o : Dop) : Prop := Good (SetK ks) (PatK ks) o
theorem GoodK.form {o : Dop} (h : GoodK ks o) (hl : lenN o ≤ 536870912) : FormO o ∧ SetK ks o.set ∧ PatK ks o.patch := by
  rcases h with ⟨h1, h2, h3, h4, h5⟩ | ⟨h1, h2, h3, h4, h5⟩ | ⟨h1, h2, h3, h4, h5, h6⟩
  · simp only [lenN, h1, show ¬ (1 : Int) = 2 by decide, if_false] at hl
    exact ⟨.inl ⟨h1, h2, h3, h4, by omega⟩, by rw [h3]; exact setK_nil, h5⟩
  · simp only [lenN, h1, show ¬ (3 : Int) = 2 by decide, if_false] at hl
    exact ⟨.inr (.inl ⟨h1, h2, h3, h4, h5, by omega⟩), by rw [h3]; exact setK_nil, by rw [h4]; exact patK_nil⟩
  · simp only [lenN, h1, if_true] at hl
    exact ⟨.inr (.inr ⟨h1, h2, h3, h4, List.length_pos_iff.2 h5, hl⟩), h6, by rw [h4]; exact patK_nil⟩
theorem FormO.good {o : Dop} (h : FormO o) (hs : SetK ks o.set) (hp : PatK ks o.patch) : GoodK ks o ∧ lenN o ≤ 536870912 := by
  rcases h with ⟨h1, h2, h3, h4, h5⟩ | ⟨h1, h2, h3, h4, h5, h6⟩ | ⟨h1, h2, h3, h4, h5, h6⟩
  · exact ⟨.inl ⟨h1, h2, h3, h4, hp⟩, by simp only [lenN, h1, show ¬ (1 : Int) = 2 by decide, if_false]; omega⟩
  · exact ⟨.inr (.inl ⟨h1, h2, h3, h4, h5⟩), by simp only [lenN, h1, show ¬ (3 : Int) = 2 by decide, if_false]; omega⟩
  · exact ⟨.inr (.inr ⟨h1, h2, h3, h4, by intro e; rw [e] at h5; simp at h5, hs⟩), by simp only [lenN, h1, if_true]; exact h6⟩
end
end Go.Proofs.YtlbaopamhkmepaaGreatDoor

namespace Go.K
open Go
/-- a row that grows, seen from a world in which it was another one -/
def RowIn (ov0 : Value) (w4 W : World) (ov : Value) : Prop := Mod (fun b => ov0.ownBlock = some b) w4 W ∧ ∀ b, ov.ownBlock = some b → ov0.ownBlock = some b ∨ w4.heap.size ≤ b
section
variable {ov0 ov v' : Value} {w w4 W W' : World}
theorem RowIn.grow (h : RowIn ov0 w4 W ov) (g : Grow W W') : RowIn ov0 w4 W' ov := ⟨h.1.next g fun _ _ e => e.elim, h.2⟩
theorem RowIn.push (h : RowIn ov0 w4 W ov) (m : Mod (fun b => ov.ownBlock = some b) W W') (hv : ∀ g, v'.ownBlock = some g → ov.ownBlock = some g ∨ W.heap.size ≤ g) : RowIn ov0 w4 W' v' :=
  ⟨h.1.next m fun b hb e => by rcases h.2 b e with e | e; exact e; omega, fun b hb => by
    rcases hv b hb with e | e
    · exact h.2 b e
    · exact .inr (Nat.le_trans h.1.size e)⟩
theorem RowIn.g (h : RowIn ov0 w4 W ov) (g : Grow w w4) (hB : ∀ b, ov0.ownBlock = some b → w.heap.size ≤ b) : Grow w W := g.next h.1 fun b hb e => by have := hB b e; omega
end
end Go.K
namespace Go.Proofs.YtlbaopamhkmepaaGreatDoor
open Go Go.K

end Go.Proofs.YtlbaopamhkmepaaGreatDoor

namespace Go.Proofs.YtlbaopamhkmepaaGreatDoor
open Go Go.K
def orN (a b : Int) : Int := ((a.toNat ||| b.toNat : Nat) : Int)
def HiB (x : Int) (j : Nat) : Prop := x.toNat.testBit (8 * j + 7) = true
theorem HiB.l {a b : Int} {j : Nat} (h : HiB a j) : HiB (orN a b) j := by
  unfold HiB orN at *
  rw [Int.toNat_natCast, Nat.testBit_or, h, Bool.true_or]
theorem HiB.r {a b : Int} {j : Nat} (h : HiB b j) : HiB (orN a b) j := by
  unfold HiB orN at *
  rw [Int.toNat_natCast, Nat.testBit_or, h, Bool.or_true]
end Go.Proofs.YtlbaopamhkmepaaGreatDoor

namespace Go.K
open Go
end Go.K
namespace Go.Proofs.YtlbaopamhkmepaaGreatDoor
open Go Go.K

abbrev ByteL (b : List Int) : Prop := ∀ x ∈ b, 0 ≤ x ∧ x < 256
theorem ByteL.getD {b : List Int} (h : ByteL b) (j : Nat) : 0 ≤ b.getD j 0 ∧ b.getD j 0 < 256 := by
  rw [List.getD_eq_getElem?_getD]
  cases e : b[j]? with
  | none => simp
  | some x => exact h x (List.mem_iff_getElem?.2 ⟨j, e⟩)
theorem ByteL.drop {b : List Int} (h : ByteL b) (j : Nat) : ByteL (b.drop j) := fun x hx => h x (List.mem_of_mem_drop hx)
end Go.Proofs.YtlbaopamhkmepaaGreatDoor

namespace Go.K
open Go
theorem addr_at (g o x : Nat) : (⟨g, o, none⟩ : Addr).add x = ⟨g, o + x, none⟩ := by unfold Addr.add; split <;> simp_all
/-- cells in a row written over -/
theorem setL_at {g off : Nat} : ∀ (vs : List Value) (q : Nat) (W : World), (∀ j, q ≤ j → j < q + vs.length → Live W ⟨g, off + j, none⟩) →
    Mod (fun x => x = g) W (setL W ⟨g, off, none⟩ q vs) ∧ (∀ j u, vs[j]? = some u → (setL W ⟨g, off, none⟩ q vs).cell? ⟨g, off + q + j, none⟩ = some u) ∧ (∀ j, (j < off + q ∨ off + q + vs.length ≤ j) → (setL W ⟨g, off, none⟩ q vs).cell? ⟨g, j, none⟩ = W.cell? ⟨g, j, none⟩) ∧ (∀ a, Live W a → Live (setL W ⟨g, off, none⟩ q vs) a) := by
  intro vs
  induction vs with
  | nil => intro q W _; exact ⟨Mod.refl _ _, fun j u hu => by simp at hu, fun _ _ => rfl, fun _ h => h⟩
  | cons x vs ih =>
    intro q W hl
    simp only [setL]
    rw [addr_at]
    have hl0 := hl q (Nat.le_refl _) (by simp)
    obtain ⟨i1, i2, i3, i4⟩ := ih (q + 1) (W.setCell ⟨g, off + q, none⟩ x) fun j h1 h2 => (hl j (by omega) (by simp; omega)).set _ _
    refine ⟨(Mod.setCell (M := fun x => x = g) W ⟨g, off + q, none⟩ x rfl).trans i1, fun j u hu => ?_, fun j hj => ?_, fun a ha => i4 a (ha.set _ _)⟩
    · cases j with
      | zero =>
        simp at hu; subst hu
        obtain ⟨u', hu'⟩ := Option.isSome_iff_exists.1 hl0.1
        rw [i3 _ (.inl (by omega))]
        exact World.cell?_setCell_same _ _ _ hu'
      | succ j =>
        have := i2 j u (by simpa using hu)
        rw [show off + q + (j + 1) = off + (q + 1) + j by omega]; exact this
    · simp only [List.length_cons] at hj
      rw [i3 j (by omega), World.cell?_setCell_other _ _ _ _ (by intro e; simp only [Addr.mk.injEq] at e; omega)]
/-- elements side by side in a block, to be written over -/
structure RowG {α : Type} (k : Nat) (cs : α → List Value) (W : World) (g : Nat) (L : List α) : Prop where
  cells : ∀ m (h : m < L.length) j u, (cs L[m])[j]? = some u → W.cell? ⟨g, m * k + j, none⟩ = some u
  live : ∀ m j, m < L.length → j < k → Live W ⟨g, m * k + j, none⟩
section
variable {α : Type} {k : Nat} {cs : α → List Value} {W W' : World} {g : Nat} {L : List α}
theorem RowG.mod {M : Nat → Prop} (h : RowG k cs W g L) (m : Mod M W W') (hg : ¬ M g) : RowG k cs W' g L := ⟨fun i hi j u hu => m.cell (h.cells i hi j u hu) hg, fun i j hi hj => (h.live i j hi hj).mod m hg⟩
theorem RowG.store {i : Nat} {x : α} {K : World → Prop} (h : RowG k cs W g L) (hi : i < L.length) (hk : ∀ y, (cs y).length = k) (h1 : ∀ v ∈ cs x, v.oneCell' = true)
    (hK : ∀ W', RowG k cs W' g (L.set i x) → Mod (fun b => b = g) W W' → K W') : stnK k (.pointer (some ⟨g, i * k, none⟩)) (.agg (cs x).toArray) K W := by
  have lv : ∀ j, j < k → Live W ((⟨g, i * k, none⟩ : Addr).add j) := fun j hj => by rw [addr_at]; exact h.live i j hi hj
  obtain ⟨q1, q2, q3, q4⟩ := setL_at (g := g) (off := i * k) (cs x) 0 W fun j _ hj => h.live i j hi (by have := hk x; omega)
  refine ⟨_, cs x, rfl, rfl, hk x, h1, fun j hj => lv j hj, hK _ ⟨fun m hm j u hu => ?_, fun m j hm hj => q4 _ (h.live m j (by simpa using hm) hj)⟩ q1⟩
  rw [List.getElem_set] at hu
  split at hu
  · rename_i e
    subst e
    have := q2 j u hu
    rwa [Nat.add_zero] at this
  · rename_i hne
    have hm' : m < L.length := by simpa using hm
    have hj : j < k := by have := (List.getElem?_eq_some_iff.1 hu).1; rw [hk] at this; exact this
    rw [q3]
    · exact h.cells m hm' j u hu
    · rw [hk]
      rcases Nat.lt_or_gt_of_ne hne with e | e
      · right
        have : (i + 1) * k ≤ m * k := Nat.mul_le_mul_right _ e
        rw [Nat.add_mul] at this; omega
      · left
        have : (m + 1) * k ≤ i * k := Nat.mul_le_mul_right _ e
        rw [Nat.add_mul] at this; omega
theorem RowG.of {B e n c : Nat} {R : World → List Value → α → Prop} (h : OwnR B e k R W (.slice (some ⟨g, 0, none⟩) n c) L) (hk : 0 < k) (hR : ∀ r x, R W r x → r = cs x) : RowG k cs W g L := by
  refine ⟨fun m hm j u hu => ?_, fun m j hm hj => ?_⟩
  · obtain ⟨rows, h1, h2, h3, h4⟩ := id h
    obtain ⟨a, r, e1, _, hr, hc, hx⟩ := (OwnR.sl h).get hm
    cases e1
    have := hc j u (by rw [hR _ _ hx]; exact hu)
    rwa [addr_at, Nat.zero_add] at this
  · obtain ⟨g', e1, _, hl⟩ := OwnR.live h hm hj
    cases e1
    rwa [addr_at, Nat.zero_add] at hl
end
end Go.K
namespace Go.Proofs.YtlbaopamhkmepaaGreatDoor
open Go Go.K

theorem Chg.len (c : Chg) : c.cells.length = 6 := rfl
end Go.Proofs.YtlbaopamhkmepaaGreatDoor

namespace Go.Proofs.YtlbaopamhkmepaaGreatDoor
open Go Go.K

/-- an insert of one rune, and what takes it away, whose number may still be written over -/
theorem in2_ok {r : Int} {w : World} : callK Tryz.prog 17 [.int .i32 r] (fun v' w' => Grow w w' ∧ ∃ dv g, v' = .tuple #[dv, .slice (some ⟨g, 0, none⟩) 1 1] ∧ w.heap.size ≤ g ∧ g < w'.heap.size ∧ RDops (fun z => w.heap.size ≤ z ∧ z < g) (fun z => w.heap.size ≤ z ∧ z < g) w' dv [insO r] ∧
    (∀ j v, ([.int .u8 3, .int .i64 1, .slice none 0 0, .slice none 0 0, .slice none 0 0] : List Value)[j]? = some v → w'.cell? ⟨g, j, none⟩ = some v) ∧ ∀ j, j < 5 → Live w' ⟨g, j, none⟩) w := by
  apply S17_ok
  unfold S17
  refine rowK_i (cs := [.int .i32 r]) (by kernel_rfl) ?_
  have g1 : Grow w (w.alloc (.cells [Value.int .i32 r].toArray 21)) := Mod.alloc _ _ _
  have o1 : OwnR w.heap.size 21 1 RRune (w.alloc (.cells [Value.int .i32 r].toArray 21)) (.slice (some ⟨w.heap.size, 0, none⟩) 1 1) [r] := OwnR.row1 (Nat.le_refl _) rfl (fun u hu => by simp at hu; subst hu; rfl) rfl
  have z1 : (w.alloc (.cells [Value.int .i32 r].toArray 21)).heap.size = w.heap.size + 1 := by simp
  generalize w.alloc (.cells [Value.int .i32 r].toArray 21) = w1 at g1 o1 z1 ⊢
  refine ⟨#[.int .u8 2, .int .i64 0, .slice (some ⟨w.heap.size, 0, none⟩) 1 1, .slice none 0 0, .slice none 0 0], by kernel_rfl, ?_⟩
  refine rowK_i (cs := [.int .u8 2, .int .i64 0, .slice (some ⟨w.heap.size, 0, none⟩) 1 1, .slice none 0 0, .slice none 0 0]) (by kernel_rfl) ?_
  have g2 : Grow w1 (w1.alloc (.cells [Value.int .u8 2, .int .i64 0, .slice (some ⟨w.heap.size, 0, none⟩) 1 1, .slice none 0 0, .slice none 0 0].toArray 39)) := Mod.alloc _ _ _
  have o2 : ODops w.heap.size (w1.alloc (.cells [Value.int .u8 2, .int .i64 0, .slice (some ⟨w.heap.size, 0, none⟩) 1 1, .slice none 0 0, .slice none 0 0].toArray 39)) (.slice (some ⟨w1.heap.size, 0, none⟩) 1 1) [insO r] := by
    refine OwnR.row1 (by omega) rfl (fun u hu => by simp at hu; rcases hu with rfl | rfl | rfl | rfl <;> rfl) ⟨_, _, _, rfl, ⟨OwnR.mod (o1.base fun _ _ => Nat.zero_le _) g2 (fun _ _ h => h) fun _ _ _ h => h, fun g hg => ?_⟩, ⟨OwnR.nil, fun g hg => nomatch hg⟩, ⟨OwnR.nil, fun g hg => nomatch hg⟩⟩
    have e : w.heap.size = g := Option.some.inj hg
    exact ⟨by omega, fun e2 => by have e3 : w1.heap.size = g := Option.some.inj e2; omega⟩
  have z2 : (w1.alloc (.cells [Value.int .u8 2, .int .i64 0, .slice (some ⟨w.heap.size, 0, none⟩) 1 1, .slice none 0 0, .slice none 0 0].toArray 39)).heap.size = w1.heap.size + 1 := by simp
  generalize w1.alloc (.cells [Value.int .u8 2, .int .i64 0, .slice (some ⟨w.heap.size, 0, none⟩) 1 1, .slice none 0 0, .slice none 0 0].toArray 39) = w2 at g2 o2 z2 ⊢
  refine ⟨#[.int .u8 3, .int .i64 1, .slice none 0 0, .slice none 0 0, .slice none 0 0], by kernel_rfl, ?_⟩
  refine rowK_i (cs := [.int .u8 3, .int .i64 1, .slice none 0 0, .slice none 0 0, .slice none 0 0]) (by kernel_rfl) ?_
  have g3 : Grow w2 (w2.alloc (.cells [Value.int .u8 3, .int .i64 1, .slice none 0 0, .slice none 0 0, .slice none 0 0].toArray 39)) := Mod.alloc _ _ _
  refine ⟨(g1.trans g2).trans g3, _, w2.heap.size, rfl, by omega, by simp, RDops.grow (ODops.reads o2) g3, fun j v hv => by have := cell_box (w := w2) (t := 39) hv; rwa [addr0] at this, fun j hj => ⟨?_, World.frozen?_alloc_new ..⟩⟩
  rw [World.cell?_alloc_new]; simp [hj]
theorem hnew_bad {sv : Value} {mx : Int} {W : World} (h : mx < 0 ∨ 65536 < mx) : callK Tryz.prog 15 [sv, .int .i64 mx] (fun v' w' => v' = .tuple #[.pointer none, .int .i64 2] ∧ w' = W) W := by
  apply S15_ok
  unfold S15
  refine JoinK_i (fun _ _ => False) (fun _ _ h => h.elim) ?_
  rw [ltK_i]
  refine condK_p (fun _ => ⟨rfl, rfl⟩) fun h1 => ?_
  rw [gtK_i]
  exact condK_p (fun _ => ⟨rfl, rfl⟩) fun h2 => by omega
/-- the rune and the number that a number tells -/
def rB (n : Int) : Int := IntKind.i32.wrap (IntKind.u64.wrap (97 + (IntKind.u64.wrap n).tmod 26))
def nB (n : Int) : Int := IntKind.i64.wrap (1 + IntKind.i64.wrap ((IntKind.u64.wrap n).tmod 9))
def gB (n : Int) : Grp := gin (rB n) (nB n)
theorem keep_back {gs : List Grp} {mx i : Nat} (hi : i < gs.length) : keepL mx ((gs.take i).drop (i - mx)) gs[i] = (gs.take (i + 1)).drop (i + 1 - mx) := by
  have e : (gs.take i).drop (i - mx) ++ [gs[i]] = (gs.take (i + 1)).drop (i - mx) := by
    rw [List.take_add_one, List.getElem?_eq_getElem hi, Option.toList, List.drop_append_of_le_length (by simp; omega)]
  unfold keepL
  rw [e]
  have hl : ((gs.take i).drop (i - mx)).length = i - (i - mx) := by simp; omega
  rw [hl]
  split
  · rw [show i + 1 - mx = i - mx by omega]
  · rw [List.drop_drop]; congr 1; omega
theorem gB_small {l : List Int} {us : List Grp} (h : ∀ g ∈ us, g ∈ l.map gB) : (∀ g ∈ us, mDops g.u ≤ 1099511627776) ∧ ∀ g ∈ us, mDops g.d ≤ 1099511627776 :=
  ⟨fun g hg => by obtain ⟨n, _, rfl⟩ := List.mem_map.1 (h g hg); exact mdel _, fun g hg => by obtain ⟨n, _, rfl⟩ := List.mem_map.1 (h g hg); exact mins _⟩
theorem take_last {α : Type} {U : List α} {j : Nat} (hj : j < U.length) : U.take (j + 1) = U.take j ++ [U[j]] := by rw [List.take_add_one, List.getElem?_eq_getElem hj]; rfl
set_option maxRecDepth 20000 in
theorem HistoryBack_ok {S : Nat → Prop} {max : Int} {lv : Value} {l : List Int} {w : World} (hl : SlR S 1 RNum w lv l) :
    callK Tryz.prog 3 [.int .i64 max, lv] (fun v w' => v = .bool true ∧ Grow w w') w := by
  apply S3_ok
  unfold S3
  have kn : ∀ {w1 : World}, Grow w w1 → callK Tryz.prog 16 [] (fun v w' => v = .bool true ∧ Grow w w') w1 := fun g => callK_mono known27_ok fun _ _ h => ⟨h.1, g.trans h.2⟩
  obtain ⟨la, lc, rfl, _⟩ := hl.shape
  refine callK_mono newnil_ok ?_
  rintro _ w1 ⟨g1, sv, rfl, hS⟩
  refine extK_i (vs := [_, _]) (by rfl) (extK_i (vs := [_, _]) (by rfl) ?_)
  by_cases hmx : max < 0 ∨ 65536 < max
  · refine callK_mono (hnew_bad hmx) ?_
    rintro _ _ ⟨rfl, rfl⟩
    rename World => w1
    refine extK_i (vs := [_, _]) (by rfl) (extK_i (vs := [_, _]) (by rfl) ?_)
    refine JoinK_i (fun _ _ => False) (fun _ _ h => h.elim) ?_
    rw [neK_i]
    refine condK_neg (fun _ => ?_) fun _ => kn g1
    rw [neK_i]
    exact condK_neg (fun e => absurd e (by decide)) fun _ => kn g1
  obtain ⟨mx, rfl⟩ : ∃ m : Nat, max = m := ⟨max.toNat, by omega⟩
  refine callK_mono (HL.new (mx := mx) hS (fun x _ hx => hx) g1 (by omega)) ?_
  rintro _ w2 ⟨b, F, rfl, hH⟩
  refine extK_i (vs := [_, _]) (by rfl) (extK_i (vs := [_, _]) (by rfl) ?_)
  refine JoinK_i (fun _ W => W = w2 ∧ l.length ≤ 40) ?_ ?_
  rotate_left
  · rw [neK_i]
    refine condK_neg (fun _ => ?_) fun e => (e rfl).elim
    rw [neK_i]
    refine condK_neg (fun _ => ?_) fun e => (e rfl).elim
    refine pnilK_s (condK_f ?_)
    rw [lenK_i, gtK_i]
    exact condK_p (fun _ => kn hH.g) fun h => ⟨rfl, by omega⟩
  rintro _ _ ⟨rfl, hl40⟩ _
  rename World => w2
  rw [lenK_i]
  obtain ⟨gs, hgs⟩ : ∃ gs, gs = l.map gB := ⟨_, rfl⟩
  have hgl : gs.length = l.length := by rw [hgs, List.length_map]
  have hget : ∀ i (h : i < l.length), gs[i]'(by omega) = gB l[i] := fun i h => by simp [hgs]
  have rl : ∀ {W : World}, Grow w W → ∀ {i : Nat} (h : i < l.length) {K : Cont}, K (.int .i64 l[i]) W → ixK 1 (.slice la l.length lc) (.int .i64 (i : Int)) fun t => ld1K t K W := fun g i h K hk => by
    obtain ⟨p, r, rfl, _, hr, hc, rfl⟩ := (hl.grow g (by decide) fun _ _ h => h).get h
    exact ixK_n h (ld1K_i (by have := hc 0 _ rfl; exact this) hk)
  have cu : ∀ {n : Int} {K : Cont} {W : World}, K (.int .u64 (IntKind.u64.wrap n)) W → runK Tryz.prog (convert 3 34 (.int .i64 n)) K W := fun hk => conv_i (by kernel_rfl) (by kernel_rfl) hk
  have ci : ∀ {n : Int} {K : Cont} {W : World}, K (.int .i64 (IntKind.i64.wrap n)) W → runK Tryz.prog (convert 34 3 (.int .u64 n)) K W := fun hk => conv_i (by kernel_rfl) (by kernel_rfl) hk
  have cr : ∀ {n : Int} {K : Cont} {W : World}, K (.int .i32 (IntKind.i32.wrap n)) W → runK Tryz.prog (convert 34 21 (.int .u64 n)) K W := fun hk => conv_i (by kernel_rfl) (by kernel_rfl) hk
  refine LoopK_i (fun vs W => ∃ (i : Nat) (F : Nat → Prop), i ≤ l.length ∧ vs = [.int .i64 i] ∧ HL w F W b [] ⟨mx, (gs.take i).drop (i - mx), [], false, []⟩) (fun vs _ => l.length - iOf vs 0) ⟨0, F, by omega, rfl, by simpa using hH⟩ ?_
  clear hH
  rintro vs W ⟨i, F, hi, rfl, hH⟩ _
  rw [nth_z, List.headD_cons, ltK_i]
  refine condK_p (fun hlt => ?_) fun hge => ?_
  · have hlt' : i < l.length := by omega
    refine rl hH.g hlt' ?_
    refine cu (rem_i (by decide) ?_)
    rw [addK_i]
    refine cr ?_
    refine callK_mono in2_ok ?_
    rintro _ w3 ⟨g3, dv, g, rfl, hg1, hg2, hd, hc, hlv⟩
    refine extK_i (vs := [_, _]) (by rfl) (extK_i (vs := [_, _]) (by rfl) ?_)
    refine cu (rem_i (by decide) (ci ?_))
    rw [addK_i]
    refine ixK_n (j := 0) (by decide) ?_
    rw [faK_i, Addr.add_add, addr0]
    refine box_store (b := g) (vs := [.int .u8 3, .int .i64 1, .slice none 0 0, .slice none 0 0, .slice none 0 0]) (q := 1) hc (fun j hj => hlv j hj) (by decide) rfl rfl fun w4 m4 hc4 _ => ?_
    have hH4 : HL w F w4 b [] ⟨mx, (gs.take i).drop (i - mx), [], false, []⟩ := by
      have h3 := hH.grow g3
      have hgF : ∀ x, F x → ¬ x = g := fun x hx e => by have := (hH.hF x hx).2; omega
      exact ⟨h3.his.mod m4 hgF, fun x hx => ⟨(h3.hF x hx).1, Nat.lt_of_lt_of_le (h3.hF x hx).2 m4.size⟩, h3.g.next m4 fun x hx e => by have := hH.g.size; omega⟩
    have hu4 : RDops (fun z => z = g) (fun _ => False) w4 (.slice (some ⟨g, 0, none⟩) 1 1) [delO (nB l[i])] := by
      refine ⟨_, 1, rfl, Nat.le_refl _, by simp [maxLen], fun q x hx => ?_⟩
      have hq : q = 0 := by have := (List.getElem?_eq_some_iff.1 hx).1; simp at this; exact this
      subst hq
      simp at hx; subst hx
      exact ⟨_, _, rfl, rfl, rfl, fun j u hu => by rw [addr_at]; simpa using hc4 j u hu, _, _, _, rfl, SlR.nil, SlR.nil, SlR.nil⟩
    have hd4 := RDops.mod hd m4 (fun z _ hz e => by have := hz.2; omega) fun z _ hz e => by have := hz.2; omega
    refine callK_mono (hH4.push rfl (by simp; omega) (show mx ≤ 65536 by omega) hd4 hu4 (mins _) (mdel _)) ?_
    rintro _ w5 ⟨rfl, F5, hH5, _, _⟩
    rw [neK_i]
    refine condK_neg (fun _ => ?_) fun e => (e rfl).elim
    rw [addK_i, loop_step (by omega)]
    refine ⟨⟨i + 1, F5, hlt', rfl, ?_⟩, by rw [iOf0, iOf0]; omega⟩
    have e := keep_back (gs := gs) (mx := mx) (i := i) (by omega)
    rw [hget i hlt'] at e
    rw [← e]
    exact hH5
  obtain rfl : i = l.length := by omega
  rw [lenK_i, minK_i]
  obtain ⟨k, hk⟩ : ∃ k : Nat, k = min mx l.length := ⟨_, rfl⟩
  rw [show (if (l.length : Int) < (mx : Int) then (l.length : Int) else (mx : Int)) = (k : Int) by split <;> omega]
  obtain ⟨U, hU⟩ : ∃ U, U = gs.drop (l.length - mx) := ⟨_, rfl⟩
  have hUl : U.length = k := by rw [hU, List.length_drop]; omega
  have hUget : ∀ j (h : j < k), U[j]'(by omega) = gB (l[l.length - k + j]'(by omega)) := fun j h => by
    subst hU
    rw [List.getElem_drop, ← hget _ (by omega)]
    congr 1; omega
  have hUm : ∀ g ∈ U, g ∈ l.map gB := fun g hg => by rw [hU, hgs] at hg; exact List.mem_of_mem_drop hg
  rw [← hgl, List.take_length, hgl, ← hU] at hH
  have hkm : k ≤ mx := by omega
  have hk40 : k ≤ 40 := by omega
  refine LoopK_i (fun vs W => ∃ (i : Nat) (F : Nat → Prop), i ≤ 2 ∧ vs = [.int .i64 i] ∧ HL w F W b [] ⟨mx, U, [], false, []⟩) (fun vs _ => 2 - iOf vs 0) ⟨0, F, by omega, rfl, hH⟩ ?_
  clear hH hi hge
  rintro vs W ⟨rd, F, hrd, rfl, hH⟩ _
  rw [nth_z, List.headD_cons, ltK_i]
  refine condK_p (fun hrl => ?_) fun hrg => kn hH.g
  refine LoopK_i (fun vs W => ∃ (i : Nat) (F : Nat → Prop), i ≤ k ∧ vs = [.int .i64 i] ∧ HL w F W b [] ⟨mx, U.take (k - i), (U.drop (k - i)).reverse, false, []⟩) (fun vs _ => k - iOf vs 0) ⟨0, F, by omega, rfl, by rw [Nat.sub_zero, List.take_of_length_le (by omega), List.drop_eq_nil_of_le (by omega)]; exact hH⟩ ?_
  clear hH
  rintro vs W ⟨i, F, hi, rfl, hH⟩ _
  simp only [nth_s, nth_z, List.headD_cons, List.tail_cons]
  rw [ltK_i]
  refine condK_p (fun hlt => ?_) fun hge => ?_
  · have hlt' : i < k := by omega
    rw [lenK_i, subK_i, wrap64 (by omega) (by omega), subK_i, wrap64 (by omega) (by omega), show ((l.length : Int) - 1 - (i : Int)) = ((l.length - 1 - i : Nat) : Int) by omega]
    refine rl hH.g (by omega) ?_
    refine callK_mono (hH.undo rfl (by simp; omega) (by simp; omega) (gB_small fun g hg => hUm g (List.mem_of_mem_take hg)).1) ?_
    rintro _ w9 (⟨hn, _⟩ | ⟨l', g, cx, n9, F9, hlg, rfl, hn9, ox, hH9, hF9, m9⟩)
    · have := congrArg List.length hn
      simp only [List.length_take, List.length_nil] at this
      omega
    have e1 : k - i = k - (i + 1) + 1 := by omega
    have hlg' := hlg
    simp only at hlg'
    rw [e1, take_last (by omega)] at hlg'
    obtain ⟨rfl, rfl⟩ := concat_inj hlg'
    have eg : U[k - (i + 1)]'(by omega) = gB (l[l.length - 1 - i]'(by omega)) := by
      rw [hUget _ (by omega)]
      congr 2; omega
    refine extK_i (vs := [_, _]) (by rfl) (extK_i (vs := [_, _]) (by rfl) ?_)
    rw [eg] at ox hH9
    have hH9' : HL w F9 w9 b [] ⟨mx, U.take (k - (i + 1)), (U.drop (k - (i + 1))).reverse, false, []⟩ := by
      rw [show U.drop (k - (i + 1)) = gB (l[l.length - 1 - i]'(by omega)) :: U.drop (k - i) by rw [List.drop_eq_getElem_cons (by omega), eg, e1], List.reverse_cons]
      exact hH9
    refine JoinK_i (fun _ W => W = w9) ?_ ?_
    rotate_left
    · rw [neK_i]
      refine condK_neg (fun _ => ?_) fun e => (e rfl).elim
      have rx := ODops.sl ox
      obtain ⟨xa, xc, rfl, _⟩ := rx.shape
      rw [lenK_i, neK_i]
      refine condK_neg (fun _ => ?_) fun e => (e rfl).elim
      obtain ⟨p, r, rfl, _, hr, hc, rv, sv', pv, rfl, _⟩ := rx.get (i := 0) (by simp [gB, gin])
      refine ixK_n (j := 0) (by simp [gB, gin]) ?_
      rw [faK_i, Addr.add_add]
      refine ld1K_i (hc 1 _ rfl) ?_
      refine cu (rem_i (by decide) (ci ?_))
      rw [addK_i, neK_i]
      exact condK_neg (fun _ => rfl) fun e => (e rfl).elim
    rintro _ _ rfl _
    rename World => w9
    refine callK_mono (depths_ok hH9'.his) ?_
    rintro _ w10 ⟨rfl, g10⟩
    refine extK_i (vs := [_, _]) (by rfl) (extK_i (vs := [_, _]) (by rfl) ?_)
    rw [subK_i, wrap64 (by omega) (by omega), subK_i, wrap64 (by omega) (by omega), neK_i]
    refine condK_neg (fun _ => ?_) fun e => (e (by simp; omega)).elim
    rw [addK_i, neK_i, wrap64 (by omega) (by omega)]
    refine condK_neg (fun _ => ?_) fun e => (e (by simp; omega)).elim
    rw [addK_i, loop_step (by omega)]
    exact ⟨⟨i + 1, F9, by omega, rfl, hH9'.grow g10⟩, by rw [iOf0, iOf0]; omega⟩
  obtain rfl : i = k := by omega
  rw [Nat.sub_self, List.take_zero, List.drop_zero] at hH
  refine callK_mono (hH.undo rfl (by simp) (by simp; omega) (by simp)) ?_
  rintro _ w11 (⟨_, cv, rfl, g11⟩ | ⟨l', g, _, _, _, hlg, _⟩)
  rotate_left
  · exact absurd hlg (by simp)
  refine extK_i (vs := [_, _]) (by rfl) (extK_i (vs := [_, _]) (by rfl) ?_)
  rw [neK_i]
  refine condK_neg (fun _ => ?_) fun e => (e rfl).elim
  have hH11 := hH.grow g11
  refine LoopK_i (fun vs W => ∃ (j : Nat) (F : Nat → Prop), j ≤ i ∧ vs = [.int .i64 j] ∧ HL w F W b [] ⟨mx, U.take j, (U.drop j).reverse, false, []⟩) (fun vs _ => i - iOf vs 0) ⟨0, F, by omega, rfl, hH11⟩ ?_
  clear hH hH11 hi hge
  rintro vs W ⟨j, F, hj, rfl, hH⟩ _
  simp only [nth_s, nth_z, List.headD_cons, List.tail_cons]
  rw [ltK_i]
  refine condK_p (fun hlt => ?_) fun hge => ?_
  · have hlt' : j < i := by omega
    rw [lenK_i, subK_i, wrap64 (by omega) (by omega), addK_i, wrap64 (by omega) (by omega), show ((l.length : Int) - (i : Int) + (j : Int)) = ((l.length - i + j : Nat) : Int) by omega]
    refine rl hH.g (by omega) ?_
    refine cu (rem_i (by decide) ?_)
    rw [addK_i]
    refine cr ?_
    refine callK_mono in_ok ?_
    rintro _ w3 ⟨g3, dv, uv, rfl, hd, hu, _⟩
    refine extK_i (vs := [_, _]) (by rfl) (extK_i (vs := [_, _]) (by rfl) ?_)
    have hH3 := hH.grow g3
    have kd : HK F w3 W.heap.size w3.heap.size dv [insO (rB (l[l.length - i + j]'(by omega)))] := HK.new hd fun x hx => .inl (hH.hF x hx).2
    refine callK_mono (hH3.redo rfl (by simp; omega) (by simp; omega) (gB_small fun g hg => hUm g (List.mem_of_mem_drop (List.mem_reverse.1 hg))).2) ?_
    rintro _ w9 (⟨hn, _⟩ | ⟨l', g, cx, n9, F9, hlg, rfl, hn9, ox, hH9, hF9, m9⟩)
    · have := congrArg List.length hn
      simp only [List.length_reverse, List.length_drop, List.length_nil] at this
      omega
    have hlg' := hlg
    simp only at hlg'
    rw [List.drop_eq_getElem_cons (by omega), List.reverse_cons] at hlg'
    obtain ⟨rfl, rfl⟩ := concat_inj hlg'
    have eg : U[j]'(by omega) = gB (l[l.length - i + j]'(by omega)) := hUget _ hlt'
    have hH9' : HL w F9 w9 b [] ⟨mx, U.take (j + 1), (U.drop (j + 1)).reverse, false, []⟩ := by
      rw [take_last (by omega)]; exact hH9
    rw [eg] at ox
    have kd9 := kd.next m9 fun x hx => (hF9 x hx).1
    refine extK_i (vs := [_, _]) (by rfl) (extK_i (vs := [_, _]) (by rfl) ?_)
    rw [neK_i]
    refine condK_neg (fun _ => ?_) fun e => (e rfl).elim
    refine callK_mono (rsame_dops (ODops.sl ox) kd9.rd) ?_
    rintro _ w10 ⟨rfl, g10⟩
    have eD : decide ((gB (l[l.length - i + j]'(by omega))).d = [insO (rB (l[l.length - i + j]'(by omega)))]) = true := decide_eq_true rfl
    rw [eD, notK_i]
    refine condK_f ?_
    rw [addK_i, loop_step (by omega)]
    exact ⟨⟨j + 1, F9, by omega, rfl, hH9'.grow g10⟩, by rw [iOf0, iOf0]; omega⟩
  obtain rfl : j = i := by omega
  rw [List.take_of_length_le (by omega), List.drop_eq_nil_of_le (by omega), List.reverse_nil] at hH
  refine callK_mono (hH.redo rfl (by simp; omega) (by simp) (by simp)) ?_
  rintro _ w12 (⟨_, cv, rfl, g12⟩ | ⟨l', g, _, _, _, hlg, _⟩)
  rotate_left
  · exact absurd hlg (by simp)
  refine extK_i (vs := [_, _]) (by rfl) (extK_i (vs := [_, _]) (by rfl) ?_)
  rw [neK_i]
  refine condK_neg (fun _ => ?_) fun e => (e rfl).elim
  rw [gtK_i]
  refine condK_p (fun e => by omega) fun _ => ?_
  rw [addK_i, loop_step (by omega)]
  exact ⟨⟨rd + 1, F, by omega, rfl, hH.grow g12⟩, by rw [iOf0, iOf0]; omega⟩
end Go.Proofs.YtlbaopamhkmepaaGreatDoor

namespace Go.K
open Go
variable {H : Type} {enc : TypeId × Value → H} {P : Program} {w : World} {base : Nat} {spare : Nat → Bool} {held : Bool}
theorem SlR.of_trod {α : Type} {t e k : Nat} {R : World → List Value → α → Prop} {fuel : Nat} {cs : List Value} {x : DataW H × List MemPlace} (ht : P.underlying t = some (.slice e)) (hk : P.cellsOf e = k)
    (hel : ∀ n cs' y, DataW.trod enc P w base spare held n e cs' = some y → ∃ x, R w cs' x) (h : DataW.trod enc P w base spare held fuel t cs = some x) :
    ∃ v l, cs = [v] ∧ SlR (fun _ => True) k R w v l := by
  rcases Go.Deep.open_slice ht h with ⟨rfl, _⟩ | ⟨a, len, cap, m, n, D, Pl, rfl, hb, hl, hm, hmm, _, hall⟩
  · exact ⟨_, [], rfl, SlR.nil⟩
  · have hlm : len ≤ m := by rw [hmm]; split <;> omega
    have one : ∀ i, i < len → ∃ (cs' : List Value) (x : α), cs'.length = k ∧ (∀ j u, cs'[j]? = some u → w.cell? (a.add (i * k + j)) = some u) ∧ R w cs' x := by
      intro i hi
      obtain ⟨cs', h1, h2⟩ := hall i (by omega)
      obtain ⟨x, hx⟩ := hel n cs' _ h2
      obtain ⟨_, hlen, hc⟩ := World.cells?_some h1
      rw [hk] at hlen hc
      refine ⟨cs', x, hlen, fun j u hu => ?_, hx⟩
      have hj : j < k := by rw [← hlen]; exact (List.getElem?_eq_some_iff.1 hu).1
      have := hc j hj
      rw [Addr.add_add] at this
      rw [this]; exact hu
    have build : ∀ q, q ≤ len → ∃ l : List α, l.length = q ∧ ∀ i x, l[i]? = some x → ∃ cs' : List Value, cs'.length = k ∧ (∀ j u, cs'[j]? = some u → w.cell? (a.add (i * k + j)) = some u) ∧ R w cs' x := by
      intro q
      induction q with
      | zero => exact fun _ => ⟨[], rfl, fun i x h => by simp at h⟩
      | succ q ih =>
        intro hq
        obtain ⟨l, h1, h2⟩ := ih (by omega)
        obtain ⟨cs', x, h3, h4, h5⟩ := one q (by omega)
        refine ⟨l ++ [x], by simp [h1], fun i y hy => ?_⟩
        by_cases hi : i < q
        · rw [List.getElem?_append_left (by omega)] at hy; exact h2 i y hy
        · have : i = q := by have := (List.getElem?_eq_some_iff.1 hy).1; simp [h1] at this; omega
          subst this
          rw [List.getElem?_append_right (by omega)] at hy
          simp [h1] at hy; subst hy
          exact ⟨cs', h3, h4, h5⟩
    obtain ⟨l, h1, h2⟩ := build len (Nat.le_refl _)
    subst h1
    refine ⟨_, l, rfl, a, cap, rfl, hl, hm, fun i x hx => ?_⟩
    obtain ⟨cs', h3, h4, h5⟩ := h2 i x hx
    exact ⟨a, cs', rfl, trivial, h3, h4, h5⟩
end Go.K
namespace Go.Proofs.YtlbaopamhkmepaaGreatDoor
open Go Go.K
open Go.ChangeShapes Go.Joins
variable {H : Type} {enc : TypeId × Value → H} {w : World} {base : Nat} {spare : Nat → Bool} {held : Bool}
end Go.Proofs.YtlbaopamhkmepaaGreatDoor

namespace Go.Proofs.YtlbaopamhkmepaaGreatDoor
open Go Go.K

/-- the library's table of first bytes, from 128 on; the ranges of second bytes -/
def firstT (x : Int) : Int := if x < 194 then 241 else if x < 224 then 2 else if x = 224 then 19 else if x = 237 then 35 else if x < 240 then 3 else if x = 240 then 52 else if x < 244 then 4 else if x = 244 then 68 else 241
def accLo (j : Nat) : Int := if j = 1 then 160 else if j = 3 then 144 else if j < 5 then 128 else 0
def accHi (j : Nat) : Int := if j = 2 then 159 else if j = 4 then 143 else if j < 5 then 191 else 0
/-- the tables lie in memory -/
structure Tabs (w : World) : Prop where
  size : 1 < w.heap.size
  first : ∀ j : Nat, 128 ≤ j → j < 256 → w.cell? ⟨0, j, none⟩ = some (.int .u8 (firstT j))
  acc : ∀ j : Nat, j < 16 → w.cell? ⟨1, j * 2, none⟩ = some (.int .u8 (accLo j)) ∧ w.cell? ⟨1, j * 2 + 1, none⟩ = some (.int .u8 (accHi j))
theorem Tabs.grow {w w' : World} (h : Tabs w) (g : Grow w w') : Tabs w' :=
  ⟨Nat.lt_of_lt_of_le h.size g.size, fun j h1 h2 => g.cell (h.first j h1 h2) fun h => h, fun j hj => ⟨g.cell (h.acc j hj).1 fun h => h, g.cell (h.acc j hj).2 fun h => h⟩⟩
theorem Tabs.mod {M : Nat → Prop} {w w' : World} (h : Tabs w) (g : Mod M w w') (hM : ∀ b, b < 3 → ¬ M b) : Tabs w' :=
  ⟨Nat.lt_of_lt_of_le h.size g.size, fun j h1 h2 => g.cell (h.first j h1 h2) (hM 0 (by decide)), fun j hj => ⟨g.cell (h.acc j hj).1 (hM 1 (by decide)), g.cell (h.acc j hj).2 (hM 1 (by decide))⟩⟩

end Go.Proofs.YtlbaopamhkmepaaGreatDoor

namespace Go.Proofs.YtlbaopamhkmepaaGreatDoor
open Go Go.K

/-- a natural number in groups of seven bits, the lowest first -/
def uvB : Nat → Nat → List Int
  | 0, n => [(n : Int)]
  | f + 1, n => if n ≤ 127 then [(n : Int)] else ((n % 128 + 128 : Nat) : Int) :: uvB f (n / 128)
def uv (n : Nat) : List Int := uvB 9 n
def zigN (n : Int) : Nat := if 0 ≤ n then (2 * n).toNat else (-2 * n - 1).toNat
theorem zigN_inj {a b : Int} (h : zigN a = zigN b) : a = b := by
  unfold zigN at h
  split at h <;> split at h <;> omega
theorem zigN_lt {n : Int} (h0 : -9223372036854775808 ≤ n) (h1 : n ≤ 9223372036854775807) : zigN n < 18446744073709551616 := by
  unfold zigN; split <;> omega
theorem uvB_pre : ∀ {f n m : Nat} {x y : List Int}, n < 128 ^ (f + 1) → m < 128 ^ (f + 1) → uvB f n ++ x = uvB f m ++ y → n = m ∧ x = y := by
  intro f
  induction f with
  | zero =>
    intro n m x y _ _ h
    simp only [uvB, List.singleton_append, List.cons.injEq] at h
    exact ⟨by omega, h.2⟩
  | succ f ih =>
    intro n m x y hn hm h
    rw [Nat.pow_succ] at hn hm
    simp only [uvB] at h
    by_cases h1 : n ≤ 127 <;> by_cases h2 : m ≤ 127
    · rw [if_pos h1, if_pos h2] at h
      simp only [List.singleton_append, List.cons.injEq] at h
      exact ⟨by omega, h.2⟩
    · rw [if_pos h1, if_neg h2] at h
      simp only [List.cons_append, List.cons.injEq] at h
      omega
    · rw [if_neg h1, if_pos h2] at h
      simp only [List.cons_append, List.cons.injEq] at h
      omega
    · rw [if_neg h1, if_neg h2] at h
      simp only [List.cons_append, List.cons.injEq] at h
      have := ih (Nat.div_lt_of_lt_mul (by omega)) (Nat.div_lt_of_lt_mul (by omega)) h.2
      exact ⟨by omega, this.2⟩
theorem uv_pre {n m : Nat} {x y : List Int} (hn : n < 18446744073709551616) (hm : m < 18446744073709551616) (h : uv n ++ x = uv m ++ y) : n = m ∧ x = y := by
  have e : (18446744073709551616 : Nat) ≤ 128 ^ (9 + 1) := by decide
  exact uvB_pre (by omega) (by omega) h
theorem uvB_len : ∀ (f n : Nat), 1 ≤ (uvB f n).length ∧ (uvB f n).length ≤ f + 1 := by
  intro f
  induction f with
  | zero => intro n; simp [uvB]
  | succ f ih =>
    intro n
    simp only [uvB]
    split
    · simp
    · have := ih (n / 128)
      simp only [List.length_cons]; omega
theorem uvB_byte : ∀ (f n : Nat), n < 128 ^ (f + 1) → ∀ x ∈ uvB f n, 0 ≤ x ∧ x < 256 := by
  intro f
  induction f with
  | zero => intro n hn x hx; simp only [uvB, List.mem_singleton] at hx; subst hx; simp at hn; omega
  | succ f ih =>
    intro n hn x hx
    rw [Nat.pow_succ] at hn
    simp only [uvB] at hx
    split at hx
    · simp only [List.mem_singleton] at hx; omega
    · rcases List.mem_cons.1 hx with rfl | hx
      · omega
      · exact ih _ (Nat.div_lt_of_lt_mul (by omega)) x hx
theorem uv_byte {n : Nat} (hn : n < 18446744073709551616) : ∀ x ∈ uv n, 0 ≤ x ∧ x < 256 := by
  have e : (18446744073709551616 : Nat) ≤ 128 ^ (9 + 1) := by decide
  exact uvB_byte 9 n (by omega)

/-- an attribute whose numbers lie in their types -/
def InA (a : Attr) : Prop := (-9223372036854775808 ≤ a.key ∧ a.key ≤ 9223372036854775807) ∧ (0 ≤ a.val.kind ∧ a.val.kind < 256) ∧ (-9223372036854775808 ≤ a.val.n ∧ a.val.n ≤ 9223372036854775807) ∧ (0 ≤ a.val.f ∧ a.val.f < 18446744073709551616) ∧ a.val.s.size < 18446744073709551616
def encA (a : Attr) : List Int := uv (zigN a.key) ++ (uv a.val.kind.toNat ++ (uv (zigN a.val.n) ++ (uv a.val.f.toNat ++ (uv a.val.s.size ++ bytesL a.val.s))))
def encS (l : List Attr) : List Int := l.flatMap encA
theorem bytesL_inj {s t : ByteArray} (h : bytesL s = bytesL t) : s = t := by
  unfold bytesL at h
  have h2 := (List.map_inj_right (f := fun b : UInt8 => (b.toNat : Int)) (fun a b e => UInt8.toNat_inj.1 (Int.ofNat_inj.1 e))).1 h
  cases s; cases t
  simp only [ByteArray.mk.injEq]
  exact Array.toList_inj.1 h2
theorem bytesL_len (s : ByteArray) : (bytesL s).length = s.size := by simp [bytesL]
theorem encA_pre {a b : Attr} (ha : InA a) (hb : InA b) {x y : List Int} (h : encA a ++ x = encA b ++ y) : a = b ∧ x = y := by
  obtain ⟨a1, a2, a3, a4, a5⟩ := ha
  obtain ⟨b1, b2, b3, b4, b5⟩ := hb
  unfold encA at h
  simp only [List.append_assoc] at h
  obtain ⟨e1, h⟩ := uv_pre (zigN_lt a1.1 a1.2) (zigN_lt b1.1 b1.2) h
  obtain ⟨e2, h⟩ := uv_pre (by omega) (by omega) h
  obtain ⟨e3, h⟩ := uv_pre (zigN_lt a3.1 a3.2) (zigN_lt b3.1 b3.2) h
  obtain ⟨e4, h⟩ := uv_pre (by omega) (by omega) h
  obtain ⟨e5, h⟩ := uv_pre a5 b5 h
  obtain ⟨e6, h⟩ := List.append_inj h (by rw [bytesL_len, bytesL_len, e5])
  refine ⟨?_, h⟩
  obtain ⟨ak, av⟩ := a
  obtain ⟨bk, bv⟩ := b
  obtain ⟨v1, v2, v3, v4⟩ := av
  obtain ⟨u1, u2, u3, u4⟩ := bv
  simp only at *
  have := zigN_inj e1
  have := zigN_inj e3
  have := bytesL_inj e6
  have : v1 = u1 := by omega
  have : v3 = u3 := by omega
  subst_vars
  rfl
theorem encS_inj : ∀ {l m : List Attr}, (∀ a ∈ l, InA a) → (∀ a ∈ m, InA a) → encS l = encS m → l = m := by
  have ne : ∀ a x, encA a ++ x ≠ [] := fun a x e => by
    have := uvB_len 9 (zigN a.key)
    have h := congrArg List.length e
    simp only [encA, List.length_append, List.length_nil, uv] at h
    omega
  intro l
  induction l with
  | nil =>
    intro m _ hm h
    cases m with
    | nil => rfl
    | cons b m => exact absurd h.symm (by simpa [encS] using ne b (encS m))
  | cons a l ih =>
    intro m hl hm h
    cases m with
    | nil => exact absurd h (by simpa [encS] using ne a (encS l))
    | cons b m =>
      simp only [encS, List.flatMap_cons] at h
      obtain ⟨rfl, h'⟩ := encA_pre (hl a List.mem_cons_self) (hm b List.mem_cons_self) h
      rw [ih (fun x hx => hl x (List.mem_cons_of_mem _ hx)) (fun x hx => hm x (List.mem_cons_of_mem _ hx)) (show encS l = encS m from h')]
end Go.Proofs.YtlbaopamhkmepaaGreatDoor

namespace Go.Proofs.YtlbaopamhkmepaaGreatDoor
open Go Go.K
open Go.ChangeShapes Go.WideShapes Go.ChangeAt Go.RowKit Go.Joins

def laidL : List (String × DataW Unit) := [("unicode/utf8.acceptRanges", Rows.laid_unicode_utf8_acceptRanges), ("unicode/utf8.first", Rows.laid_unicode_utf8_first)]
theorem first_tab : Rows.laid_unicode_utf8_first = Lib.tabData .u8 (Pinned.utf8FirstZ.map Int.ofNat) := by kernel_rfl
theorem first_at : (List.range 256).all (fun j => decide (128 ≤ j → (Pinned.utf8FirstZ.map Int.ofNat)[j]? = some (firstT j))) = true := by decide +kernel
theorem acc_tab : Rows.laid_unicode_utf8_acceptRanges (H := Unit) = .agg ((List.range 16).map fun i => .agg ([accLo i, accHi i].map fun z => .lit (.int .u8 z))) := by kernel_rfl
theorem tabs_of_laid {W : World} (h : laidMetH Tryz.prog laidL W) : Tabs W := by
  rw [MakeChecks.laidMetH_plain _ _ _ (by kernel_rfl)] at h
  have h4 := Lib.laidMet.reads h (.head _)
  have h3 := Lib.laidMet.reads h (.tail _ (.head _))
  have hf : ∀ j : Nat, 128 ≤ j → j < 256 → W.cell? ⟨0, j, none⟩ = some (.int .u8 (firstT j)) := by
    intro j hj1 hj2
    obtain ⟨g, t, cs, fuel, p, hg, hty, hvar, hd⟩ := h3
    obtain rfl := Option.some.inj ((show Tryz.prog.globalNamed "unicode/utf8.first" = some 0 by kernel_rfl).symm.trans hg)
    obtain rfl := Option.some.inj ((show (Tryz.prog.globals[0]?).map (·.type) = some 242 by kernel_rfl).symm.trans hty)
    rw [first_tab] at hd
    have hcs := Lib.cells_of_tab Tryz.underlying242 Tryz.underlying5 (by kernel_rfl) (by kernel_rfl) hd
    have := World.var?_cell hg hvar j
    rw [this, ← Array.getElem?_toList, hcs]
    have ha := List.all_eq_true.1 first_at j (List.mem_range.2 hj2)
    rw [decide_eq_true_eq] at ha
    rw [List.getElem?_map, ha hj1]
    rfl
  have hac : ∀ j : Nat, j < 16 → W.cell? ⟨1, j * 2, none⟩ = some (.int .u8 (accLo j)) ∧ W.cell? ⟨1, j * 2 + 1, none⟩ = some (.int .u8 (accHi j)) := by
    intro i hi
    obtain ⟨g, t, cs, fuel, p, hg, hty, hvar, hd⟩ := h4
    obtain rfl := Option.some.inj ((show Tryz.prog.globalNamed "unicode/utf8.acceptRanges" = some 1 by kernel_rfl).symm.trans hg)
    obtain rfl := Option.some.inj ((show (Tryz.prog.globals[1]?).map (·.type) = some 245 by kernel_rfl).symm.trans hty)
    rw [acc_tab] at hd
    obtain ⟨fuel', d, q, hdi, he⟩ := Lib.array_elem Tryz.underlying245 hd i hi
    simp only [List.getElem?_map, List.getElem?_range hi, Option.map_some, Option.some.injEq] at hdi
    subst hdi
    have c2 : Tryz.prog.cellsOf 244 = 2 := by kernel_rfl
    rw [c2] at he
    have hcs := Lib.ints_of_struct Tryz.underlying244 (fun j f hj => by
      match j, hj with
      | 0, hj => simp at hj; subst hj; exact ⟨Tryz.underlying5, rfl, by kernel_rfl⟩
      | 1, hj => simp at hj; subst hj; exact ⟨Tryz.underlying5, rfl, by kernel_rfl⟩
      | j + 2, hj => simp at hj) (by rw [c2]; rfl) he
    have e0 := congrArg (·[0]?) hcs
    have e1 := congrArg (·[1]?) hcs
    simp at e0 e1
    have w0 := World.var?_cell hg hvar (i * 2)
    have w1 := World.var?_cell hg hvar (i * 2 + 1)
    rw [w0, w1, ← Array.getElem?_toList, ← Array.getElem?_toList]
    exact ⟨by simpa using e0, by simpa using e1⟩
  have := World.block_lt_of_cell? W _ (hac 0 (by decide)).1
  exact ⟨this, hf, hac⟩
/-- a world that meets the condition -/
noncomputable def laidWorld (os : Os) : World :=
  let w0 := World.holding Tryz.prog os ⟨#[], #[], []⟩
  let put (h : Array Obj) (g : Nat) (cs : Array Value) : Array Obj := h.modify g fun
    | .cells _ t frozen => .cells cs t frozen
    | o => o
  let h1 := put w0.heap 0 (Pinned.utf8FirstZ.map fun (z : Nat) => Value.int .u8 (Int.ofNat z)).toArray
  let h2 := put h1 1 ((List.range 16).flatMap fun i => [Value.int .u8 (accLo i), Value.int .u8 (accHi i)]).toArray
  { w0 with heap := h2 }
theorem laidWorld_met (os : Os) (args : Array Value) : laidMetH Tryz.prog laidL ((laidWorld os).forCall (fun _ _ => 0) ⟨#[], args, []⟩).memory := by
  rw [MakeChecks.laidMetH_plain _ _ _ (by kernel_rfl)]
  exact (LaidIn.of_run (l := laidL) [1, 0] 8 (by kernel_rfl) (by kernel_rfl) (by kernel_rfl) (by kernel_rfl)).met

variable {H : Type} {enc : TypeId × Value → H} {w : World} {base : Nat} {spare : Nat → Bool} {held : Bool}
end Go.Proofs.YtlbaopamhkmepaaGreatDoor

namespace Go.K
open Go MapKept

/-- the map at block b, of keys of one plain kind: what each key has -/
def MapG (d : TypeDesc) (w : World) (b : Nat) (f : Value → Option Value) : Prop :=
  ∃ es clock, w.heap[b]? = some (.map es clock) ∧ (∀ x ∈ es.toList, IsKey d x.key) ∧ es.toList.Pairwise (fun x y => x.key ≠ y.key) ∧ ∀ k v, IsKey d k → (f k = some v ↔ ∃ x ∈ es.toList, x.key = k ∧ x.val = v)
theorem MapG.lt {d : TypeDesc} {w : World} {b : Nat} {f : Value → Option Value} (h : MapG d w b f) : b < w.heap.size := by
  obtain ⟨es, c, hb, _⟩ := h
  exact (Array.getElem?_eq_some_iff.1 hb).1
theorem MapG.mod {d : TypeDesc} {M : Nat → Prop} {w w' : World} {b : Nat} {f : Value → Option Value} (h : MapG d w b f) (hm : Mod M w w') (hb : ¬ M b) : MapG d w' b f := by
  have hl := h.lt
  obtain ⟨es, c, h1, h2⟩ := h
  exact ⟨es, c, (hm.same b hl hb).trans h1, h2⟩
theorem MapG.make (d : TypeDesc) (w : World) : MapG d (w.alloc (.map #[] 0)) w.heap.size (fun _ => none) :=
  ⟨#[], 0, (heap_alloc w _).1, by simp, by simp, fun k v _ => by simp⟩
theorem MapG.ext {d : TypeDesc} {w : World} {b : Nat} {f g : Value → Option Value} (h : MapG d w b f) (e : ∀ k, IsKey d k → f k = g k) : MapG d w b g := by
  obtain ⟨es, c, h1, h2, h3, h4⟩ := h
  exact ⟨es, c, h1, h2, h3, fun k v hk => by rw [← e k hk]; exact h4 k v hk⟩
end Go.K

namespace Go.K
open Go

structure Ent (α : Type) where
  set : α
  held : Nat
/-- the table: of each place its set and how often it is held; the free places, the one freed last at the end; how often the empty set is held -/
structure Tab (α : Type) where
  places : List (Ent α)
  free : List Nat
  empty : Nat
def Tab.z (α : Type) : Tab α := ⟨[], [], 0⟩
structure Tab.Inv {α : Type} (G : α → Prop) (t : Tab α) : Prop where
  nod : t.free.Nodup
  fre : ∀ i : Nat, i ∈ t.free ↔ ∃ p, t.places[i]? = some p ∧ p.held = 0
  uni : ∀ (i j : Nat) (p q : Ent α), t.places[i]? = some p → t.places[j]? = some q → 0 < p.held → 0 < q.held → p.set = q.set → i = j
  ok : ∀ (i : Nat) (p : Ent α), t.places[i]? = some p → 0 < p.held → G p.set
def Tab.setP {α : Type} (t : Tab α) (i : Nat) (p : Ent α) : Tab α := { t with places := t.places.set i p }
/-- a set that is not there, at a place that nobody has, held once -/
def Tab.put {α : Type} (t : Tab α) (s : α) : Nat × Tab α := match t.free.getLast? with
  | some i => (i, { t with places := t.places.set i ⟨s, 1⟩, free := t.free.dropLast })
  | none => (t.places.length, { t with places := t.places ++ [⟨s, 1⟩] })
/-- a place is freed -/
def Tab.drop {α : Type} (t : Tab α) (z : α) (i : Nat) : Tab α := { t with places := t.places.set i ⟨z, 0⟩, free := t.free ++ [i] }
theorem Tab.Inv.z {α : Type} (G : α → Prop) : (Tab.z α).Inv G := ⟨List.nodup_nil, fun i => by simp [Tab.z], fun i j p q h => by simp [Tab.z] at h, fun i p h => by simp [Tab.z] at h⟩
theorem Tab.Inv.setP {α : Type} {G : α → Prop} {t : Tab α} (h : t.Inv G) {i : Nat} {p : Ent α} (hp : t.places[i]? = some p) (h0 : 0 < p.held) {n : Nat} (hn : 0 < n) : (t.setP i ⟨p.set, n⟩).Inv G := by
  have hi := (List.getElem?_eq_some_iff.1 hp).1
  have key : ∀ (j : Nat) (q : Ent α), (t.places.set i ⟨p.set, n⟩)[j]? = some q → ∃ q' : Ent α, t.places[j]? = some q' ∧ q'.set = q.set ∧ (0 < q.held ↔ 0 < q'.held) := by
    intro j q hq
    rw [List.getElem?_set, if_pos hi] at hq
    split at hq
    · rename_i e; subst e
      cases hq
      exact ⟨p, hp, rfl, by simp only; omega⟩
    · exact ⟨q, hq, rfl, Iff.rfl⟩
  refine ⟨h.nod, fun j => ?_, fun j k p1 p2 h1 h2 h3 h4 h5 => ?_, fun j p1 h1 h2 => ?_⟩
  · show j ∈ t.free ↔ ∃ q : Ent α, (t.places.set i ⟨p.set, n⟩)[j]? = some q ∧ q.held = 0
    rw [h.fre, List.getElem?_set, if_pos hi]
    split
    · rename_i e; subst e
      constructor
      · rintro ⟨q, e1, e2⟩; rw [hp] at e1; cases e1; omega
      · rintro ⟨q, e1, e2⟩; cases e1; simp only at e2; omega
    · exact Iff.rfl
  · obtain ⟨q1, e1, e2, e3⟩ := key j p1 h1
    obtain ⟨q2, f1, f2, f3⟩ := key k p2 h2
    exact h.uni j k q1 q2 e1 f1 (e3.1 h3) (f3.1 h4) (by rw [e2, f2, h5])
  · obtain ⟨q1, e1, e2, e3⟩ := key j p1 h1
    rw [← e2]
    exact h.ok j q1 e1 (e3.1 h2)
theorem dropLast_mem {l : List Nat} (h : l.Nodup) {i : Nat} (hi : l.getLast? = some i) (j : Nat) : j ∈ l.dropLast ↔ j ∈ l ∧ j ≠ i := by
  have e : l = l.dropLast ++ [i] := by
    cases l with
    | nil => simp at hi
    | cons a l =>
      rw [List.getLast?_eq_some_getLast (by simp)] at hi
      conv => lhs; rw [← List.dropLast_concat_getLast (l := a :: l) (by simp)]
      rw [Option.some.inj hi]
  have hn : (l.dropLast ++ [i]).Nodup := e ▸ h
  have hm : j ∈ l ↔ j ∈ l.dropLast ++ [i] := by rw [← e]
  rw [List.nodup_append] at hn
  rw [hm, List.mem_append, List.mem_singleton]
  constructor
  · intro hj
    exact ⟨.inl hj, fun e => hn.2.2 j hj i (List.mem_singleton.2 rfl) e⟩
  · rintro ⟨h1 | h1, h2⟩
    · exact h1
    · exact absurd h1 h2
theorem Tab.put_spec {α : Type} {G : α → Prop} {t : Tab α} (h : t.Inv G) {s : α} (hg : G s) (hs : ∀ (i : Nat) (p : Ent α), t.places[i]? = some p → 0 < p.held → p.set ≠ s) :
    (t.put s).2.Inv G ∧ (t.put s).2.places[(t.put s).1]? = some ⟨s, 1⟩ ∧ (∀ p : Ent α, t.places[(t.put s).1]? = some p → p.held = 0) ∧ (∀ j : Nat, j ≠ (t.put s).1 → (t.put s).2.places[j]? = t.places[j]?) ∧ (t.put s).2.empty = t.empty := by
  unfold Tab.put
  cases hl : t.free.getLast? with
  | some i =>
    have him : i ∈ t.free := List.mem_of_getLast? hl
    obtain ⟨p, hp, hp0⟩ := (h.fre i).1 him
    have hi := (List.getElem?_eq_some_iff.1 hp).1
    have hsame : (t.places.set i ⟨s, 1⟩)[i]? = some ⟨s, 1⟩ := by rw [List.getElem?_set_self hi]
    have hoth : ∀ j : Nat, j ≠ i → (t.places.set i ⟨s, 1⟩)[j]? = t.places[j]? := fun j hj => List.getElem?_set_ne (Ne.symm hj)
    refine ⟨⟨h.nod.sublist (List.dropLast_sublist _), fun j => ?_, fun j k p1 p2 h1 h2 h3 h4 h5 => ?_, fun j p1 h1 h2 => ?_⟩, hsame, fun q hq => ?_, hoth, rfl⟩
    · show j ∈ t.free.dropLast ↔ ∃ q : Ent α, (t.places.set i ⟨s, 1⟩)[j]? = some q ∧ q.held = 0
      rw [dropLast_mem h.nod hl, h.fre]
      by_cases e : j = i
      · subst e
        rw [hsame]
        constructor
        · rintro ⟨_, h2⟩; exact absurd rfl h2
        · rintro ⟨q, e1, e2⟩; cases e1; cases e2
      · rw [hoth j e]
        exact ⟨fun h => h.1, fun h => ⟨h, e⟩⟩
    · simp only at h1 h2
      by_cases e1 : j = i <;> by_cases e2 : k = i
      · rw [e1, e2]
      · subst e1
        rw [hsame] at h1; cases h1
        rw [hoth k e2] at h2
        exact absurd h5.symm (hs k p2 h2 h4)
      · subst e2
        rw [hsame] at h2; cases h2
        rw [hoth j e1] at h1
        exact absurd h5 (hs j p1 h1 h3)
      · rw [hoth j e1] at h1; rw [hoth k e2] at h2
        exact h.uni j k p1 p2 h1 h2 h3 h4 h5
    · simp only at h1
      by_cases e1 : j = i
      · subst e1; rw [hsame] at h1; cases h1; exact hg
      · rw [hoth j e1] at h1; exact h.ok j p1 h1 h2
    · simp only at hq; rw [hp] at hq; cases hq; exact hp0
  | none =>
    have hf : t.free = [] := List.getLast?_eq_none_iff.1 hl
    have hsame : (t.places ++ [(⟨s, 1⟩ : Ent α)])[t.places.length]? = some ⟨s, 1⟩ := by simp
    have hoth : ∀ j : Nat, j ≠ t.places.length → (t.places ++ [(⟨s, 1⟩ : Ent α)])[j]? = t.places[j]? := by
      intro j hj
      by_cases hlt : j < t.places.length
      · rw [List.getElem?_append_left hlt]
      · rw [List.getElem?_eq_none (by simp; omega), List.getElem?_eq_none (by omega)]
    refine ⟨⟨h.nod, fun j => ?_, fun j k p1 p2 h1 h2 h3 h4 h5 => ?_, fun j p1 h1 h2 => ?_⟩, hsame, fun q hq => ?_, hoth, rfl⟩
    · show j ∈ t.free ↔ ∃ q : Ent α, (t.places ++ [(⟨s, 1⟩ : Ent α)])[j]? = some q ∧ q.held = 0
      by_cases e : j = t.places.length
      · subst e
        rw [hsame, hf]
        constructor
        · intro h; simp at h
        · rintro ⟨q, e1, e2⟩; cases e1; cases e2
      · rw [hoth j e, h.fre]
    · simp only at h1 h2
      by_cases e1 : j = t.places.length <;> by_cases e2 : k = t.places.length
      · rw [e1, e2]
      · subst e1
        rw [hsame] at h1; cases h1
        rw [hoth k e2] at h2
        exact absurd h5.symm (hs k p2 h2 h4)
      · subst e2
        rw [hsame] at h2; cases h2
        rw [hoth j e1] at h1
        exact absurd h5 (hs j p1 h1 h3)
      · rw [hoth j e1] at h1; rw [hoth k e2] at h2
        exact h.uni j k p1 p2 h1 h2 h3 h4 h5
    · simp only at h1
      by_cases e1 : j = t.places.length
      · subst e1; rw [hsame] at h1; cases h1; exact hg
      · rw [hoth j e1] at h1; exact h.ok j p1 h1 h2
    · simp only at hq; rw [List.getElem?_eq_none (Nat.le_refl _)] at hq; cases hq
end Go.K

namespace Go.Proofs.YtlbaopamhkmepaaGreatDoor
open Go Go.K

def strOf (l : List Int) : ByteArray := ⟨(l.map fun x => UInt8.ofNat x.toNat).toArray⟩
theorem bytesL_strOf {l : List Int} (h : ∀ x ∈ l, 0 ≤ x ∧ x < 256) : bytesL (strOf l) = l := by
  unfold bytesL strOf
  simp only [List.map_map]
  conv => rhs; rw [← List.map_id l]
  refine List.map_congr_left fun x hx => ?_
  have := h x hx
  simp only [Function.comp, UInt8.toNat_ofNat', id]
  omega
theorem encA_byte {a : Attr} (h : InA a) : ∀ x ∈ encA a, 0 ≤ x ∧ x < 256 := by
  obtain ⟨a1, a2, a3, a4, a5⟩ := h
  intro x hx
  simp only [encA, List.mem_append] at hx
  rcases hx with hx | hx | hx | hx | hx | hx
  · exact uv_byte (zigN_lt a1.1 a1.2) x hx
  · exact uv_byte (by omega) x hx
  · exact uv_byte (zigN_lt a3.1 a3.2) x hx
  · exact uv_byte (by omega) x hx
  · exact uv_byte a5 x hx
  · simp only [bytesL, List.mem_map] at hx
    obtain ⟨b, _, rfl⟩ := hx
    have := b.toNat_lt
    omega
theorem encS_byte {l : List Attr} (h : ∀ a ∈ l, InA a) : ∀ x ∈ encS l, 0 ≤ x ∧ x < 256 := by
  intro x hx
  simp only [encS, List.mem_flatMap] at hx
  obtain ⟨a, ha, hx⟩ := hx
  exact encA_byte (h a ha) x hx
/-- a set's text -/
def textOf (l : List Attr) : ByteArray := strOf (encS l)
theorem textOf_inj {l m : List Attr} (hl : ∀ a ∈ l, InA a) (hm : ∀ a ∈ m, InA a) (h : textOf l = textOf m) : l = m := by
  refine encS_inj hl hm ?_
  rw [← bytesL_strOf (encS_byte hl), ← bytesL_strOf (encS_byte hm)]
  exact congrArg bytesL h
/-- what the map must say -/
def IdsOf (t : Tab (List Attr)) (f : Value → Option Value) : Prop := ∀ s v, f (.string s) = some v ↔ ∃ (i : Nat) (p : Ent (List Attr)), t.places[i]? = some p ∧ 0 < p.held ∧ s = textOf p.set ∧ v = .int .i64 ((i : Int) + 1)
/-- what holds of the sets that are held -/
def GoodS (ks : List Attr → Prop) (s : List Attr) : Prop := s ≠ [] ∧ (∀ a ∈ s, InA a) ∧ ks s
theorem IdsOf.some {K : List Attr → Prop} {t : Tab (List Attr)} {f : Value → Option Value} (h : IdsOf t f) (hi : t.Inv (GoodS K)) {s : List Attr} (hs : ∀ a ∈ s, InA a) {v : Value} (hv : f (.string (textOf s)) = some v) : ∃ i n : Nat, t.places[i]? = .some ⟨s, n⟩ ∧ 0 < n ∧ v = .int .i64 ((i : Int) + 1) := by
  obtain ⟨i, p, h1, h2, h3, h4⟩ := (h _ _).1 hv
  have := textOf_inj hs (hi.ok i p h1 h2).2.1 h3
  subst this
  exact ⟨i, p.held, h1, h2, h4⟩
theorem IdsOf.none {t : Tab (List Attr)} {f : Value → Option Value} (h : IdsOf t f) {s : List Attr} (hv : f (.string (textOf s)) = Option.none) : ∀ (i : Nat) (p : Ent (List Attr)), t.places[i]? = .some p → 0 < p.held → p.set ≠ s := by
  rintro i p h1 h2 rfl
  have := (h (textOf p.set) _).2 ⟨i, p, h1, h2, rfl, rfl⟩
  rw [hv] at this; cases this
theorem IdsOf.setP {t : Tab (List Attr)} {f : Value → Option Value} (h : IdsOf t f) {i : Nat} {p : Ent (List Attr)} (hp : t.places[i]? = .some p) (h0 : 0 < p.held) {n : Nat} (hn : 0 < n) : IdsOf (t.setP i ⟨p.set, n⟩) f := by
  intro s v
  rw [h s v]
  have hi := (List.getElem?_eq_some_iff.1 hp).1
  constructor
  · rintro ⟨j, q, h1, h2, h3, h4⟩
    by_cases e : j = i
    · subst e
      rw [hp] at h1; cases h1
      exact ⟨j, ⟨p.set, n⟩, by show (t.places.set j _)[j]? = _; rw [List.getElem?_set_self hi], hn, h3, h4⟩
    · exact ⟨j, q, by show (t.places.set i _)[j]? = _; rw [List.getElem?_set_ne (Ne.symm e)]; exact h1, h2, h3, h4⟩
  · rintro ⟨j, q, h1, h2, h3, h4⟩
    have h1' : (t.places.set i ⟨p.set, n⟩)[j]? = .some q := h1
    by_cases e : j = i
    · subst e
      rw [List.getElem?_set_self hi] at h1'; cases h1'
      exact ⟨j, p, hp, h0, h3, h4⟩
    · rw [List.getElem?_set_ne (Ne.symm e)] at h1'
      exact ⟨j, q, h1', h2, h3, h4⟩
open Classical in
theorem IdsOf.put {K : List Attr → Prop} {t : Tab (List Attr)} {f : Value → Option Value} (h : IdsOf t f) (hi : t.Inv (GoodS K)) {s : List Attr} (hg : GoodS K s) (hv : f (.string (textOf s)) = Option.none) :
    IdsOf (t.put s).2 (fun k' => if k' = .string (textOf s) then Option.some (.int .i64 (((t.put s).1 : Int) + 1)) else f k') := by
  obtain ⟨_, h1, h2, h3, _⟩ := Tab.put_spec hi hg (h.none hv)
  intro s' v
  simp only [Value.string.injEq]
  constructor
  · intro hh
    split at hh
    · rename_i e; subst e; cases hh
      exact ⟨_, _, h1, Nat.one_pos, rfl, rfl⟩
    · obtain ⟨j, p, q1, q2, q3, q4⟩ := (h s' v).1 hh
      have hj : j ≠ (t.put s).1 := by
        rintro rfl
        have := h2 p q1; omega
      exact ⟨j, p, (h3 j hj).trans q1, q2, q3, q4⟩
  · rintro ⟨j, p, q1, q2, q3, q4⟩
    by_cases hj : j = (t.put s).1
    · subst hj
      rw [h1] at q1; cases q1
      rw [if_pos q3, q4]
    · rw [h3 j hj] at q1
      rw [if_neg]
      · exact (h s' v).2 ⟨j, p, q1, q2, q3, q4⟩
      · intro e
        rw [e] at q3
        exact h.none hv j p q1 q2 (textOf_inj (hi.ok j p q1 q2).2.1 hg.2.1 q3.symm)
open Classical in
theorem IdsOf.drop {K : List Attr → Prop} {t : Tab (List Attr)} {f : Value → Option Value} (h : IdsOf t f) (hi : t.Inv (GoodS K)) {i : Nat} {p : Ent (List Attr)} (hp : t.places[i]? = .some p) (h0 : 0 < p.held) :
    IdsOf (t.drop [] i) (fun k' => if k' = .string (textOf p.set) then Option.none else f k') := by
  have hlt := (List.getElem?_eq_some_iff.1 hp).1
  have hsame : (t.places.set i ⟨[], 0⟩)[i]? = .some ⟨[], 0⟩ := List.getElem?_set_self hlt
  have hoth : ∀ j : Nat, j ≠ i → (t.places.set i (⟨[], 0⟩ : Ent (List Attr)))[j]? = t.places[j]? := fun j hj => List.getElem?_set_ne (Ne.symm hj)
  intro s' v
  simp only [Value.string.injEq]
  constructor
  · intro hh
    split at hh
    · cases hh
    · rename_i e
      obtain ⟨j, q, q1, q2, q3, q4⟩ := (h s' v).1 hh
      have hj : j ≠ i := by
        rintro rfl
        rw [hp] at q1; cases q1
        exact e q3
      exact ⟨j, q, (hoth j hj).trans q1, q2, q3, q4⟩
  · rintro ⟨j, q, q1, q2, q3, q4⟩
    have q1' : (t.places.set i (⟨[], 0⟩ : Ent (List Attr)))[j]? = .some q := q1
    by_cases hj : j = i
    · subst hj
      rw [hsame] at q1'; cases q1'
      exact absurd q2 (Nat.lt_irrefl _)
    · rw [hoth j hj] at q1'
      rw [if_neg]
      · exact (h s' v).2 ⟨j, q, q1', q2, q3, q4⟩
      · intro e
        rw [e] at q3
        exact hj (hi.uni j i q p q1' hp q2 h0 (textOf_inj (hi.ok j q q1' q2).2.1 (hi.ok i p hp h0).2.1 q3.symm))
theorem IdsOf.z : IdsOf (Tab.z _) (fun _ => Option.none) := fun s v => by simp [Tab.z]
end Go.Proofs.YtlbaopamhkmepaaGreatDoor

namespace Go.Proofs.YtlbaopamhkmepaaGreatDoor
open Go Go.K

theorem RByte.one {w : World} {r : List Value} {x : Int} (h : RByte w r x) : ∀ u ∈ r, u.oneCell' = true := by
  subst h; intro u hu; simp at hu; subst hu; rfl
end Go.Proofs.YtlbaopamhkmepaaGreatDoor

namespace Go.K
open Go
/-- an entry of the table, as one asks for it -/
def Tab.ask {α : Type} (t : Tab α) (z : α) (id : Int) : Option (Ent α) := if id = 0 then some ⟨z, t.empty⟩ else if id < 0 then none else match t.places[(id - 1).toNat]? with
  | some p => if p.held = 0 then none else some p
  | none => none
/-- how large a table is at most -/
structure Tab.Small {α : Type} (t : Tab α) (n : Nat) : Prop where
  pl : t.places.length ≤ n
  em : t.empty ≤ n
  he : ∀ p ∈ t.places, p.held ≤ n
theorem Tab.ask_pos {α : Type} {t : Tab α} {z : α} {id : Int} {p : Ent α} (h : t.ask z id = some p) (h0 : id ≠ 0) : ∃ i : Nat, id = (i : Int) + 1 ∧ t.places[i]? = some p ∧ 0 < p.held := by
  unfold Tab.ask at h
  rw [if_neg h0] at h
  split at h
  · cases h
  · cases hp : t.places[(id - 1).toNat]? with
    | none => rw [hp] at h; cases h
    | some q =>
      rw [hp] at h
      simp only at h
      split at h
      · cases h
      · cases h
        exact ⟨(id - 1).toNat, by omega, hp, by omega⟩
theorem Tab.ask_at {α : Type} {t : Tab α} {z : α} {i : Nat} {p : Ent α} (h : t.places[i]? = some p) (h0 : 0 < p.held) : t.ask z ((i : Int) + 1) = some p := by
  unfold Tab.ask
  rw [if_neg (by omega), if_neg (by omega), show ((i : Int) + 1 - 1).toNat = i by omega, h]
  simp only
  rw [if_neg (by omega)]
end Go.K
namespace Go.Proofs.YtlbaopamhkmepaaGreatDoor
open Go Go.K

def REnt (C : Nat → Prop) : World → List Value → Ent (List Attr) → Prop := fun w r x => ∃ sv, r = [sv, .int .i64 x.held] ∧ RSet C w sv x.set
theorem REnt.one {C : Nat → Prop} {w : World} {r : List Value} {x : Ent (List Attr)} (h : REnt C w r x) : ∀ u ∈ r, u.oneCell' = true := by
  obtain ⟨sv, rfl, hs⟩ := h
  obtain ⟨a, c, rfl, _⟩ := hs.shape
  intro u hu
  simp at hu
  rcases hu with rfl | rfl <;> rfl
theorem REnt.mod {C M : Nat → Prop} {w w' : World} {r : List Value} {x : Ent (List Attr)} (h : REnt C w r x) (hm : Mod M w w') (hC : ∀ b, b < w.heap.size → C b → ¬ M b) : REnt C w' r x := by
  obtain ⟨sv, e, hs⟩ := h
  exact ⟨sv, e, hs.mod hm hC (by decide) fun _ _ h => h⟩
theorem REnt.sub {C C' : Nat → Prop} {w : World} {r : List Value} {x : Ent (List Attr)} (h : REnt C w r x) (hC : ∀ b, b < w.heap.size → C b → C' b) : REnt C' w r x := by
  obtain ⟨sv, e, hs⟩ := h
  exact ⟨sv, e, hs.sub hC (by decide) fun _ _ h => h⟩
end Go.Proofs.YtlbaopamhkmepaaGreatDoor
