/- By a program of ours: of each function below the predicate that its code comes to, and that it is sound. No conditions. Copying and comparing rows, for any kind of element; at runes, patches, ops. No conditions but the sizes. Contracts: ops one by one: form, length, what they take and make, how much they have. No conditions. Contracts: the document's runes of bytes, and whether a value may be. No conditions but the size of a text. Pushing one element; contracts: the document's reading of runes. Conditions: the sizes. Contracts: the document's values, keys, sets and patches that may be. Conditions: the size of a text. Contracts: the document's sets and patches that may be; keys that may be a schema's. Conditions: the sizes of texts. Contracts: keys that may be a schema's; how much a delta has; deltas that may be; what is tame. Conditions: the sizes. The plain law of normal forms: the program's maker and the document's form agree, and what holds of a form. No program in sight. Contracts: deltas that may be; what is tame; whether deltas are alike. Conditions: the sizes. Contracts: a delta in memory of its own. Conditions: the sizes. The maker of normal forms in memory; contracts: New, gap, Delete. Conditions: the sizes. Contract: the maker is told an insert. Conditions: the sizes; what is told lies apart from the maker. Contracts of the document's side: whether two deltas are the same. No conditions. Adding onto an empty row that has no room: the row itself stays. No conditions but the sizes. Stacks: rows of the holder's own, or slices without room. No conditions but the sizes. By a program of ours: of each function below the predicate that its code comes to, and that it is sound. No conditions. Maps whose keys are ints, in memory. No conditions. A schema in memory; contracts of what reads it: Find, Len, Keys, Group; of one key by itself; of comparing keys. No conditions. The sort's worlds in our own words: a row of one's own, sorted. No conditions. slices.SortFunc at keys: the shelf's contract, laid; sorted rows of keys. No conditions. Contract of schema.New; known04; the plain law of keys. No conditions. -/
import Derived.Test.YtlbaopamhkmepaaGreatDoorZHistoryBack1
import Derived.Laws.IdiomStrings
import Derived.MapKept
import Derived.Shelf.GgSortFunc.InsertionK
import Derived.Shelf.SlSortCmp.WholeK
import Derived.Shelf.SlSortCmp.NoneTotal
namespace Go.Proofs.YtlbaopamhkmepaaGreatDoor
open Go Go.K
/-- rubric/rubricref15.Same -/
def S22 (v0 v1 : Value) (K : Cont) (w : World) : Prop :=
  lenK v0 fun t9 =>
  lenK v1 fun t11 =>
  neK .i64 t9 t11 fun t12 =>
  condK t12
  (K (.bool false) w)
  (LoopK [(.int .i64 0)] (fun vs again w1 => ∀ _h : Env,
  lenK v0 fun t15 =>
  ltK .i64 (nth vs 0) t15 fun t16 =>
  condK t16
  (JoinK (fun _vs_1 w2 => ∀ _h_1 : Env,
  addK .i64 (nth vs 0) (.int .i64 1) fun t18 =>
  again [t18] w2) (fun J =>
  JoinK (fun vs_2 w3 => ∀ _h_2 : Env,
  faK 0 (nth vs_2 0) fun t27 =>
  ld1K t27 (fun t28 w4 =>
  faK 0 (nth vs_2 1) fun t29 =>
  ld1K t29 (fun t30 w5 =>
  neK .u8 t28 t30 fun t31 =>
  condK t31
  (K (.bool false) w5)
  (faK 1 (nth vs_2 0) fun t33 =>
  ld1K t33 (fun t34 w6 =>
  faK 1 (nth vs_2 1) fun t35 =>
  ld1K t35 (fun t36 w7 =>
  neK .i64 t34 t36 fun t37 =>
  condK t37
  (K (.bool false) w7)
  (faK 2 (nth vs_2 0) fun t40 =>
  ld1K t40 (fun t41 w8 =>
  faK 2 (nth vs_2 1) fun t42 =>
  ld1K t42 (fun t43 w9 =>
  callK Tryz.prog 53 [t41, t43] (fun t44 w10 =>
  notK t44 fun t45 =>
  condK t45
  (K (.bool false) w10)
  (faK 3 (nth vs_2 0) fun t48 =>
  ld1K t48 (fun t49 w11 =>
  faK 3 (nth vs_2 1) fun t50 =>
  ld1K t50 (fun t51 w12 =>
  callK Tryz.prog 54 [t49, t51] (fun t52 w13 =>
  notK t52 fun t53 =>
  condK t53
  (K (.bool false) w13)
  (faK 4 (nth vs_2 0) fun t56 =>
  ld1K t56 (fun t57 w14 =>
  faK 4 (nth vs_2 1) fun t58 =>
  ld1K t58 (fun t59 w15 =>
  callK Tryz.prog 55 [t57, t59] (fun t60 w16 =>
  notK t60 fun t61 =>
  condK t61
  (K (.bool false) w16)
  (J [] w16)) w15) w14) w13)) w12) w11) w10)) w9) w8) w7)) w6) w5)) w4) w3) (fun J_1 =>
  DrawC [8, 9, 10, 11] [[], [], [0, 1], [0, 1, 2], [], [], [4, 5], [4, 5, 6], [], [], [0, 1, 2, 3, 8, 9], [0, 1, 2, 3, 4, 5, 6, 7, 8, 9, 10]] w1.drew (fun M St =>
  ixK 5 v0 (nth vs 0) fun t21 =>
  sldn (St 3) 5 t21 fun t22 =>
  ixK 5 v1 (nth vs 0) fun t25 =>
  sldn (St 7) 5 t25 fun t26 =>
  (newK 39 [(.int .u8 0), (.int .i64 0), (.slice none 0 0), (.slice none 0 0), (.slice none 0 0)] (fun t6 w17 =>
  Mod (M 8) w1.drew w17 ∧
  newK 39 [(.int .u8 0), (.int .i64 0), (.slice none 0 0), (.slice none 0 0), (.slice none 0 0)] (fun t7 w18 =>
  Mod (M 9) w17 w18 ∧
  stnK 5 t6 t22 (fun w19 =>
  Mod (M 10) w18 w19 ∧
  stnK 5 t7 t26 (fun w20 =>
  Mod (M 11) w19 w20 ∧
  J_1 [t6, t7] w20) w19) w18) w17) w1.drew) ∧
  (newK 39 [(.int .u8 0), (.int .i64 0), (.slice none 0 0), (.slice none 0 0), (.slice none 0 0)] (fun t7_1 w21 =>
  Mod (M 9) w1.drew w21 ∧
  newK 39 [(.int .u8 0), (.int .i64 0), (.slice none 0 0), (.slice none 0 0), (.slice none 0 0)] (fun t6_1 w22 =>
  Mod (M 8) w21 w22 ∧
  stnK 5 t6_1 t22 (fun w23 =>
  Mod (M 10) w22 w23 ∧
  stnK 5 t7_1 t26 (fun w24 =>
  Mod (M 11) w23 w24 ∧
  J_1 [t6_1, t7_1] w24) w23) w22) w21) w1.drew)))))
  (K (.bool true) w1)) w)
theorem S22_eq (v0 v1 : Value) (K : Cont) (w : World) : S22 v0 v1 K w = D Tryz.prog okf 63 (bodyOf Tryz.f22) (.node [] [] .nil (.node [] [] (.node [] [] .nil (.node [] [] (.node [] [] .nil .nil) .nil)) (.node [] [] (.node [] [] .nil (.node [5] [(4, 7), (13, 62)] (.node [] [] (.node [] [] .nil (.node [] [] .nil .nil)) (.cut [] [(4, 4), (6, 7), (19, 62)] (.cut [6, 7] [(6, 7), (19, 26)] (.dt [8, 9, 10, 11] [[], [], [0, 1], [0, 1, 2], [], [], [4, 5], [4, 5, 6], [], [], [0, 1, 2, 3, 8, 9], [0, 1, 2, 3, 4, 5, 6, 7, 8, 9, 10]] [] (.op 0 (.op 1 (.op 2 (.op 3 (.op 4 (.op 5 (.op 6 (.op 7 (.br (.op 8 (.op 9 (.op 10 (.op 11 .nil)))) (.op 9 (.op 8 (.op 10 (.op 11 .nil)))))))))))))) (.node [] [] .nil (.node [] [] (.node [] [] .nil .nil) .nil))) .nil)) .nil)) (.node [] [] .nil .nil)))) (retK Tryz.prog [.tmp 4] K) (nth [v0, v1]) w := by kernel_rfl
theorem S22_ok {v0 v1 : Value} {K : Cont} {w : World} (h : S22 v0 v1 K w) : callK Tryz.prog 22 [v0, v1] K w :=
  callK_of (P := Tryz.prog) (ok := okf) (n := 63) (fn := Tryz.f22) (c := bodyOf Tryz.f22) (rs := [.tmp 4]) (an := (.node [] [] .nil (.node [] [] (.node [] [] .nil (.node [] [] (.node [] [] .nil .nil) .nil)) (.node [] [] (.node [] [] .nil (.node [5] [(4, 7), (13, 62)] (.node [] [] (.node [] [] .nil (.node [] [] .nil .nil)) (.cut [] [(4, 4), (6, 7), (19, 62)] (.cut [6, 7] [(6, 7), (19, 26)] (.dt [8, 9, 10, 11] [[], [], [0, 1], [0, 1, 2], [], [], [4, 5], [4, 5, 6], [], [], [0, 1, 2, 3, 8, 9], [0, 1, 2, 3, 4, 5, 6, 7, 8, 9, 10]] [] (.op 0 (.op 1 (.op 2 (.op 3 (.op 4 (.op 5 (.op 6 (.op 7 (.br (.op 8 (.op 9 (.op 10 (.op 11 .nil)))) (.op 9 (.op 8 (.op 10 (.op 11 .nil)))))))))))))) (.node [] [] .nil (.node [] [] (.node [] [] .nil .nil) .nil))) .nil)) .nil)) (.node [] [] .nil .nil))))) good mixed Tryz.func22 (by kernel_rfl) (by kernel_rfl) (by kernel_rfl) (by kernel_rfl) (Eq.mp (S22_eq v0 v1 K w) h)

/-- rubric/rubricref01.Same -/
def S53 (v0 v1 : Value) (K : Cont) (w : World) : Prop :=
  lenK v0 fun t7 =>
  lenK v1 fun t9 =>
  neK .i64 t7 t9 fun t10 =>
  condK t10
  (K (.bool false) w)
  (LoopK [(.int .i64 0)] (fun vs again w1 => ∀ _h : Env,
  lenK v0 fun t13 =>
  ltK .i64 (nth vs 0) t13 fun t14 =>
  condK t14
  (DrawK w1 (fun C =>
  ixK 1 v0 (nth vs 0) fun t19 =>
  qld1K C t19 fun t20 =>
  ixK 1 v1 (nth vs 0) fun t23 =>
  qld1K C t23 fun t24 =>
  neK .i32 t20 t24 fun t25 =>
  ∀ w2 : World, C w2 →
  condK t25
  (K (.bool false) w2)
  (addK .i64 (nth vs 0) (.int .i64 1) fun t16 =>
  again [t16] w2)))
  (K (.bool true) w1)) w)
theorem S53_eq (v0 v1 : Value) (K : Cont) (w : World) : S53 v0 v1 K w = D Tryz.prog okf 26 (bodyOf Tryz.f53) (.node [] [] .nil (.node [] [] (.node [] [] .nil (.node [] [] (.node [] [] .nil .nil) .nil)) (.node [] [] (.node [] [] .nil (.node [5] [(4, 5), (11, 25)] (.node [] [] (.node [] [] .nil (.node [] [] .nil .nil)) (.node [] [] (.node [] [] .draw (.node [] [] (.node [] [] .nil .nil) .nil)) .nil)) .nil)) (.node [] [] .nil .nil)))) (retK Tryz.prog [.tmp 4] K) (nth [v0, v1]) w := by kernel_rfl
theorem S53_ok {v0 v1 : Value} {K : Cont} {w : World} (h : S53 v0 v1 K w) : callK Tryz.prog 53 [v0, v1] K w :=
  callK_of (P := Tryz.prog) (ok := okf) (n := 26) (fn := Tryz.f53) (c := bodyOf Tryz.f53) (rs := [.tmp 4]) (an := (.node [] [] .nil (.node [] [] (.node [] [] .nil (.node [] [] (.node [] [] .nil .nil) .nil)) (.node [] [] (.node [] [] .nil (.node [5] [(4, 5), (11, 25)] (.node [] [] (.node [] [] .nil (.node [] [] .nil .nil)) (.node [] [] (.node [] [] .draw (.node [] [] (.node [] [] .nil .nil) .nil)) .nil)) .nil)) (.node [] [] .nil .nil))))) good mixed Tryz.func53 (by kernel_rfl) (by kernel_rfl) (by kernel_rfl) (by kernel_rfl) (Eq.mp (S53_eq v0 v1 K w) h)

/-- rubric/rubricref06.Same -/
def S55 (v0 v1 : Value) (K : Cont) (w : World) : Prop :=
  lenK v0 fun t7 =>
  lenK v1 fun t9 =>
  neK .i64 t7 t9 fun t10 =>
  condK t10
  (K (.bool false) w)
  (LoopK [(.int .i64 0)] (fun vs again w1 => ∀ _h : Env,
  lenK v0 fun t13 =>
  ltK .i64 (nth vs 0) t13 fun t14 =>
  condK t14
  (DrawK w1 (fun C =>
  ixK 6 v0 (nth vs 0) fun t19 =>
  qldnK C 6 t19 fun t20 =>
  ixK 6 v1 (nth vs 0) fun t23 =>
  qldnK C 6 t23 fun t24 =>
  qrunK Tryz.prog C (binS .neq 111 (.tmp 20) (.tmp 24) t20 t24) fun t25 =>
  ∀ w2 : World, C w2 →
  condK t25
  (K (.bool false) w2)
  (addK .i64 (nth vs 0) (.int .i64 1) fun t16 =>
  again [t16] w2)))
  (K (.bool true) w1)) w)
theorem S55_eq (v0 v1 : Value) (K : Cont) (w : World) : S55 v0 v1 K w = D Tryz.prog okf 26 (bodyOf Tryz.f55) (.node [] [] .nil (.node [] [] (.node [] [] .nil (.node [] [] (.node [] [] .nil .nil) .nil)) (.node [] [] (.node [] [] .nil (.node [5] [(4, 5), (11, 25)] (.node [] [] (.node [] [] .nil (.node [] [] .nil .nil)) (.node [] [] (.node [] [] .draw (.node [] [] (.node [] [] .nil .nil) .nil)) .nil)) .nil)) (.node [] [] .nil .nil)))) (retK Tryz.prog [.tmp 4] K) (nth [v0, v1]) w := by kernel_rfl
theorem S55_ok {v0 v1 : Value} {K : Cont} {w : World} (h : S55 v0 v1 K w) : callK Tryz.prog 55 [v0, v1] K w :=
  callK_of (P := Tryz.prog) (ok := okf) (n := 26) (fn := Tryz.f55) (c := bodyOf Tryz.f55) (rs := [.tmp 4]) (an := (.node [] [] .nil (.node [] [] (.node [] [] .nil (.node [] [] (.node [] [] .nil .nil) .nil)) (.node [] [] (.node [] [] .nil (.node [5] [(4, 5), (11, 25)] (.node [] [] (.node [] [] .nil (.node [] [] .nil .nil)) (.node [] [] (.node [] [] .draw (.node [] [] (.node [] [] .nil .nil) .nil)) .nil)) .nil)) (.node [] [] .nil .nil))))) good mixed Tryz.func55 (by kernel_rfl) (by kernel_rfl) (by kernel_rfl) (by kernel_rfl) (Eq.mp (S55_eq v0 v1 K w) h)

/-- rubric/patch.Copy -/
def S86 (v0 : Value) (K : Cont) (w : World) : Prop :=
  callK Tryz.prog 140 [v0] (fun t4 w1 =>
  K t4 w1) w
theorem S86_eq (v0 : Value) (K : Cont) (w : World) : S86 v0 K w = D Tryz.prog okf 5 (bodyOf Tryz.f86) (.node [] [] .nil (.node [] [] .nil .nil)) (retK Tryz.prog [.tmp 2] K) (nth [v0]) w := by kernel_rfl
theorem S86_ok {v0 : Value} {K : Cont} {w : World} (h : S86 v0 K w) : callK Tryz.prog 86 [v0] K w :=
  callK_of (P := Tryz.prog) (ok := okf) (n := 5) (fn := Tryz.f86) (c := bodyOf Tryz.f86) (rs := [.tmp 2]) (an := (.node [] [] .nil (.node [] [] .nil .nil))) good mixed Tryz.func86 (by kernel_rfl) (by kernel_rfl) (by kernel_rfl) (by kernel_rfl) (Eq.mp (S86_eq v0 K w) h)

/-- slices.Clone[[]int32,int32] -/
def S84 (v0 : Value) (K : Cont) (w : World) : Prop :=
  snilK v0 fun b4 =>
  condK (.bool b4)
  (K (.slice none 0 0) w)
  (rowK 21 1 0 [] [] (fun t5 w1 =>
  runK Tryz.prog (Builtin.append_ #[35, 35] 35 [t5, v0].toArray) (fun t7 w2 =>
  K t7 w2) w1) w)
theorem S84_eq (v0 : Value) (K : Cont) (w : World) : S84 v0 K w = D Tryz.prog okf 8 (bodyOf Tryz.f84) (.node [] [] .nil (.node [] [] (.node [] [] .nil (.node [] [] (.node [] [] .nil .nil) .nil)) (.node [] [] .nil .nil))) (retK Tryz.prog [.tmp 2] K) (nth [v0]) w := by kernel_rfl
theorem S84_ok {v0 : Value} {K : Cont} {w : World} (h : S84 v0 K w) : callK Tryz.prog 84 [v0] K w :=
  callK_of (P := Tryz.prog) (ok := okf) (n := 8) (fn := Tryz.f84) (c := bodyOf Tryz.f84) (rs := [.tmp 2]) (an := (.node [] [] .nil (.node [] [] (.node [] [] .nil (.node [] [] (.node [] [] .nil .nil) .nil)) (.node [] [] .nil .nil)))) good mixed Tryz.func84 (by kernel_rfl) (by kernel_rfl) (by kernel_rfl) (by kernel_rfl) (Eq.mp (S84_eq v0 K w) h)

/-- rubric/ops.Copy -/
def S49 (v0 : Value) (K : Cont) (w : World) : Prop :=
  callK Tryz.prog 83 [v0] (fun t6 w1 =>
  lenK t6 fun t8 =>
  LoopK [(.int .i64 0)] (fun vs again w2 => ∀ _h : Env,
  ltK .i64 (nth vs 0) t8 fun t10 =>
  condK t10
  (DrawC [11, 17, 23, 26, 29, 32] [[], [], [], [], [], [], [], [], [6, 7], [6, 7, 8], [6, 7, 8, 9], [6, 7, 8, 9, 10], [], [], [12, 13], [12, 13, 14], [12, 13, 14, 15], [6, 7, 8, 9, 10, 11, 12, 13, 14, 15, 16], [], [], [18, 19], [18, 19, 20], [18, 19, 20, 21], [6, 7, 8, 9, 10, 11, 12, 13, 14, 15, 16, 17, 18, 19, 20, 21, 22], [0, 1, 6, 7, 8, 9, 10, 11, 12, 13, 14, 15, 16, 17, 18, 19, 20, 21, 22, 23], [0, 1, 6, 7, 8, 9, 10, 11, 12, 13, 14, 15, 16, 17, 18, 19, 20, 21, 22, 23, 24], [0, 1, 6, 7, 8, 9, 10, 11, 12, 13, 14, 15, 16, 17, 18, 19, 20, 21, 22, 23, 24, 25], [0, 1, 2, 3, 6, 7, 8, 9, 10, 11, 12, 13, 14, 15, 16, 17, 18, 19, 20, 21, 22, 23, 24, 25, 26], [0, 1, 2, 3, 6, 7, 8, 9, 10, 11, 12, 13, 14, 15, 16, 17, 18, 19, 20, 21, 22, 23, 24, 25, 26, 27], [0, 1, 2, 3, 6, 7, 8, 9, 10, 11, 12, 13, 14, 15, 16, 17, 18, 19, 20, 21, 22, 23, 24, 25, 26, 27, 28], [0, 1, 2, 3, 4, 5, 6, 7, 8, 9, 10, 11, 12, 13, 14, 15, 16, 17, 18, 19, 20, 21, 22, 23, 24, 25, 26, 27, 28, 29], [0, 1, 2, 3, 4, 5, 6, 7, 8, 9, 10, 11, 12, 13, 14, 15, 16, 17, 18, 19, 20, 21, 22, 23, 24, 25, 26, 27, 28, 29, 30], [0, 1, 2, 3, 4, 5, 6, 7, 8, 9, 10, 11, 12, 13, 14, 15, 16, 17, 18, 19, 20, 21, 22, 23, 24, 25, 26, 27, 28, 29, 30, 31]] w2.drew (fun M St =>
  ixK 5 t6 (nth vs 0) fun t20 =>
  faK 2 t20 fun t21 =>
  sld1 (St 10) t21 fun t22 =>
  callK Tryz.prog 84 [t22] (fun t23 w3 =>
  Mod (M 11) w2.drew w3 ∧
  ixK 5 t6 (nth vs 0) fun t26 =>
  faK 3 t26 fun t27 =>
  sld1 (St 16) t27 fun t28 =>
  callK Tryz.prog 85 [t28] (fun t29 w4 =>
  Mod (M 17) w3 w4 ∧
  ixK 5 t6 (nth vs 0) fun t32 =>
  faK 4 t32 fun t33 =>
  sld1 (St 22) t33 fun t34 =>
  callK Tryz.prog 86 [t34] (fun t35 w5 =>
  Mod (M 23) w4 w5 ∧
  ixK 5 t6 (nth vs 0) fun t36 =>
  faK 2 t36 fun t37 =>
  st1K t37 t23 (fun w6 =>
  Mod (M 26) w5 w6 ∧
  ixK 5 t6 (nth vs 0) fun t38 =>
  faK 3 t38 fun t39 =>
  st1K t39 t29 (fun w7 =>
  Mod (M 29) w6 w7 ∧
  ixK 5 t6 (nth vs 0) fun t40 =>
  faK 4 t40 fun t41 =>
  st1K t41 t35 (fun w8 =>
  Mod (M 32) w7 w8 ∧
  addK .i64 (nth vs 0) (.int .i64 1) fun t42 =>
  again [t42] w8) w7) w6) w5) w4) w3) w2.drew))
  (K t6 w2)) w1) w
theorem S49_eq (v0 : Value) (K : Cont) (w : World) : S49 v0 K w = D Tryz.prog okf 44 (bodyOf Tryz.f49) (.node [] [] .nil (.node [] [] .nil (.node [] [] (.node [] [] .nil (.node [9] [(4, 4), (9, 42)] (.node [] [] .nil (.node [] [] (.node [] [] .nil .nil) (.node [] [] (.node [] [] .nil (.dc [11, 17, 23, 26, 29, 32] [[], [], [], [], [], [], [], [], [6, 7], [6, 7, 8], [6, 7, 8, 9], [6, 7, 8, 9, 10], [], [], [12, 13], [12, 13, 14], [12, 13, 14, 15], [6, 7, 8, 9, 10, 11, 12, 13, 14, 15, 16], [], [], [18, 19], [18, 19, 20], [18, 19, 20, 21], [6, 7, 8, 9, 10, 11, 12, 13, 14, 15, 16, 17, 18, 19, 20, 21, 22], [0, 1, 6, 7, 8, 9, 10, 11, 12, 13, 14, 15, 16, 17, 18, 19, 20, 21, 22, 23], [0, 1, 6, 7, 8, 9, 10, 11, 12, 13, 14, 15, 16, 17, 18, 19, 20, 21, 22, 23, 24], [0, 1, 6, 7, 8, 9, 10, 11, 12, 13, 14, 15, 16, 17, 18, 19, 20, 21, 22, 23, 24, 25], [0, 1, 2, 3, 6, 7, 8, 9, 10, 11, 12, 13, 14, 15, 16, 17, 18, 19, 20, 21, 22, 23, 24, 25, 26], [0, 1, 2, 3, 6, 7, 8, 9, 10, 11, 12, 13, 14, 15, 16, 17, 18, 19, 20, 21, 22, 23, 24, 25, 26, 27], [0, 1, 2, 3, 6, 7, 8, 9, 10, 11, 12, 13, 14, 15, 16, 17, 18, 19, 20, 21, 22, 23, 24, 25, 26, 27, 28], [0, 1, 2, 3, 4, 5, 6, 7, 8, 9, 10, 11, 12, 13, 14, 15, 16, 17, 18, 19, 20, 21, 22, 23, 24, 25, 26, 27, 28, 29], [0, 1, 2, 3, 4, 5, 6, 7, 8, 9, 10, 11, 12, 13, 14, 15, 16, 17, 18, 19, 20, 21, 22, 23, 24, 25, 26, 27, 28, 29, 30], [0, 1, 2, 3, 4, 5, 6, 7, 8, 9, 10, 11, 12, 13, 14, 15, 16, 17, 18, 19, 20, 21, 22, 23, 24, 25, 26, 27, 28, 29, 30, 31]] [[11, 17, 23], [11, 17, 23, 26], [11, 17, 23, 26, 29]])) .nil))) .nil)) (.node [] [] .nil .nil)))) (retK Tryz.prog [.tmp 2] K) (nth [v0]) w := by kernel_rfl
theorem S49_ok {v0 : Value} {K : Cont} {w : World} (h : S49 v0 K w) : callK Tryz.prog 49 [v0] K w :=
  callK_of (P := Tryz.prog) (ok := okf) (n := 44) (fn := Tryz.f49) (c := bodyOf Tryz.f49) (rs := [.tmp 2]) (an := (.node [] [] .nil (.node [] [] .nil (.node [] [] (.node [] [] .nil (.node [9] [(4, 4), (9, 42)] (.node [] [] .nil (.node [] [] (.node [] [] .nil .nil) (.node [] [] (.node [] [] .nil (.dc [11, 17, 23, 26, 29, 32] [[], [], [], [], [], [], [], [], [6, 7], [6, 7, 8], [6, 7, 8, 9], [6, 7, 8, 9, 10], [], [], [12, 13], [12, 13, 14], [12, 13, 14, 15], [6, 7, 8, 9, 10, 11, 12, 13, 14, 15, 16], [], [], [18, 19], [18, 19, 20], [18, 19, 20, 21], [6, 7, 8, 9, 10, 11, 12, 13, 14, 15, 16, 17, 18, 19, 20, 21, 22], [0, 1, 6, 7, 8, 9, 10, 11, 12, 13, 14, 15, 16, 17, 18, 19, 20, 21, 22, 23], [0, 1, 6, 7, 8, 9, 10, 11, 12, 13, 14, 15, 16, 17, 18, 19, 20, 21, 22, 23, 24], [0, 1, 6, 7, 8, 9, 10, 11, 12, 13, 14, 15, 16, 17, 18, 19, 20, 21, 22, 23, 24, 25], [0, 1, 2, 3, 6, 7, 8, 9, 10, 11, 12, 13, 14, 15, 16, 17, 18, 19, 20, 21, 22, 23, 24, 25, 26], [0, 1, 2, 3, 6, 7, 8, 9, 10, 11, 12, 13, 14, 15, 16, 17, 18, 19, 20, 21, 22, 23, 24, 25, 26, 27], [0, 1, 2, 3, 6, 7, 8, 9, 10, 11, 12, 13, 14, 15, 16, 17, 18, 19, 20, 21, 22, 23, 24, 25, 26, 27, 28], [0, 1, 2, 3, 4, 5, 6, 7, 8, 9, 10, 11, 12, 13, 14, 15, 16, 17, 18, 19, 20, 21, 22, 23, 24, 25, 26, 27, 28, 29], [0, 1, 2, 3, 4, 5, 6, 7, 8, 9, 10, 11, 12, 13, 14, 15, 16, 17, 18, 19, 20, 21, 22, 23, 24, 25, 26, 27, 28, 29, 30], [0, 1, 2, 3, 4, 5, 6, 7, 8, 9, 10, 11, 12, 13, 14, 15, 16, 17, 18, 19, 20, 21, 22, 23, 24, 25, 26, 27, 28, 29, 30, 31]] [[11, 17, 23], [11, 17, 23, 26], [11, 17, 23, 26, 29]])) .nil))) .nil)) (.node [] [] .nil .nil))))) good mixed Tryz.func49 (by kernel_rfl) (by kernel_rfl) (by kernel_rfl) (by kernel_rfl) (Eq.mp (S49_eq v0 K w) h)

/-- slices.Clone[[]rubric/api.Op,rubric/api.Op] -/
def S83 (v0 : Value) (K : Cont) (w : World) : Prop :=
  snilK v0 fun b4 =>
  condK (.bool b4)
  (K (.slice none 0 0) w)
  (rowK 39 5 0 [] [] (fun t5 w1 =>
  runK Tryz.prog (Builtin.append_ #[31, 31] 31 [t5, v0].toArray) (fun t7 w2 =>
  K t7 w2) w1) w)
theorem S83_eq (v0 : Value) (K : Cont) (w : World) : S83 v0 K w = D Tryz.prog okf 8 (bodyOf Tryz.f83) (.node [] [] .nil (.node [] [] (.node [] [] .nil (.node [] [] (.node [] [] .nil .nil) .nil)) (.node [] [] .nil .nil))) (retK Tryz.prog [.tmp 2] K) (nth [v0]) w := by kernel_rfl
theorem S83_ok {v0 : Value} {K : Cont} {w : World} (h : S83 v0 K w) : callK Tryz.prog 83 [v0] K w :=
  callK_of (P := Tryz.prog) (ok := okf) (n := 8) (fn := Tryz.f83) (c := bodyOf Tryz.f83) (rs := [.tmp 2]) (an := (.node [] [] .nil (.node [] [] (.node [] [] .nil (.node [] [] (.node [] [] .nil .nil) .nil)) (.node [] [] .nil .nil)))) good mixed Tryz.func83 (by kernel_rfl) (by kernel_rfl) (by kernel_rfl) (by kernel_rfl) (Eq.mp (S83_eq v0 K w) h)

/-- slices.Clone[[]rubric/api.Change,rubric/api.Change] -/
def S140 (v0 : Value) (K : Cont) (w : World) : Prop :=
  snilK v0 fun b4 =>
  condK (.bool b4)
  (K (.slice none 0 0) w)
  (rowK 111 6 0 [] [] (fun t5 w1 =>
  runK Tryz.prog (Builtin.append_ #[37, 37] 37 [t5, v0].toArray) (fun t7 w2 =>
  K t7 w2) w1) w)
theorem S140_eq (v0 : Value) (K : Cont) (w : World) : S140 v0 K w = D Tryz.prog okf 8 (bodyOf Tryz.f140) (.node [] [] .nil (.node [] [] (.node [] [] .nil (.node [] [] (.node [] [] .nil .nil) .nil)) (.node [] [] .nil .nil))) (retK Tryz.prog [.tmp 2] K) (nth [v0]) w := by kernel_rfl
theorem S140_ok {v0 : Value} {K : Cont} {w : World} (h : S140 v0 K w) : callK Tryz.prog 140 [v0] K w :=
  callK_of (P := Tryz.prog) (ok := okf) (n := 8) (fn := Tryz.f140) (c := bodyOf Tryz.f140) (rs := [.tmp 2]) (an := (.node [] [] .nil (.node [] [] (.node [] [] .nil (.node [] [] (.node [] [] .nil .nil) .nil)) (.node [] [] .nil .nil)))) good mixed Tryz.func140 (by kernel_rfl) (by kernel_rfl) (by kernel_rfl) (by kernel_rfl) (Eq.mp (S140_eq v0 K w) h)

end Go.Proofs.YtlbaopamhkmepaaGreatDoor

namespace Go.K
open Go
theorem clone_g {α : Type} {P : Program} {t e k bytes : Nat} {R : World → List Value → α → Prop} {S : Nat → Prop} {w : World} {v : Value} {l : List α} {K : Cont} (hE : ElemOK P t e k bytes) (h : SlR S k R w v l) (hl : l.length * bytes ≤ 140737488355328)
    (hone : ∀ w r y, R w r y → ∀ u ∈ r, u.oneCell' = true) (hR : ∀ w1 w2 r y, w.heap.size ≤ w1.heap.size → Mod (fun b => w.heap.size ≤ b) w1 w2 → R w1 r y → R w2 r y)
    (hK : ∀ v' w', OwnR w.heap.size e k R w' v' l → Grow w w' → K v' w') :
    snilK v fun b4 => condK (.bool b4) (K (.slice none 0 0) w) (rowK e k 0 [] [] (fun t5 w1 => runK P (Builtin.append_ #[t, t] t [t5, v].toArray) (fun t7 w2 => K t7 w2) w1) w) := by
  obtain ⟨a, c, rfl, hm⟩ := h.shape
  have hk := hE
  obtain ⟨_, _, _, _, _, _, _, _, hk0⟩ := hk
  cases a with
  | none =>
    simp only [KS]
    have : l = [] := by
      cases l with
      | nil => rfl
      | cons x l => obtain ⟨p, r, e, _⟩ := h.get (i := 0) (by simp); cases e
    subst this
    exact hK _ _ OwnR.nil (Mod.refl _ _)
  | some p =>
    simp only [KS]
    refine rowK_empty ?_
    have hg : Grow w (w.alloc (.cells #[] e)) := Mod.alloc _ _ _
    have ho : OwnR w.heap.size e k R (w.alloc (.cells #[] e)) (.slice (some ⟨w.heap.size, 0, none⟩) 0 0) ([] : List α) := OwnR.made (Nat.le_refl _)
    obtain ⟨v', w', h1, h2, h3, h4⟩ := OwnR.append (ty := t) hE ho ((h.old hk0).grow hg hk0 fun r x hx => hR _ _ _ _ (Nat.le_refl _) hg.mod hx) (fun _ _ => hone _ _ _) (by simpa using hl) (by simp) (by simpa using hm) (fun w' hg' r y hy => hR _ _ _ _ hg.size ((Mod.of_grownBy hg').mono fun b _ e => by simp only [Value.ownBlock, Option.some.injEq] at e; omega) hy)
    refine runK_i h1 (hK _ _ ?_ (hg.next (Mod.of_grownBy h3) ?_))
    · refine h2.base fun g hg' => ?_
      rcases h4 g hg' with h | h
      · cases h; exact Nat.le_refl _
      · simp only [World.size_alloc] at h; omega
    · intro b hb e; simp only [Value.ownBlock, Option.some.injEq] at e; omega
theorem condK_neg {p : Prop} [Decidable p] {A B : Prop} (h1 : p → B) (h2 : ¬ p → A) : condK (.bool (!decide p)) A B := by
  by_cases h : p
  · rw [decide_eq_true h]; exact h1 h
  · rw [decide_eq_false h]; exact h2 h
/-- the loop that compares two rows of the same length -/
theorem eq_loop {α : Type} [DecidableEq α] {P : Program} {k : Nat} {R R' : World → List Value → α → Prop} {S S' : Nat → Prop} {w : World} {a b : Option Addr} {ca cb : Nat} {l m : List α} {K : Cont} {bin : Value → Value → Sem Value}
    (ha : SlR S k R w (.slice a l.length ca) l) (hb : SlR S' k R' w (.slice b m.length cb) m) (hlen : l.length = m.length) (hm : l.length ≤ maxLen)
    (hbin : ∀ r r' x y w1, R w r x → R' w r' y → (bin (.agg r.toArray) (.agg r'.toArray)).run P w1 = .ok (.bool (!decide (x = y))) w1)
    (hK : ∀ w', Grow w w' → K (.bool (decide (l = m))) w') :
    LoopK [(.int .i64 0)] (fun vs again w1 => ∀ _ : Env, ltK .i64 (nth vs 0) (.int .i64 l.length) fun t14 => condK t14
      (DrawK w1 (fun C => ixK k (.slice a l.length ca) (nth vs 0) fun t18 => qldnK C k t18 fun t19 => ixK k (.slice b m.length cb) (nth vs 0) fun t22 => qldnK C k t22 fun t23 => qrunK P C (bin t19 t23) fun t24 =>
        ∀ w2 : World, C w2 → condK t24 (K (.bool false) w2) (addK .i64 (nth vs 0) (.int .i64 1) fun t25 => again [t25] w2)))
      (K (.bool true) w1)) w := by
  simp only [maxLen] at hm
  refine LoopK_i (fun vs w' => ∃ k : Nat, k ≤ l.length ∧ vs = [.int .i64 k] ∧ Grow w w' ∧ l.take k = m.take k) (fun vs _ => l.length - iOf vs 0) ⟨0, Nat.zero_le _, rfl, Mod.refl _ _, rfl⟩ ?_
  rintro vs w1 ⟨q, hq, rfl, hg, ht⟩ h
  simp only [KS]
  by_cases hlt : q < l.length
  · rw [if_pos (show (q : Int) < l.length by omega)]
    refine ⟨fun w2 => Grow w1 w2, Mod.drew _ _, ?_⟩
    obtain ⟨p, r, rfl, _, hr, hc, hx⟩ := ha.get hlt
    obtain ⟨p', r', rfl, _, hr', hc', hx'⟩ := hb.get (show q < m.length by omega)
    refine ixK_n hlt (qldnK_i hr (fun w2 h2 j u hu => ?_) ?_)
    · rw [Addr.add_add]; exact h2.cell (hg.cell (hc j u hu) (fun h => h)) (fun h => h)
    refine ixK_n (by omega) (qldnK_i hr' (fun w2 h2 j u hu => ?_) ?_)
    · rw [Addr.add_add]; exact h2.cell (hg.cell (hc' j u hu) (fun h => h)) (fun h => h)
    refine ⟨_, fun w2 _ => hbin _ _ _ _ w2 hx hx', fun w2 h2 => ?_⟩
    simp only [KS]
    by_cases he : l[q] = m[q]
    · rw [if_neg (fun h => h he)]
      refine ⟨⟨q + 1, by omega, by rw [wrap64 (by omega) (by omega)]; rfl, hg.trans h2, ?_⟩, ?_⟩
      · rw [List.take_add_one, List.take_add_one, ht]
        simp [hlt, show q < m.length by omega, he]
      · simp only [iOf, nth, List.headD_cons]; rw [wrap64 (by omega) (by omega)]; omega
    · rw [if_pos he]
      have : decide (l = m) = false := by rw [decide_eq_false_iff_not]; intro e; subst e; exact he rfl
      rw [← this]; exact hK _ (hg.trans h2)
  · rw [if_neg (show ¬ (q : Int) < l.length by omega)]
    have : q = l.length := by omega
    subst this
    rw [List.take_length, hlen, List.take_length] at ht
    have : decide (l = m) = true := by rw [decide_eq_true_eq]; exact ht
    rw [← this]; exact hK _ hg
/-- the same at elements of one cell -/
theorem eq_loop1 {q : IntKind} {R : World → List Value → Int → Prop} {S S' : Nat → Prop} {w : World} {a b : Option Addr} {ca cb : Nat} {l m : List Int} {K : Cont}
    (ha : SlR S 1 R w (.slice a l.length ca) l) (hb : SlR S' 1 R w (.slice b m.length cb) m) (hlen : l.length = m.length) (hm : l.length ≤ maxLen)
    (hRi : ∀ r x, R w r x → r = [.int q x])
    (hK : ∀ w', Grow w w' → K (.bool (decide (l = m))) w') :
    LoopK [(.int .i64 0)] (fun vs again w1 => ∀ _ : Env, ltK .i64 (nth vs 0) (.int .i64 l.length) fun t14 => condK t14
      (DrawK w1 (fun C => ixK 1 (.slice a l.length ca) (nth vs 0) fun t18 => qld1K C t18 fun t19 => ixK 1 (.slice b m.length cb) (nth vs 0) fun t22 => qld1K C t22 fun t23 => neK q t19 t23 fun t24 =>
        ∀ w2 : World, C w2 → condK t24 (K (.bool false) w2) (addK .i64 (nth vs 0) (.int .i64 1) fun t25 => again [t25] w2)))
      (K (.bool true) w1)) w := by
  simp only [maxLen] at hm
  refine LoopK_i (fun vs w' => ∃ k : Nat, k ≤ l.length ∧ vs = [.int .i64 k] ∧ Grow w w' ∧ l.take k = m.take k) (fun vs _ => l.length - iOf vs 0) ⟨0, Nat.zero_le _, rfl, Mod.refl _ _, rfl⟩ ?_
  rintro vs w1 ⟨i, hi, rfl, hg, ht⟩ h
  simp only [KS]
  by_cases hlt : i < l.length
  · rw [if_pos (show (i : Int) < l.length by omega)]
    refine ⟨fun w2 => Grow w1 w2, Mod.drew _ _, ?_⟩
    obtain ⟨p, r, rfl, _, hr, hc, hx⟩ := ha.get hlt
    obtain ⟨p', r', rfl, _, hr', hc', hx'⟩ := hb.get (show i < m.length by omega)
    obtain rfl := hRi _ _ hx
    obtain rfl := hRi _ _ hx'
    refine ixK_n hlt (qld1K_i (v := .int q l[i]) (fun w2 h2 => h2.cell (hg.cell (hc 0 _ rfl) fun h => h) fun h => h) ?_)
    refine ixK_n (by omega) (qld1K_i (v := .int q m[i]) (fun w2 h2 => h2.cell (hg.cell (hc' 0 _ rfl) fun h => h) fun h => h) ?_)
    simp only [KS]
    intro w2 h2
    by_cases he : l[i] = m[i]
    · rw [if_neg (fun h => h he)]
      refine ⟨⟨i + 1, by omega, by rw [wrap64 (by omega) (by omega)]; rfl, hg.trans h2, ?_⟩, ?_⟩
      · rw [List.take_add_one, List.take_add_one, ht]
        simp [hlt, show i < m.length by omega, he]
      · simp only [iOf, nth, List.headD_cons]; rw [wrap64 (by omega) (by omega)]; omega
    · rw [if_pos he]
      have : decide (l = m) = false := by rw [decide_eq_false_iff_not]; intro e; subst e; exact he rfl
      rw [← this]; exact hK _ (hg.trans h2)
  · rw [if_neg (show ¬ (i : Int) < l.length by omega)]
    have : i = l.length := by omega
    subst this
    rw [List.take_length, hlen, List.take_length] at ht
    have : decide (l = m) = true := by rw [decide_eq_true_eq]; exact ht
    rw [← this]; exact hK _ hg
end Go.K
namespace Go.Proofs.YtlbaopamhkmepaaGreatDoor
open Go Go.K
theorem clone_run {S : Nat → Prop} {v : Value} {l : List Int} {w : World} (h : SlR S 1 RRune w v l) (hl : l.length * 4 ≤ 140737488355328) :
    callK Tryz.prog 84 [v] (fun v' w' => OwnR w.heap.size 21 1 RRune w' v' l ∧ Grow w w') w := by
  apply S84_ok
  unfold S84
  exact clone_g elem_rune h hl (fun _ _ _ => RRune.one) (fun _ _ _ _ _ _ h => h) fun v' w' h1 h2 => And.intro h1 h2
theorem clone_pat {S : Nat → Prop} {v : Value} {l : List Chg} {w : World} (h : SlR S 6 RChg w v l) (hl : l.length * 56 ≤ 140737488355328) :
    callK Tryz.prog 140 [v] (fun v' w' => OwnR w.heap.size 111 6 RChg w' v' l ∧ Grow w w') w := by
  apply S140_ok
  unfold S140
  exact clone_g elem_chg h hl (fun _ _ _ => RChg.one) (fun _ _ _ _ _ _ h => h) fun v' w' h1 h2 => And.intro h1 h2
theorem RDops.old {S D : Nat → Prop} {w : World} {v : Value} {l : List Dop} (h : RDops S D w v l) : RDops (fun b => S b ∧ b < w.heap.size) (fun b => D b ∧ b < w.heap.size) w v l :=
  SlR.sub h (fun b hb h => ⟨h, hb⟩) (by decide) fun r x hx => hx.mod (Mod.refl (fun _ => False) _) (fun _ _ _ h => h) fun b hb h => ⟨h, hb⟩
/-- a row of ops of its own; what they hold is what was held -/
theorem clone_dops {S D : Nat → Prop} {v : Value} {l : List Dop} {w : World} (h : RDops S D w v l) (hl : l.length * 88 ≤ 140737488355328) :
    callK Tryz.prog 83 [v] (fun v' w' => OwnR w.heap.size 39 5 (RDop fun b => D b ∧ b < w.heap.size) w' v' l ∧ Grow w w') w := by
  apply S83_ok
  unfold S83
  exact clone_g elem_dop h.old hl (fun _ _ _ => RDop.one) (fun w1 w2 r y hz hm hy => hy.mod hm (fun b _ hd hb => by omega) fun _ _ h => h) fun v' w' h1 h2 => And.intro h1 h2
theorem copy_pat {S : Nat → Prop} {v : Value} {l : List Chg} {w : World} (h : RPat S w v l) (hl : l.length * 56 ≤ 140737488355328) :
    callK Tryz.prog 86 [v] (fun v' w' => OwnR w.heap.size 111 6 RChg w' v' l ∧ Grow w w') w := by
  apply S86_ok
  exact clone_pat h hl
theorem rsame_run {S S' : Nat → Prop} {a b : Value} {l m : List Int} {w : World} (ha : SlR S 1 RRune w a l) (hb : SlR S' 1 RRune w b m) :
    callK Tryz.prog 53 [a, b] (fun v w' => v = .bool (decide (l = m)) ∧ Grow w w') w := by
  apply S53_ok
  unfold S53
  obtain ⟨pa, ca, rfl, hla⟩ := ha.shape
  obtain ⟨pb, cb, rfl, hlb⟩ := hb.shape
  simp only [lenK_i]
  rw [neK_i]
  refine condK_neg (fun hlen => ?_) fun hlen => ?_
  · exact eq_loop1 (K := fun v w' => v = .bool (decide (l = m)) ∧ Grow w w') ha hb (by omega) hla (fun _ _ h => h) fun _ hg => ⟨rfl, hg⟩
  · refine ⟨?_, Mod.refl _ _⟩
    congr 1; symm
    rw [decide_eq_false_iff_not]
    intro e; exact hlen (by rw [e])
theorem rsame_pat {S S' : Nat → Prop} {a b : Value} {l m : List Chg} {w : World} (ha : SlR S 6 RChg w a l) (hb : SlR S' 6 RChg w b m) :
    callK Tryz.prog 55 [a, b] (fun v w' => v = .bool (decide (l = m)) ∧ Grow w w') w := by
  apply S55_ok
  unfold S55
  obtain ⟨pa, ca, rfl, hla⟩ := ha.shape
  obtain ⟨pb, cb, rfl, hlb⟩ := hb.shape
  simp only [lenK_i]
  rw [neK_i]
  refine condK_neg (fun hlen => ?_) fun hlen => ?_
  · exact eq_loop (K := fun v w' => v = .bool (decide (l = m)) ∧ Grow w w') (bin := fun x y => binS .neq 111 _ _ x y) ha hb (by omega) hla (fun r r' x y w1 hx hy => by subst hx; subst hy; exact run_ne_chg _ _ _ _ w1) fun _ hg => ⟨rfl, hg⟩
  · refine ⟨?_, Mod.refl _ _⟩
    congr 1; symm
    rw [decide_eq_false_iff_not]
    intro e; exact hlen (by rw [e])
end Go.Proofs.YtlbaopamhkmepaaGreatDoor

namespace Go.K
open Go
/-- a struct that is handed over, laid in a box -/
theorem boxn_i {t : TypeId} {vs : List Value} {K : Cont} {w : World} (h : ∀ b w1, b = w.heap.size → w1.heap.size = w.heap.size + 1 → Grow w w1 → (∀ j v, vs[j]? = some v → w1.cell? ((⟨b, 0, none⟩ : Addr).add j) = some v) → (∀ j, j < vs.length → Live w1 ((⟨b, 0, none⟩ : Addr).add j)) → K (.pointer (some ⟨b, 0, none⟩)) w1) : boxnK t (.agg vs.toArray) K w := by
  refine ⟨vs, rfl, ?_⟩
  refine h w.heap.size _ rfl (by simp) (Mod.alloc _ _ _) (fun j v hv => cell_box hv) fun j hj => ?_
  have hadd : (⟨w.heap.size, 0, none⟩ : Addr).add j = ⟨w.heap.size, j, none⟩ := by unfold Addr.add; split <;> simp_all
  rw [hadd]
  refine ⟨?_, World.frozen?_alloc_new ..⟩
  rw [World.cell?_alloc_new]; simp [hj]
/-- one that is laid anew and filled -/
theorem newst_i {t : TypeId} {zs vs : List Value} {K : Value → World → Prop} {w : World} (hl : zs.length = vs.length) (h1 : ∀ v ∈ vs, v.oneCell' = true) (h : ∀ b w1, b = w.heap.size → w1.heap.size = w.heap.size + 1 → Grow w w1 → (∀ j v, vs[j]? = some v → w1.cell? ((⟨b, 0, none⟩ : Addr).add j) = some v) → (∀ j, j < vs.length → Live w1 ((⟨b, 0, none⟩ : Addr).add j)) → K (.pointer (some ⟨b, 0, none⟩)) w1) :
    newK t zs (fun t5 w3 => stnK vs.length t5 (.agg vs.toArray) (fun w4 => K t5 w4) w3) w := by
  refine newK_i (stnew hl h1 ?_)
  obtain ⟨vs', e, h2⟩ := boxn_i (t := t) (K := K) (w := w) h
  have : vs = vs' := by
    have := congrArg Value.cells e
    simpa [Value.cells] using this
  subst this
  exact h2
theorem newst_n {t : TypeId} {n : Nat} {zs vs : List Value} {K : Value → World → Prop} {w : World} (hn : vs.length = n) (hl : zs.length = n) (h1 : ∀ v ∈ vs, v.oneCell' = true) (h : ∀ b w1, b = w.heap.size → w1.heap.size = w.heap.size + 1 → Grow w w1 → (∀ j v, vs[j]? = some v → w1.cell? ((⟨b, 0, none⟩ : Addr).add j) = some v) → (∀ j, j < vs.length → Live w1 ((⟨b, 0, none⟩ : Addr).add j)) → K (.pointer (some ⟨b, 0, none⟩)) w1) :
    newK t zs (fun t5 w3 => stnK n t5 (.agg vs.toArray) (fun w4 => K t5 w4) w3) w := by
  subst hn; exact newst_i hl h1 h
theorem sld1_i {St : Addr → Value → Prop} {a : Addr} {v : Value} {k : Value → Prop} (h : St a v) (hk : k v) : sld1 St (.pointer (some a)) k := ⟨a, v, rfl, h, hk⟩
theorem sldn_i {St : Addr → Value → Prop} {m : Nat} {a : Addr} {vs : List Value} {k : Value → Prop} (hl : vs.length = m) (h : ∀ j v, vs[j]? = some v → St (a.add j) v) (hk : k (.agg vs.toArray)) : sldn St m (.pointer (some a)) k := ⟨a, vs, rfl, hl, h, hk⟩
theorem drawK_i {w : World} {F : (World → Prop) → Prop} (C : World → Prop) (h0 : C w.drew) (h : F C) : DrawK w F := ⟨C, h0, h⟩
theorem drawC_i {eff : List Nat} {AN : List (List Nat)} {w0 : World} {F : (Nat → Nat → Prop) → (Nat → Addr → Value → Prop) → Prop} (M : Nat → Nat → Prop) (h : F M (StI eff AN M w0)) : DrawC eff AN w0 F := ⟨M, h⟩
/-- a struct's cells written over -/
theorem setL_over {b : Nat} : ∀ (vs : List Value) (i : Nat) (W : World), (∀ j, i ≤ j → j < i + vs.length → Live W ((⟨b, 0, none⟩ : Addr).add j)) →
    Mod (fun x => x = b) W (setL W ⟨b, 0, none⟩ i vs) ∧ (∀ j u, vs[j]? = some u → (setL W ⟨b, 0, none⟩ i vs).cell? ((⟨b, 0, none⟩ : Addr).add (i + j)) = some u) ∧ (∀ j, j < i → (setL W ⟨b, 0, none⟩ i vs).cell? ((⟨b, 0, none⟩ : Addr).add j) = W.cell? ((⟨b, 0, none⟩ : Addr).add j)) ∧ (∀ a, Live W a → Live (setL W ⟨b, 0, none⟩ i vs) a) := by
  intro vs
  induction vs with
  | nil => intro i W _; exact ⟨Mod.refl _ _, fun j u hu => by simp at hu, fun _ _ => rfl, fun _ h => h⟩
  | cons x vs ih =>
    intro i W hl
    simp only [setL]
    obtain ⟨i1, i2, i3, i4⟩ := ih (i + 1) (W.setCell ((⟨b, 0, none⟩ : Addr).add i) x) (fun j h1 h2 => (hl j (by omega) (by simp; omega)).set _ _)
    refine ⟨(Mod.setCell _ _ _ (by rw [addr0])).trans i1, fun j u hu => ?_, fun j hj => ?_, fun a ha => i4 a (ha.set _ _)⟩
    · cases j with
      | zero =>
        simp at hu; subst hu
        obtain ⟨u', hu'⟩ := Option.isSome_iff_exists.1 (hl i (Nat.le_refl _) (by simp)).1
        exact (i3 i (by omega)).trans (World.cell?_setCell_same _ _ _ hu')
      | succ j =>
        have := i2 j u (by simpa using hu)
        rw [show i + (j + 1) = i + 1 + j by omega]; exact this
    · rw [i3 j (by omega), World.cell?_setCell_other _ _ _ _ (by rw [addr0, addr0]; intro e; simp only [Addr.mk.injEq] at e; omega)]
theorem stn_over {b n : Nat} {vs : List Value} {K : World → Prop} {W : World} (hn : vs.length = n) (h1 : ∀ v ∈ vs, v.oneCell' = true) (hl : ∀ j, j < n → Live W ((⟨b, 0, none⟩ : Addr).add j))
    (hK : ∀ W', Mod (fun x => x = b) W W' → (∀ j u, vs[j]? = some u → W'.cell? ((⟨b, 0, none⟩ : Addr).add j) = some u) → (∀ a, Live W a → Live W' a) → K W') : stnK n (.pointer (some ⟨b, 0, none⟩)) (.agg vs.toArray) K W := by
  obtain ⟨q1, q2, _, q4⟩ := setL_over (b := b) vs 0 W (fun j _ hj => hl j (by omega))
  exact ⟨_, vs, rfl, rfl, hn, h1, fun j hj => hl j hj, hK _ q1 (fun j u hu => by have := q2 j u hu; rwa [Nat.zero_add] at this) q4⟩
/-- a box that is laid anew, with what its type's zero has -/
theorem newz_i {t : TypeId} {zs : List Value} {K : Cont} {w : World} (h : ∀ b w1, b = w.heap.size → w1.heap.size = w.heap.size + 1 → Grow w w1 → (∀ j v, zs[j]? = some v → w1.cell? ((⟨b, 0, none⟩ : Addr).add j) = some v) → (∀ j, j < zs.length → Live w1 ((⟨b, 0, none⟩ : Addr).add j)) → K (.pointer (some ⟨b, 0, none⟩)) w1) : newK t zs K w := by
  refine newK_i ?_
  obtain ⟨vs', e, h2⟩ := boxn_i (t := t) (vs := zs) (K := K) (w := w) h
  have : zs = vs' := by have := congrArg Value.cells e; simpa [Value.cells] using this
  subst this
  exact h2
theorem loop_step {n : Nat} (h : (n : Int) + 1 ≤ 9223372036854775807) : Value.int .i64 (IntKind.i64.wrap ((n : Int) + 1)) = .int .i64 ((n + 1 : Nat) : Int) := by
  rw [wrap64 (by omega) (by omega)]; rfl
theorem iOf0 {q : IntKind} {n : Int} {r : List Value} : iOf (.int q n :: r) 0 = n.toNat := rfl
end Go.K
namespace Go.Proofs.YtlbaopamhkmepaaGreatDoor
open Go Go.K

def MayR (r : Int) : Prop := 0 ≤ r ∧ r < 55296 ∨ 57344 ≤ r ∧ r ≤ 1114111
instance (r : Int) : Decidable (MayR r) := by unfold MayR; infer_instance
/-- an op's right form, runes and all -/
def FormO (o : Dop) : Prop := (o.kind = 1 ∧ o.runes = [] ∧ o.set = [] ∧ 1 ≤ o.n ∧ o.n ≤ 536870912) ∨ (o.kind = 3 ∧ o.runes = [] ∧ o.set = [] ∧ o.patch = [] ∧ 1 ≤ o.n ∧ o.n ≤ 536870912) ∨
  (o.kind = 2 ∧ (∀ r ∈ o.runes, MayR r) ∧ o.n = 0 ∧ o.patch = [] ∧ 1 ≤ o.runes.length ∧ o.runes.length ≤ 536870912)
instance (o : Dop) : Decidable (FormO o) := by unfold FormO; infer_instance
theorem FormO.form1 {o : Dop} (h : FormO o) : (o.kind = 1 ∧ o.runes = [] ∧ o.set = [] ∧ 1 ≤ o.n ∧ o.n ≤ 536870912) ∨ (o.kind = 3 ∧ o.runes = [] ∧ o.set = [] ∧ o.patch = [] ∧ 1 ≤ o.n ∧ o.n ≤ 536870912) ∨ (o.kind = 2 ∧ o.n = 0 ∧ o.patch = [] ∧ o.runes ≠ []) := by
  rcases h with h | h | h
  · exact .inl h
  · exact .inr (.inl h)
  · refine .inr (.inr ⟨h.1, h.2.2.1, h.2.2.2.1, fun e => ?_⟩)
    have := h.2.2.2.2.1
    rw [e] at this; simp at this

/-- an op's length -/
def lenO (o : Dop) : Int := if o.kind = 2 then o.runes.length else o.n
/-- sums, as the program reckons them -/
def sumW (f : Dop → Int) (x : List Dop) : Int := x.foldl (fun s o => IntKind.i64.wrap (s + f o)) 0
def takesF (o : Dop) : Int := if o.kind = 2 then 0 else o.n
def makesF (o : Dop) : Int := if o.kind = 3 then 0 else lenO o
end Go.Proofs.YtlbaopamhkmepaaGreatDoor

namespace Go.K
open Go
theorem rem_i {P : Program} {t : TypeId} {xo yo : Operand} {k : IntKind} {a b : Int} {K : Cont} {w : World} (hb : b ≠ 0) (h : K (.int k (a.tmod b)) w) : runK P (binS .rem t xo yo (.int k a) (.int k b)) K w := by
  refine ⟨_, _, ?_, h⟩
  simp [binS, eqGuard_rem, binOp_rem, Op.intDiv, hb]
theorem conv_i {P : Program} {s d : TypeId} {q k : IntKind} {n : Int} {K : Cont} {w : World} (hs : (P.underlying s).isSome = true) (hd : P.underlying d = some (.int k)) (h : K (.int k (k.wrap n)) w) : runK P (convert s d (.int q n)) K w := by
  refine ⟨_, _, ?_, h⟩
  obtain ⟨e, he⟩ := Option.isSome_iff_exists.mp hs
  simp [convert, run_underlying he, run_underlying hd, Conv.intToInt]
end Go.K
namespace Go.Proofs.YtlbaopamhkmepaaGreatDoor
open Go Go.K
abbrev RByte : World → List Value → Int → Prop := fun _ r x => r = [.int .u8 x]
def bytesL (s : ByteArray) : List Int := s.data.toList.map fun b => (b.toNat : Int)
/-- how many bytes a rune has -/
def oneLen (r : Int) : Nat := if r < 128 then 1 else if r < 2048 then 2 else if r < 65536 then 3 else 4
theorem rowK_i {e k len : Nat} {zero : List Value} {parts : List (Nat × Value)} {cs : List Value} {K : Cont} {w : World} (hf : Instr.fill (fun i => some (i * k, k)) ((Array.range (len * k)).map (zero.toArray[· % zero.toArray.size]!)) parts = some cs.toArray) (h : K (.slice (some ⟨w.heap.size, 0, none⟩) len len) (w.alloc (.cells cs.toArray e))) : rowK e k len zero parts K w := ⟨_, hf, h⟩
/-- the rune that bytes begin with, as the document reckons it -/
def nextHead (b0 : Int) : Option (Nat × Int) :=
  if 240 ≤ b0 then some (4, IntKind.i32.wrap (IntKind.i32.wrap b0 - 240)) else if 224 ≤ b0 then some (3, IntKind.i32.wrap (IntKind.i32.wrap b0 - 224)) else if 192 ≤ b0 then some (2, IntKind.i32.wrap (IntKind.i32.wrap b0 - 192))
  else if 128 ≤ b0 then none else some (1, IntKind.i32.wrap b0)
def contB (b : List Int) : Nat → Nat → Int → Option Int
  | 0, _, r => some r
  | k + 1, i, r => match b[i]? with
    | some c => if c < 128 ∨ 191 < c then none else contB b k (i + 1) (IntKind.i32.wrap (IntKind.i32.wrap (IntKind.i32.wrap (r * 64) + IntKind.i32.wrap c) - 128))
    | none => none
def nextB (b : List Int) : Int × Nat := match nextHead (b.headD 0) with
  | none => (0, 0)
  | some (n, r) => if b.length < n then (0, 0) else match contB b (n - 1) 1 r with
    | none => (0, 0)
    | some r => if MayR r ∧ oneLen r = n then (r, n) else (0, 0)
end Go.Proofs.YtlbaopamhkmepaaGreatDoor

namespace Go.K
open Go
theorem push_g2 {α : Type} {P : Program} {t e k bytes B : Nat} {R : World → List Value → α → Prop} {w : World} {v : Value} {l : List α} {x : α} {zero : List Value} {parts : List (Nat × Value)} {cs : List Value} {K : Cont} (hE : ElemOK P t e k bytes) (h : OwnR B e k R w v l) (hB : B ≤ w.heap.size)
    (hf : Instr.fill (fun i => some (i * k, k)) ((Array.range (1 * k)).map (zero.toArray[· % zero.toArray.size]!)) parts = some cs.toArray) (hcs : cs.length = k) (hx : R w cs x) (hone : ∀ w r y, R w r y → ∀ u ∈ r, u.oneCell' = true)
    (hR : ∀ w1 w2 r y, w.heap.size ≤ w1.heap.size → Mod (fun b => v.ownBlock = some b ∨ w.heap.size ≤ b) w1 w2 → R w1 r y → R w2 r y) (hlen : (l.length + 1) * bytes ≤ 140737488355328) (hlm : l.length + 1 ≤ maxLen)
    {Q1 : World → Prop} {Q2 : World → World → Prop} (hQ1 : ∀ w1, Grow w w1 → Q1 w1)
    (hK : ∀ w1 v' w', OwnR B e k R w' v' (l ++ [x]) → Mod (fun b => v.ownBlock = some b) w1 w' → Mod (fun b => v.ownBlock = some b) w w' → (∀ g, v'.ownBlock = some g → v.ownBlock = some g ∨ w.heap.size ≤ g) → Q2 w1 w' ∧ K v' w') :
    rowK e k 1 zero parts (fun s w1 => Q1 w1 ∧ runK P (Builtin.append_ #[t, t] t [v, s].toArray) (fun v' w' => Q2 w1 w' ∧ K v' w') w1) w := by
  refine ⟨_, hf, ?_⟩
  have hg : Grow w (w.alloc (.cells cs.toArray e)) := Mod.alloc _ _ _
  have hc : ∀ j u, cs[j]? = some u → (w.alloc (.cells cs.toArray e)).cell? ((⟨w.heap.size, 0, none⟩ : Addr).add j) = some u := fun j u hu => cell_box hu
  have hz : (w.alloc (.cells cs.toArray e)).heap.size = w.heap.size + 1 := by simp
  generalize w.alloc (.cells cs.toArray e) = w1 at hg hc hz ⊢
  have h' : OwnR B e k R w1 v l := OwnR.mod h hg (fun _ _ h => h) fun r y _ hy => hR _ _ _ _ (Nat.le_refl _) hg.mod hy
  have hs : SlR (fun _ => True) k R w1 (.slice (some ⟨w.heap.size, 0, none⟩) 1 1) [x] := by
    refine ⟨_, 1, rfl, Nat.le_refl _, by simp [maxLen], fun i y hy => ?_⟩
    have hi : i = 0 := by have := (List.getElem?_eq_some_iff.1 hy).1; simp at this; exact this
    subst hi
    simp at hy; subst hy
    exact ⟨_, cs, rfl, trivial, hcs, fun j u hu => by rw [Nat.zero_mul, Nat.zero_add]; exact hc j u hu, hR _ _ _ _ (Nat.le_refl _) hg.mod hx⟩
  obtain ⟨v', w', h1, h2, h3, h4⟩ := OwnR.append (ty := t) hE h' hs (fun _ _ => hone _ _ _) (by simpa using hlen) (by omega) (by simpa using hlm) (fun w2 hg' r y hy => hR _ _ _ _ (by omega) ((Mod.of_grownBy hg').mono fun b _ e => .inl e) hy)
  refine ⟨hQ1 _ hg, runK_i h1 (hK w1 v' w' h2 (Mod.of_grownBy h3) (hg.mod.next (Mod.of_grownBy h3) fun _ _ h => h) fun g hg' => ?_)⟩
  rcases h4 g hg' with h | h
  · exact .inl h
  · exact .inr (by omega)
end Go.K
namespace Go.Proofs.YtlbaopamhkmepaaGreatDoor
open Go Go.K

def readF : Nat → List Int → Option (List Int)
  | 0, b => if b = [] then some [] else none
  | f + 1, b => if b = [] then some [] else if (nextB b).2 = 0 then none else (readF f (b.drop (nextB b).2)).map ((nextB b).1 :: ·)
def readB (b : List Int) : Option (List Int) := readF b.length b
end Go.Proofs.YtlbaopamhkmepaaGreatDoor

namespace Go.Proofs.YtlbaopamhkmepaaGreatDoor
open Go Go.K

/-- bits that say that it is no number -/
def NoNum (f : Int) : Prop := 9218868437227405312 < f.tmod 9223372036854775808
instance (f : Int) : Decidable (NoNum f) := by unfold NoNum; infer_instance
def noS : ByteArray := ByteArray.mk #[]
/-- a value that may be -/
def ValOK (v : AVal) : Prop := (v.kind = 1 ∧ v = ⟨1, v.n, 0, noS⟩ ∧ (v.n = 0 ∨ v.n = 1)) ∨ (v.kind = 2 ∧ v = ⟨2, v.n, 0, noS⟩) ∨ (v.kind = 3 ∧ v = ⟨3, 0, v.f, noS⟩ ∧ (¬ NoNum v.f ∨ v.f = 9221120237041090560)) ∨
  (v.kind = 4 ∧ v = ⟨4, 0, 0, v.s⟩ ∧ v.s.size ≤ 64 ∧ (readB (bytesL v.s)).isSome = true)
instance (v : AVal) : Decidable (ValOK v) := by unfold ValOK; infer_instance
theorem AVal.one (v : AVal) : ∀ u ∈ v.cells, u.oneCell' = true := by
  intro u hu
  simp only [AVal.cells, List.mem_cons, List.not_mem_nil, or_false] at hu
  rcases hu with rfl | rfl | rfl | rfl <;> rfl
/-! ### keys -/
def DKey.zero : DKey := ⟨0, false, 0, false, false, 0⟩
def findK (keys : List DKey) (id : Int) : Option DKey := keys.find? fun k => decide (k.id = id)
def FitsK (keys : List DKey) (id : Int) (v : AVal) : Prop := ∃ k, findK keys id = some k ∧ ValOK v ∧ v.kind = k.kind
end Go.Proofs.YtlbaopamhkmepaaGreatDoor

namespace Go.Proofs.YtlbaopamhkmepaaGreatDoor
open Go Go.K

/-- keys that rise, up to a place -/
def RisN {α : Type} (key : α → Int) (l : List α) (n : Nat) : Prop := ∀ i, 1 ≤ i → i < n → ∀ a b, l[i - 1]? = some a → l[i]? = some b → key a < key b
abbrev RisA (l : List Attr) : Prop := RisN Attr.key l l.length
abbrev RisC (l : List Chg) : Prop := RisN Chg.key l l.length
/-- why a set may not be -/
def SetBad (l : List Attr) : Prop := ¬ RisA l ∨ 64 < l.length ∨ ∃ a ∈ l, ¬ ValOK a.val
def SetNoKey (keys : List DKey) (l : List Attr) : Prop := ∃ a ∈ l, ¬ FitsK keys a.key a.val
open Classical in
noncomputable def maySet (keys : List DKey) (l : List Attr) : Int := if SetBad l then 3 else if SetNoKey keys l then 4 else 0
def AVal.zero : AVal := ⟨0, 0, 0, noS⟩
def PatBad (p : List Chg) : Prop := ¬ RisC p ∨ 64 < p.length ∨ ∃ c ∈ p, (c.gone = true ∧ c.val ≠ AVal.zero) ∨ (c.gone = false ∧ ¬ ValOK c.val)
def PatNoKey (keys : List DKey) (p : List Chg) : Prop := ∃ c ∈ p, findK keys c.key = none ∨ (c.gone = false ∧ ¬ FitsK keys c.key c.val)
open Classical in
noncomputable def mayPat (keys : List DKey) (p : List Chg) : Int := if PatBad p then 3 else if PatNoKey keys p then 4 else 0
end Go.Proofs.YtlbaopamhkmepaaGreatDoor

namespace Go.Proofs.YtlbaopamhkmepaaGreatDoor
open Go Go.K

def KeyOK (k : DKey) : Prop := 1 ≤ k.id ∧ k.id ≤ 1000 ∧ 1 ≤ k.kind ∧ k.kind ≤ 4 ∧ 0 ≤ k.group ∧ k.group ≤ 8 ∧ (k.block = false → k.group = 0) ∧ (k.block = true → k.before = false)
def MayN (keys : List DKey) (n : Nat) : Prop := ∀ i, i < n → ∀ k, keys[i]? = some k → KeyOK k ∧ ∀ j, j < i → ∀ k', keys[j]? = some k' → k'.id ≠ k.id
def MayKeys (keys : List DKey) : Prop := keys.length ≤ 64 ∧ MayN keys keys.length
def szA (l : List Attr) : Nat := (l.map fun a => a.val.s.size).sum
def szC (l : List Chg) : Nat := (l.map fun a => a.val.s.size).sum
theorem mSet_eq (l : List Attr) : mSet l = l.length + szA l := by
  induction l with
  | nil => rfl
  | cons a l ih => simp only [mSet, szA, List.map_cons, List.sum_cons, List.length_cons, mAttr] at ih ⊢; omega
theorem mPat_eq (l : List Chg) : mPat l = l.length + szC l := by
  induction l with
  | nil => rfl
  | cons a l ih => simp only [mPat, szC, List.map_cons, List.sum_cons, List.length_cons, mChg] at ih ⊢; omega
theorem mDops_mem {l : List Dop} {o : Dop} (h : o ∈ l) : mDop o ≤ mDops l := by
  induction l with
  | nil => simp at h
  | cons a l ih =>
    have e : mDops (a :: l) = mDop a + mDops l := by simp [mDops]
    rcases List.mem_cons.1 h with rfl | h
    · omega
    · have := ih h; omega
theorem mDops_len (l : List Dop) : l.length ≤ mDops l := by
  induction l with
  | nil => exact Nat.zero_le _
  | cons a l ih => simp only [mDops, List.map_cons, List.sum_cons, List.length_cons, mDop] at ih ⊢; omega
end Go.Proofs.YtlbaopamhkmepaaGreatDoor

namespace Go.Proofs.YtlbaopamhkmepaaGreatDoor
open Go Go.K

structure MkS where
  done : List Dop
  ins : List Dop
  gone : Int
def MkS.z : MkS := ⟨[], [], 0⟩
def gapL (ins : List Dop) (gone : Int) : List Dop := if 0 < gone then ins ++ [⟨3, gone, [], [], []⟩] else ins
def putS (d : List Dop) (n : Int) (p : List Chg) : List Dop :=
  match d.getLast? with
  | some o => if o.kind = 1 ∧ o.patch = p then d.set (d.length - 1) ⟨o.kind, IntKind.i64.wrap (o.n + n), o.runes, o.set, o.patch⟩ else d ++ [⟨1, n, [], [], p⟩]
  | none => d ++ [⟨1, n, [], [], p⟩]
def retS (s : MkS) (n : Int) (p : List Chg) : MkS := if n < 1 then s else ⟨putS (s.done ++ gapL s.ins s.gone) n p, [], 0⟩
def addI (ins : List Dop) (rs : List Int) (set : List Attr) : List Dop :=
  match ins.getLast? with
  | some o => if o.set = set then ins.set (ins.length - 1) ⟨o.kind, o.n, o.runes ++ rs, o.set, o.patch⟩ else ins ++ [⟨2, 0, rs, set, []⟩]
  | none => ins ++ [⟨2, 0, rs, set, []⟩]
def insS (s : MkS) (rs : List Int) (set : List Attr) : MkS := if rs = [] then s else ⟨s.done, addI s.ins rs set, s.gone⟩
def delS (s : MkS) (n : Int) : MkS := ⟨s.done, s.ins, IntKind.i64.wrap (s.gone + maxI n 0)⟩
def stepS (s : MkS) (o : Dop) : MkS := if o.kind = 1 then retS s o.n o.patch else if o.kind = 2 then insS s o.runes o.set else delS s o.n
/-! ### the document's -/
/-- an op's right form -/
def Form1 (o : Dop) : Prop := (o.kind = 1 ∧ o.runes = [] ∧ o.set = [] ∧ 1 ≤ o.n ∧ o.n ≤ 536870912) ∨ (o.kind = 3 ∧ o.runes = [] ∧ o.set = [] ∧ o.patch = [] ∧ 1 ≤ o.n ∧ o.n ≤ 536870912) ∨ (o.kind = 2 ∧ o.n = 0 ∧ o.patch = [] ∧ o.runes ≠ [])
/-! ### what is canonical -/
inductive InsC : List Dop → Prop
  | nil : InsC []
  | snoc (i : List Dop) (rs : List Int) (set : List Attr) (h : InsC i) (hr : rs ≠ []) (hs : ∀ q, i.getLast? = some q → q.set ≠ set) : InsC (i ++ [⟨2, 0, rs, set, []⟩])
inductive DoneC : List Dop → Prop
  | nil : DoneC []
  | snoc (d ins : List Dop) (gone n : Int) (p : List Chg) (h : DoneC d) (hi : InsC ins) (hg : 0 ≤ gone) (hb : gone ≤ 4611686018427387904) (hn : 1 ≤ n) (hp : ins = [] → gone = 0 → ∀ q, d.getLast? = some q → q.patch ≠ p) : DoneC (d ++ gapL ins gone ++ [⟨1, n, [], [], p⟩])
theorem InsC.add {ins : List Dop} (h : InsC ins) {rs : List Int} (hr : rs ≠ []) (set : List Attr) : InsC (addI ins rs set) := by
  cases h with
  | nil => exact InsC.snoc [] rs set .nil hr fun q hq => by simp at hq
  | snoc i rs' set' h hr' hs =>
    unfold addI
    simp only [List.getLast?_append, List.getLast?_singleton, Option.some_or]
    by_cases e : set' = set
    · rw [if_pos e]
      have : (i ++ [(⟨2, 0, rs', set', []⟩ : Dop)]).set ((i ++ [(⟨2, 0, rs', set', []⟩ : Dop)]).length - 1) ⟨2, 0, rs' ++ rs, set', []⟩ = i ++ [⟨2, 0, rs' ++ rs, set', []⟩] := by simp
      rw [this]
      exact InsC.snoc i _ set' h (by simp [hr']) hs
    · rw [if_neg e]
      exact InsC.snoc _ rs set (InsC.snoc i rs' set' h hr' hs) hr fun q hq => by
        simp only [List.getLast?_append, List.getLast?_singleton, Option.some_or, Option.some.injEq] at hq
        subst hq; exact e
theorem InsC.kinds {ins : List Dop} (h : InsC ins) : ∀ o ∈ ins, o.kind = 2 := by
  induction h with
  | nil => intro o ho; simp at ho
  | snoc i rs set h hr hs ih =>
    intro o ho
    rcases List.mem_append.1 ho with ho | ho
    · exact ih o ho
    · simp at ho; subst ho; rfl
theorem InsC.run {ins : List Dop} (h : InsC ins) (d : List Dop) (g : Int) : ins.foldl stepS ⟨d, [], g⟩ = ⟨d, ins, g⟩ := by
  induction h with
  | nil => rfl
  | snoc i rs set h hr hs ih =>
    rw [List.foldl_append, ih]
    simp only [List.foldl_cons, List.foldl_nil, stepS, show ¬ (2 : Int) = 1 by decide, if_true, if_false, insS, if_neg hr, addI]
    cases e : i.getLast? with
    | none => rfl
    | some q => simp only; rw [if_neg (hs q e)]
theorem gapL_last {ins : List Dop} {gone : Int} (h : InsC ins) : ∀ o, (gapL ins gone).getLast? = some o → o.kind ≠ 1 := by
  intro o ho
  unfold gapL at ho
  split at ho
  · simp only [List.getLast?_append, List.getLast?_singleton, Option.some_or, Option.some.injEq] at ho
    subst ho; intro h; cases h
  · have := h.kinds o (List.mem_of_getLast? ho)
    omega
theorem gapL_nil {ins : List Dop} {gone : Int} (h0 : 0 ≤ gone) (h : gapL ins gone = []) : ins = [] ∧ gone = 0 := by
  unfold gapL at h
  split at h
  · simp at h
  · exact ⟨h, by omega⟩
theorem last_app {d g : List Dop} : (d ++ g).getLast? = match g.getLast? with | some o => some o | none => d.getLast? := by
  rw [List.getLast?_append]; cases g.getLast? <;> rfl
theorem gap_run {ins : List Dop} (h : InsC ins) (d : List Dop) {g : Int} (hg : 0 ≤ g) (hb : g ≤ 4611686018427387904) : (gapL ins g).foldl stepS ⟨d, [], 0⟩ = ⟨d, ins, g⟩ := by
  unfold gapL
  split
  · rw [List.foldl_append, h.run]
    simp only [List.foldl_cons, List.foldl_nil, stepS, show ¬ (3 : Int) = 1 by decide, show ¬ (3 : Int) = 2 by decide, if_false, delS]
    have : maxI g 0 = g := by unfold maxI; rw [if_neg (by omega)]
    rw [this, wrap64 (by omega) (by omega)]
    congr 1; omega
  · rw [h.run]; congr 1; omega
theorem put_new {d g : List Dop} {n : Int} {p : List Chg} (h1 : ∀ o, g.getLast? = some o → o.kind ≠ 1) (h2 : g = [] → ∀ q, d.getLast? = some q → q.patch ≠ p) : putS (d ++ g) n p = d ++ g ++ [⟨1, n, [], [], p⟩] := by
  unfold putS
  rw [last_app]
  cases e : g.getLast? with
  | some o => simp only; rw [if_neg (fun h => h1 o e h.1)]
  | none =>
    have : g = [] := List.getLast?_eq_none_iff.1 e
    subst this
    simp only [List.append_nil]
    cases e2 : d.getLast? with
    | none => rfl
    | some q => simp only; rw [if_neg (fun h => h2 rfl q e2 h.2)]
theorem DoneC.run {d : List Dop} (h : DoneC d) : d.foldl stepS MkS.z = ⟨d, [], 0⟩ := by
  induction h with
  | nil => rfl
  | snoc d ins gone n p h hi hg hb hn hp ih =>
    rw [List.foldl_append, List.foldl_append, ih, gap_run hi d hg hb]
    simp only [List.foldl_cons, List.foldl_nil, stepS, if_true, retS, if_neg (show ¬ n < 1 by omega)]
    rw [put_new (gapL_last hi) fun e => hp (gapL_nil hg e).1 (gapL_nil hg e).2]
def sumN (l : List Dop) : Int := (l.map (·.n)).sum
theorem sumN_app (l m : List Dop) : sumN (l ++ m) = sumN l + sumN m := by simp [sumN]
theorem sumN_one (o : Dop) : sumN [o] = o.n := by simp [sumN]
theorem InsC.sum {ins : List Dop} (h : InsC ins) : sumN ins = 0 := by
  induction h with
  | nil => rfl
  | snoc i rs set h hr hs ih => rw [sumN_app, sumN_one, ih]; rfl
theorem gapL_sum {ins : List Dop} {g : Int} (h : InsC ins) (hg : 0 ≤ g) : sumN (gapL ins g) = g := by
  unfold gapL; split
  · rw [sumN_app, sumN_one, h.sum]; simp
  · rw [h.sum]; omega
theorem DoneC.nn {d : List Dop} (h : DoneC d) : 0 ≤ sumN d := by
  induction h with
  | nil => simp [sumN]
  | snoc d ins gone n p h hi hg hb hn hp ih => rw [sumN_app, sumN_app, sumN_one, gapL_sum hi hg]; simp only; omega
structure Canon (s : MkS) (t : Int) : Prop where
  done : DoneC s.done
  ins : InsC s.ins
  gone : 0 ≤ s.gone
  sum : sumN s.done + s.gone = t
theorem Canon.step {s : MkS} {t : Int} (h : Canon s t) {o : Dop} (ho : Form1 o) (ht : t + o.n ≤ 4611686018427387904) : Canon (stepS s o) (t + o.n) := by
  obtain ⟨done, ins, gone⟩ := s
  obtain ⟨h1, h2, h3, h4⟩ := h
  simp only at h1 h2 h3 h4
  obtain ⟨k, n, rs, set, p⟩ := o
  have hnn := h1.nn
  rcases ho with ⟨e1, e2, e3, e4, e5⟩ | ⟨e1, e2, e3, e4, e5, e6⟩ | ⟨e1, e2, e3, e4⟩
  · simp only at e1 e2 e3 e4 e5 ht
    subst e1
    simp only [stepS, if_true, retS, if_neg (show ¬ n < 1 by omega)]
    have key : DoneC (putS (done ++ gapL ins gone) n p) ∧ sumN (putS (done ++ gapL ins gone) n p) = t + n := by
      by_cases hgap : gapL ins gone = []
      · obtain ⟨e8, e9⟩ := gapL_nil h3 hgap
        subst e8; subst e9
        rw [hgap, List.append_nil]
        cases h1 with
        | nil => exact ⟨DoneC.snoc [] [] 0 n p .nil .nil (by omega) (by omega) e4 fun _ _ q hq => by simp at hq, by simp only [putS, List.getLast?_nil, sumN_app, sumN_one] at h4 ⊢; omega⟩
        | snoc d ins gone n' p' h hi hg hb hn hp =>
          unfold putS
          rw [List.getLast?_append, List.getLast?_singleton, Option.some_or]
          simp only [true_and]
          rw [sumN_app, sumN_app, sumN_one, gapL_sum hi hg] at h4
          simp only at h4
          have hdn := h.nn
          by_cases e : p' = p
          · rw [if_pos e]
            have e10 : (d ++ gapL ins gone ++ [(⟨1, n', [], [], p'⟩ : Dop)]).set ((d ++ gapL ins gone ++ [(⟨1, n', [], [], p'⟩ : Dop)]).length - 1) ⟨1, IntKind.i64.wrap (n' + n), [], [], p'⟩ = d ++ gapL ins gone ++ [⟨1, IntKind.i64.wrap (n' + n), [], [], p'⟩] := by
              rw [List.set_append_right _ _ (by simp)]; simp
            rw [e10, wrap64 (by omega) (by omega)]
            refine ⟨DoneC.snoc d ins gone (n' + n) p' h hi hg hb (by omega) hp, ?_⟩
            rw [sumN_app, sumN_app, sumN_one, gapL_sum hi hg]; simp only; omega
          · rw [if_neg e]
            have := DoneC.snoc (d ++ gapL ins gone ++ [⟨1, n', [], [], p'⟩]) [] 0 n p (DoneC.snoc d ins gone n' p' h hi hg hb hn hp) .nil (by omega) (by omega) e4 fun _ _ q hq => by
              rw [List.getLast?_append, List.getLast?_singleton, Option.some_or] at hq; cases hq; exact e
            simp only [gapL, show ¬ (0 : Int) < 0 by decide, if_false, List.append_nil] at this
            refine ⟨this, ?_⟩
            simp only [sumN_app, sumN_one, gapL_sum hi hg]; omega
      · rw [put_new (gapL_last h2) fun e => (hgap e).elim]
        refine ⟨DoneC.snoc done ins gone n p h1 h2 h3 (by omega) e4 fun e8 e9 => (hgap (by subst e8; subst e9; rfl)).elim, ?_⟩
        rw [sumN_app, sumN_app, sumN_one, gapL_sum h2 h3]; simp only; omega
    exact ⟨key.1, .nil, by simp, by simp only; omega⟩
  · simp only at e1 e2 e3 e4 e5 e6 ht
    subst e1
    simp only [stepS, show ¬ (3 : Int) = 1 by decide, show ¬ (3 : Int) = 2 by decide, if_false, delS]
    have : maxI n 0 = n := by unfold maxI; rw [if_neg (by omega)]
    rw [this, wrap64 (by omega) (by omega)]
    exact ⟨h1, h2, by simp only; omega, by simp only; omega⟩
  · simp only at e1 e2 e3 e4 ht
    subst e1; subst e2
    simp only [stepS, show ¬ (2 : Int) = 1 by decide, if_true, if_false, insS, if_neg e4]
    exact ⟨h1, h2.add e4 set, h3, by simp only; omega⟩
theorem Form1.nn {o : Dop} (h : Form1 o) : 0 ≤ o.n ∧ o.n ≤ 536870912 := by
  rcases h with ⟨_, _, _, h, h'⟩ | ⟨_, _, _, _, h, h'⟩ | ⟨_, h, _⟩ <;> omega
theorem DoneC.last {d : List Dop} (h : DoneC d) : ∀ q, d.getLast? = some q → q.kind = 1 := by
  cases h with
  | nil => intro q hq; simp at hq
  | snoc d ins gone n p h hi hg hb hn hp =>
    intro q hq
    rw [List.getLast?_append, List.getLast?_singleton, Option.some_or] at hq; cases hq; rfl
end Go.Proofs.YtlbaopamhkmepaaGreatDoor

namespace Go.Proofs.YtlbaopamhkmepaaGreatDoor
open Go Go.K

def OpsBad (keys : List DKey) (x : List Dop) : Prop := (∃ o ∈ x, ¬ FormO o ∨ maySet keys o.set = 3 ∨ mayPat keys o.patch = 3) ∨ 536870912 < sumW takesF x ∨ 536870912 < sumW makesF x
def OpsNoKey (keys : List DKey) (x : List Dop) : Prop := ∃ o ∈ x, maySet keys o.set ≠ 0 ∨ mayPat keys o.patch ≠ 0
open Classical in
noncomputable def mayOps (keys : List DKey) (x : List Dop) : Int := if OpsBad keys x then 3 else if OpsNoKey keys x then 4 else 0
def TameX (keys : List DKey) (x : List Dop) : Prop := keys.length ≤ 64 ∧ mDops x ≤ 20000 ∧ MayKeys keys ∧ mayOps keys x = 0
theorem TameX.forms {keys : List DKey} {x : List Dop} (h : TameX keys x) : ∀ o ∈ x, FormO o := by
  intro o ho
  have := h.2.2.2
  unfold mayOps at this
  split at this
  · cases this
  · rename_i hb
    cases Classical.em (FormO o) with
    | inl h => exact h
    | inr h => exact (hb (.inl ⟨o, ho, .inl h⟩)).elim
theorem FormO.f1 {o : Dop} (h : FormO o) : Form1 o := by
  rcases h.form1 with h | h | h
  · exact .inl h
  · exact .inr (.inl h)
  · exact .inr (.inr h)
theorem TameX.form1 {keys : List DKey} {x : List Dop} (h : TameX keys x) : ∀ o ∈ x, Form1 o := fun o ho => (h.forms o ho).f1

/-! ### ops.Same -/
end Go.Proofs.YtlbaopamhkmepaaGreatDoor

namespace Go.K
open Go
theorem OwnR.conv {α : Type} {B e k : Nat} {R0 R : World → List Value → α → Prop} {w : World} {g n c : Nat} {l : List α} (h : OwnR B e k R0 w (.slice (some ⟨g, 0, none⟩) n c) l)
    (hR : ∀ i (hi : i < l.length) (r : List Value), r.length = k → (∀ u ∈ r, u.oneCell' = true) → (∀ q u, r[q]? = some u → w.cell? ⟨g, i * k + q, none⟩ = some u) → R w r l[i]) : OwnR B e k R w (.slice (some ⟨g, 0, none⟩) n c) l := by
  obtain ⟨rows, h1, h2, h3, h4⟩ := h
  have hrl : ∀ r ∈ rows, r.length = k := fun r hr => (h3 r hr).1
  have hn : n = l.length := by
    rcases h1.2 with ⟨h', _⟩ | ⟨g', cap', cur, h', _⟩
    · simp at h'
    · simp only [Value.slice.injEq] at h'; exact h'.2.1
  subst hn
  refine ⟨rows, h1, h2, h3, fun i r x hr hx => ?_⟩
  have hi : i < l.length := (List.getElem?_eq_some_iff.1 hx).1
  have hx' : x = l[i] := by rw [List.getElem?_eq_getElem hi] at hx; exact (Option.some.inj hx).symm
  subst hx'
  have hm := List.mem_of_getElem? hr
  refine hR i hi r (hrl r hm) (h3 r hm).2 fun q u hu => ?_
  have hq : q < k := by rw [← hrl r hm]; exact (List.getElem?_eq_some_iff.1 hu).1
  have hlt : i * k + q < l.length * k := by
    have : (i + 1) * k ≤ l.length * k := Nat.mul_le_mul_right _ hi
    rw [Nat.add_mul] at this; omega
  have := h1.cellAt _ hlt
  rw [flat_get rows i q r hrl hr hq] at this
  rw [← hu]; exact this
theorem OwnR.any {α : Type} {B e k : Nat} {R0 : World → List Value → α → Prop} {w : World} {v : Value} {l : List α} (h : OwnR B e k R0 w v l) : OwnR B e k (fun _ _ _ => True) w v l := by
  obtain ⟨rows, h1, h2, h3, _⟩ := h
  exact ⟨rows, h1, h2, h3, fun _ _ _ _ _ => trivial⟩
theorem OwnR.setAny {α : Type} {B e k : Nat} {w : World} {g n c : Nat} {l : List α} (h : OwnR B e k (fun _ _ _ => True) w (.slice (some ⟨g, 0, none⟩) n c) l) {i j : Nat} (hi : i < l.length) (hj : j < k) {u : Value} (hu : u.oneCell' = true) :
    OwnR B e k (fun _ _ _ => True) (w.setCell ⟨g, i * k + j, none⟩ u) (.slice (some ⟨g, 0, none⟩) n c) l := by
  have hs := (OwnR.store (R' := fun _ _ _ => True) (x' := l[i]) h hi hj hu (fun _ _ _ _ => trivial) fun _ _ => trivial).2.2.1
  have e : l.set i l[i] = l := List.set_getElem_self hi
  rw [e] at hs
  have hadd : (⟨g, 0, none⟩ : Addr).add (i * k + j) = ⟨g, i * k + j, none⟩ := by unfold Addr.add; split <;> simp_all
  rw [hadd] at hs
  exact hs
theorem setA (W : World) (g o : Nat) (u : Value) : Mod (fun b => b = g) W (W.setCell ⟨g, o, none⟩ u) := Mod.setCell _ _ _ rfl
theorem OwnR.cellsOf {α : Type} {B e k : Nat} {R : World → List Value → α → Prop} {w : World} {g n c : Nat} {l : List α} (h : OwnR B e k R w (.slice (some ⟨g, 0, none⟩) n c) l) {i : Nat} (hi : i < l.length) :
    ∃ r, r.length = k ∧ (∀ q u, r[q]? = some u → w.cell? ⟨g, i * k + q, none⟩ = some u) ∧ R w r l[i] ∧ ∀ q, q < k → Live w ⟨g, i * k + q, none⟩ := by
  obtain ⟨p, r, e1, _, hr, hc, hR⟩ := (OwnR.sl h).get hi
  cases e1
  have hadd : ∀ q, (⟨g, 0, none⟩ : Addr).add (i * k + q) = ⟨g, i * k + q, none⟩ := fun q => by unfold Addr.add; split <;> simp_all
  refine ⟨r, hr, fun q u hu => by rw [← hadd]; exact hc q u hu, hR, fun q hq => ?_⟩
  obtain ⟨g', e2, _, hl⟩ := OwnR.live h hi hq
  cases e2
  rw [hadd] at hl; exact hl
end Go.K
namespace Go.Proofs.YtlbaopamhkmepaaGreatDoor
open Go Go.K

/-- the cells of an op at a place of a row -/
def OpAt (W : World) (g j : Nat) (o : Dop) (rv sv pv : Value) : Prop := ∀ q u, [Value.int .u8 o.kind, .int .i64 o.n, rv, sv, pv][q]? = some u → W.cell? ⟨g, j * 5 + q, none⟩ = some u
theorem OpAt.cong {W W' : World} {g j : Nat} {o : Dop} {rv sv pv : Value} (h : OpAt W g j o rv sv pv) (hW : ∀ q, q < 5 → W'.cell? ⟨g, j * 5 + q, none⟩ = W.cell? ⟨g, j * 5 + q, none⟩) : OpAt W' g j o rv sv pv := by
  intro q u hu
  have := (List.getElem?_eq_some_iff.1 hu).1
  simp only [List.length_cons, List.length_nil] at this
  rw [hW q (by omega)]; exact h q u hu
theorem copy_dops {S D : Nat → Prop} {v : Value} {x : List Dop} {w : World} (h : RDops S D w v x) (hb : mDops x ≤ 1099511627776) :
    callK Tryz.prog 49 [v] (fun v' w' => ODops w.heap.size w' v' x ∧ Grow w w') w := by
  apply S49_ok
  unfold S49
  have hxl := mDops_len x
  refine callK_mono (clone_dops h (by omega)) ?_
  rintro v1 w1 ⟨o1, g1⟩
  obtain ⟨a1, c1, rfl, hc1, hcm, hp, hn⟩ := OwnR.shape o1
  simp only [maxLen] at hcm
  rw [lenK_i]
  cases a1 with
  | none =>
    have := hn rfl
    subst this
    refine LoopK_i (fun vs w2 => vs = [.int .i64 0] ∧ w2 = w1) (fun _ _ => 0) ⟨rfl, rfl⟩ ?_
    rintro vs _ ⟨rfl, rfl⟩ _
    rename World => w1
    rw [nth_z, List.headD_cons, ltK_i]
    exact condK_p (fun h => by simp at h) fun _ => ⟨OwnR.mod o1 (Mod.refl (fun _ => False) _) (fun _ _ h => h) fun r y hy => by simp at hy, g1⟩
  | some p1 =>
    obtain ⟨g, rfl, hg1, hg2, _⟩ := hp _ rfl
    have hsz : ∀ o ∈ x, o.runes.length * 4 ≤ 140737488355328 ∧ o.set.length * 48 ≤ 140737488355328 ∧ o.patch.length * 56 ≤ 140737488355328 := by
      intro o ho
      have := mDops_mem ho
      simp only [mDop, mSet_eq, mPat_eq] at this
      omega
    -- what the row has, i ops done
    let F : Nat → Prop := fun b => w.heap.size ≤ b ∧ b ≠ g
    let D0 : Nat → Prop := fun b => D b ∧ b < w.heap.size
    let Inv : Nat → World → Prop := fun i W => OwnR w.heap.size 39 5 (fun _ _ _ => True) W (.slice (some ⟨g, 0, none⟩) x.length c1) x ∧ Mod (fun b => b = g) w1 W ∧
      ∀ j (hj : j < x.length), ∃ rv sv pv, OpAt W g j x[j] rv sv pv ∧ (j < i → ODop F W [.int .u8 x[j].kind, .int .i64 x[j].n, rv, sv, pv] x[j]) ∧ (i ≤ j → RDop D0 W [.int .u8 x[j].kind, .int .i64 x[j].n, rv, sv, pv] x[j])
    have inv0 : Inv 0 w1 := by
      refine ⟨o1.any, Mod.refl _ _, fun j hj => ?_⟩
      obtain ⟨r, hr, hcl, ho, _⟩ := OwnR.cellsOf o1 hj
      obtain ⟨rv, sv, pv, rfl, q1, q2, q3⟩ := ho
      exact ⟨rv, sv, pv, hcl, fun h => by omega, fun _ => ⟨rv, sv, pv, rfl, q1, q2, q3⟩⟩
    have hz1 := g1.size
    refine LoopK_i (fun vs W => ∃ i : Nat, i ≤ x.length ∧ vs = [.int .i64 i] ∧ Inv i W) (fun vs _ => x.length - iOf vs 0) ⟨0, Nat.zero_le _, rfl, inv0⟩ ?_
    rintro vs w2 ⟨i, hi, rfl, hinv⟩ _
    rw [nth_z, List.headD_cons, ltK_i]
    refine condK_p (fun hlt => ?_) fun hge => ?_
    · have hlt' : i < x.length := by omega
      obtain ⟨oA, mA, rows⟩ := hinv
      have hz2 := mA.size
      obtain ⟨rv, sv, pv, hat, _, hrd⟩ := rows i hlt'
      obtain ⟨_, _, _, e, q1, q2, q3⟩ := hrd (Nat.le_refl _)
      simp only [List.cons.injEq, and_true, true_and] at e
      obtain ⟨rfl, rfl, rfl⟩ := e
      have hmem : x[i] ∈ x := by simp
      obtain ⟨z1, z2, z3⟩ := hsz _ hmem
      have gd : Grow w2 w2.drew := Mod.drew _ _
      refine drawC_i (fun k b => (k = 26 ∨ k = 29 ∨ k = 32) ∧ b = g) ?_
      -- the loads are of cells that the stores turn, which wait for them
      have ld : ∀ q u, [Value.int .u8 x[i].kind, .int .i64 x[i].n, rv, sv, pv][q]? = some u → w2.drew.cell? ((⟨g, 0, none⟩ : Addr).add (i * 5 + q)) = some u := fun q u hu => by rw [addr0]; exact hat q u hu
      have lv : ∀ q, q < 5 → Live w2 ⟨g, i * 5 + q, none⟩ := by
        obtain ⟨_, _, _, _, hl⟩ := OwnR.cellsOf oA hlt'
        exact hl
      refine ixK_n hlt' ?_
      rw [faK_i, Addr.add_add]
      refine sld1_i ⟨ld 2 _ rfl, fun j hj h => by rcases h with ⟨rfl | rfl | rfl, _⟩ <;> exact absurd hj (by decide)⟩ ?_
      refine callK_mono (clone_run (q1.grow gd (by decide) fun _ _ h => h) z1) ?_
      rintro t1 w3 ⟨n1, g3⟩
      refine ⟨Grow.mod g3, ?_⟩
      have g23 := gd.trans g3
      refine ixK_n hlt' ?_
      rw [faK_i, Addr.add_add]
      refine sld1_i ⟨ld 3 _ rfl, fun j hj h => by rcases h with ⟨rfl | rfl | rfl, _⟩ <;> exact absurd hj (by decide)⟩ ?_
      refine callK_mono (copy_set (q2.grow g23 (by decide) fun _ _ h => h) z2) ?_
      rintro t2 w4 ⟨n2, g4⟩
      refine ⟨Grow.mod g4, ?_⟩
      have g24 := g23.trans g4
      refine ixK_n hlt' ?_
      rw [faK_i, Addr.add_add]
      refine sld1_i ⟨ld 4 _ rfl, fun j hj h => by rcases h with ⟨rfl | rfl | rfl, _⟩ <;> exact absurd hj (by decide)⟩ ?_
      refine callK_mono (copy_pat (q3.grow g24 (by decide) fun _ _ h => h) z3) ?_
      rintro t3 w5 ⟨n3, g5⟩
      refine ⟨Grow.mod g5, ?_⟩
      have g25 := g24.trans g5
      have hz5 := g25.size
      have zd : w2.drew.heap.size = w2.heap.size := rfl
      have hz3 := g3.size
      have hz4 := g4.size
      have lv5 : ∀ q, q < 5 → Live w5 ⟨g, i * 5 + q, none⟩ := fun q hq => (lv q hq).mod g25 fun h => h
      have n1' : OwnR 0 21 1 RRune w5 t1 x[i].runes := OwnR.base (OwnR.mod n1 (g4.trans g5) (fun _ _ h => h) fun _ _ _ h => h) fun _ _ => Nat.zero_le _
      have n2' : OSet 0 w5 t2 x[i].set := OwnR.base (OwnR.mod n2 g5 (fun _ _ h => h) fun _ _ _ h => h) fun _ _ => Nat.zero_le _
      have n3' : OwnR 0 111 6 RChg w5 t3 x[i].patch := OwnR.base n3 fun _ _ => Nat.zero_le _
      have b1 : ∀ b, t1.ownBlock = some b → F b := fun b hb => by have := (OwnR.ownB n1 b hb).1; exact ⟨by omega, by omega⟩
      have b2 : ∀ b, t2.ownBlock = some b → F b := fun b hb => by have := (OwnR.ownB n2 b hb).1; exact ⟨by omega, by omega⟩
      have b3 : ∀ b, t3.ownBlock = some b → F b := fun b hb => by have := (OwnR.ownB n3 b hb).1; exact ⟨by omega, by omega⟩
      have oA5 : OwnR w.heap.size 39 5 (fun _ _ _ => True) w5 (.slice (some ⟨g, 0, none⟩) x.length c1) x := OwnR.mod oA g25 (fun _ _ h => h) fun _ _ _ _ => trivial
      have ht1 := OwnR.one n1'
      have ht2 := OwnR.one n2'
      have ht3 := OwnR.one n3'
      refine ixK_n hlt' ?_
      rw [faK_i, Addr.add_add, addr0]
      refine (lv5 2 (by decide)).st ht1.1 ht1.2 ⟨Mod.setCell _ _ _ ⟨.inl rfl, rfl⟩, ?_⟩
      refine ixK_n hlt' ?_
      rw [faK_i, Addr.add_add, addr0]
      refine ((lv5 3 (by decide)).set _ _).st ht2.1 ht2.2 ⟨Mod.setCell _ _ _ ⟨.inr (.inl rfl), rfl⟩, ?_⟩
      refine ixK_n hlt' ?_
      rw [faK_i, Addr.add_add, addr0]
      refine (((lv5 4 (by decide)).set _ _).set _ _).st ht3.1 ht3.2 ⟨Mod.setCell _ _ _ ⟨.inr (.inr rfl), rfl⟩, ?_⟩
      rw [addK_i, loop_step (by omega)]
      refine ⟨⟨i + 1, hlt', rfl, ?_⟩, by rw [iOf0, iOf0]; omega⟩
      have oA6 := OwnR.setAny (OwnR.setAny (OwnR.setAny oA5 hlt' (show 2 < 5 by decide) ht1.1) hlt' (show 3 < 5 by decide) ht2.1) hlt' (show 4 < 5 by decide) ht3.1
      have m56 : Mod (fun b => b = g) w5 (((w5.setCell ⟨g, i * 5 + 2, none⟩ t1).setCell ⟨g, i * 5 + 3, none⟩ t2).setCell ⟨g, i * 5 + 4, none⟩ t3) := ((setA _ _ _ _).trans (setA _ _ _ _)).trans (setA _ _ _ _)
      have oth : ∀ j q, q < 5 → (j ≠ i ∨ q < 2) → (((w5.setCell ⟨g, i * 5 + 2, none⟩ t1).setCell ⟨g, i * 5 + 3, none⟩ t2).setCell ⟨g, i * 5 + 4, none⟩ t3).cell? ⟨g, j * 5 + q, none⟩ = w5.cell? ⟨g, j * 5 + q, none⟩ := by
        intro j q hq hj
        have ne : ∀ q', q' < 5 → 2 ≤ q' → (⟨g, i * 5 + q', none⟩ : Addr) ≠ ⟨g, j * 5 + q, none⟩ := by
          intro q' h1 h2 e
          simp only [Addr.mk.injEq, and_true, true_and] at e
          omega
        rw [World.cell?_setCell_other _ _ _ _ (ne 4 (by omega) (by omega)), World.cell?_setCell_other _ _ _ _ (ne 3 (by omega) (by omega)), World.cell?_setCell_other _ _ _ _ (ne 2 (by omega) (by omega))]
      have same : ∀ j q u, w2.cell? ⟨g, j * 5 + q, none⟩ = some u → w5.cell? ⟨g, j * 5 + q, none⟩ = some u := fun j q u hu => g25.cell hu fun h => h
      generalize hW : (((w5.setCell ⟨g, i * 5 + 2, none⟩ t1).setCell ⟨g, i * 5 + 3, none⟩ t2).setCell ⟨g, i * 5 + 4, none⟩ t3) = W at oA6 m56 oth ⊢
      refine ⟨oA6, mA.trans ((Grow.mod g25).trans m56), fun j hj => ?_⟩
      by_cases hji : j = i
      · subst hji
        refine ⟨t1, t2, t3, fun q u hu => ?_, fun _ => ⟨t1, t2, t3, rfl, own_mod ⟨n1', b1⟩ m56 (fun b _ hb e => hb.2 e) (fun _ _ h => h) fun _ _ h => h, own_mod ⟨n2', b2⟩ m56 (fun b _ hb e => hb.2 e) (fun _ _ h => h) fun _ _ h => h, own_mod ⟨n3', b3⟩ m56 (fun b _ hb e => hb.2 e) (fun _ _ h => h) fun _ _ h => h⟩, fun h => by omega⟩
        have hq := (List.getElem?_eq_some_iff.1 hu).1
        simp only [List.length_cons, List.length_nil] at hq
        have ne : ∀ q q', q ≠ q' → (⟨g, j * 5 + q', none⟩ : Addr) ≠ ⟨g, j * 5 + q, none⟩ := by
          intro q q' h e
          simp only [Addr.mk.injEq, and_true, true_and] at e
          omega
        have some5 : ∀ q, q < 5 → ∃ u, w5.cell? ⟨g, j * 5 + q, none⟩ = some u := fun q hq => Option.isSome_iff_exists.1 (lv5 q hq).1
        rw [← hW]
        match q, hq, hu with
        | 0, _, hu => rw [hW, oth j 0 (by omega) (.inr (by omega))]; exact same _ _ _ (hat 0 u hu)
        | 1, _, hu => rw [hW, oth j 1 (by omega) (.inr (by omega))]; exact same _ _ _ (hat 1 u hu)
        | 2, _, hu =>
          simp only [List.getElem?_cons_succ, List.getElem?_cons_zero, Option.some.injEq] at hu; subst hu
          obtain ⟨u', hu'⟩ := some5 2 (by omega)
          rw [World.cell?_setCell_other _ _ _ _ (ne 2 4 (by decide)), World.cell?_setCell_other _ _ _ _ (ne 2 3 (by decide))]
          exact World.cell?_setCell_same _ _ _ hu'
        | 3, _, hu =>
          simp only [List.getElem?_cons_succ, List.getElem?_cons_zero, Option.some.injEq] at hu; subst hu
          obtain ⟨u', hu'⟩ := some5 3 (by omega)
          rw [World.cell?_setCell_other _ _ _ _ (ne 3 4 (by decide))]
          exact World.cell?_setCell_same _ _ _ ((World.cell?_setCell_other _ _ _ _ (ne 3 2 (by decide))).trans hu')
        | 4, _, hu =>
          simp only [List.getElem?_cons_succ, List.getElem?_cons_zero, Option.some.injEq] at hu; subst hu
          obtain ⟨u', hu'⟩ := some5 4 (by omega)
          exact World.cell?_setCell_same _ _ _ ((World.cell?_setCell_other _ _ _ _ (ne 4 3 (by decide))).trans ((World.cell?_setCell_other _ _ _ _ (ne 4 2 (by decide))).trans hu'))
      · obtain ⟨rv', sv', pv', hat', hod', hrd'⟩ := rows j hj
        refine ⟨rv', sv', pv', OpAt.cong (W := w5) (fun q u hu => same _ _ _ (hat' q u hu)) fun q hq => oth j q hq (.inl hji), fun h => ?_, fun h => ?_⟩
        · exact (ODop.mod (hod' (by omega)) (D' := F) g25 (fun _ _ _ h => h) fun _ _ h => h).mod m56 (fun b _ hb e => hb.2 e) fun _ _ h => h
        · exact (RDop.mod (hrd' (by omega)) (D' := D0) g25 (fun _ _ _ h => h) fun _ _ h => h).mod m56 (fun b _ hb e => by have := hb.2; omega) fun _ _ h => h
    · have : i = x.length := by omega
      subst this
      obtain ⟨oA, mA, rows⟩ := hinv
      refine ⟨OwnR.conv oA fun j hj r hr hone hcl => ?_, g1.next mA fun b hb e => by omega⟩
      obtain ⟨rv, sv, pv, hat, hod, _⟩ := rows j hj
      have e : r = [.int .u8 x[j].kind, .int .i64 x[j].n, rv, sv, pv] := by
        refine List.ext_getElem? fun q => ?_
        by_cases hq : q < 5
        · have h1 : r[q]? = some r[q] := List.getElem?_eq_getElem (by omega)
          have h2 : ([Value.int .u8 x[j].kind, .int .i64 x[j].n, rv, sv, pv])[q]? = some ([Value.int .u8 x[j].kind, .int .i64 x[j].n, rv, sv, pv])[q] := List.getElem?_eq_getElem (by simpa using hq)
          have h3 := hcl q _ h1
          rw [hat q _ h2] at h3
          rw [h1, h2, h3]
        · rw [List.getElem?_eq_none (by omega), List.getElem?_eq_none (by simp; omega)]
      subst e
      exact (hod hj).mod (Mod.refl (fun _ => False) _) (fun _ _ _ h => h) fun b _ hb => ⟨hb.1, fun e => hb.2 (by simpa [Value.ownBlock] using e.symm)⟩
end Go.Proofs.YtlbaopamhkmepaaGreatDoor

namespace Go.Proofs.YtlbaopamhkmepaaGreatDoor
open Go Go.K

abbrev TOp : Nat := 39
abbrev row5 (o : Dop) (rv sv pv : Value) : List Value := [.int .u8 o.kind, .int .i64 o.n, rv, sv, pv]
/-- the rows of the gap's inserts: the last one's runes lie in h, all else in C -/
def InsRows (C : Nat → Prop) (h : Nat) (W : World) (g : Nat) (ins : List Dop) : Prop := 0 < ins.length ∧ ∀ j (hj : j < ins.length), ∃ rv sv pv, OpAt W g j ins[j] rv sv pv ∧ RDop (fun x => C x ∨ x = h) W (row5 ins[j] rv sv pv) ins[j] ∧
  (j + 1 = ins.length → OwnR 0 21 1 RRune W rv ins[j].runes ∧ rv.ownBlock = some h ∧ RSet C W sv ins[j].set ∧ RPat C W pv ins[j].patch) ∧ (j + 1 < ins.length → RDop C W (row5 ins[j] rv sv pv) ins[j])
/-- a maker in memory: at block b, its ops, its gap's inserts; F: all blocks of its own; C: those that are only read -/
structure MkR (F : Nat → Prop) (W : World) (b : Nat) (s : MkS) (dv iv : Value) (C : Nat → Prop) (hot : Option Nat) : Prop where
  c0 : W.cell? ⟨b, 0, none⟩ = some dv
  c1 : W.cell? ⟨b, 1, none⟩ = some iv
  c2 : W.cell? ⟨b, 2, none⟩ = some (.int .i64 s.gone)
  lv : ∀ q, q < 3 → Live W ⟨b, q, none⟩
  fb : F b
  nb : ¬ C b
  cf : ∀ x, C x → F x ∧ x < W.heap.size
  done : OwnR 0 TOp 5 (RDop C) W dv s.done
  dF : ∀ g, dv.ownBlock = some g → F g ∧ ¬ C g ∧ g ≠ b
  ins : (s.ins = [] ∧ iv = .slice none 0 0 ∧ hot = none) ∨ ∃ g c h, iv = .slice (some ⟨g, 0, none⟩) s.ins.length c ∧ hot = some h ∧ OwnR 0 TOp 5 (fun _ _ _ => True) W iv s.ins ∧ F g ∧ ¬ C g ∧ g ≠ b ∧ dv.ownBlock ≠ some g ∧
    F h ∧ ¬ C h ∧ h ≠ b ∧ h ≠ g ∧ dv.ownBlock ≠ some h ∧ h < W.heap.size ∧ InsRows C h W g s.ins
def MkI (F : Nat → Prop) (W : World) (b : Nat) (s : MkS) : Prop := ∃ dv iv C hot, MkR F W b s dv iv C hot
theorem OpAt.mod {W W' : World} {M : Nat → Prop} {g j : Nat} {o : Dop} {rv sv pv : Value} (h : OpAt W g j o rv sv pv) (hm : Mod M W W') (hg : ¬ M g) : OpAt W' g j o rv sv pv := fun q u hu => hm.cell (h q u hu) hg
theorem InsRows.mod {C M : Nat → Prop} {h : Nat} {W W' : World} {g : Nat} {ins : List Dop} (hi : InsRows C h W g ins) (hm : Mod M W W') (hg : ¬ M g) (hh : ¬ M h) (hC : ∀ x, C x → ¬ M x) : InsRows C h W' g ins := by
  refine ⟨hi.1, fun j hj => ?_⟩
  obtain ⟨rv, sv, pv, q1, q2, q3, q4⟩ := hi.2 j hj
  refine ⟨rv, sv, pv, q1.mod hm hg, q2.mod hm (fun b _ hb => by rcases hb with hb | rfl; exact hC b hb; exact hh) fun _ _ h => h, fun e => ?_, fun e => (q4 e).mod hm (fun b _ hb => hC b hb) fun _ _ h => h⟩
  obtain ⟨p1, p2, p3, p4⟩ := q3 e
  exact ⟨OwnR.mod p1 hm (fun g hg => by rw [p2] at hg; cases hg; exact hh) fun _ _ _ h => h, p2, p3.mono (fun _ _ h => h) (fun b hb hc => hm.same b hb (hC b hc)) (by decide) fun _ _ h => h, p4.mono (fun _ _ h => h) (fun b hb hc => hm.same b hb (hC b hc)) (by decide) fun _ _ h => h⟩
theorem RDop.cmod {C M : Nat → Prop} {W W' : World} {r : List Value} {o : Dop} (h : RDop C W r o) (hm : Mod M W W') (hC : ∀ x, C x → ¬ M x) : RDop C W' r o := h.mod hm (fun b _ hb => hC b hb) fun _ _ h => h
theorem MkR.mod {F M C : Nat → Prop} {W W' : World} {b : Nat} {s : MkS} {dv iv : Value} {hot : Option Nat} (h : MkR F W b s dv iv C hot) (hm : Mod M W W') (hF : ∀ x, F x → ¬ M x) : MkR F W' b s dv iv C hot := by
  have hb := hF b h.fb
  have hC : ∀ x, C x → ¬ M x := fun x hx => hF x (h.cf x hx).1
  refine ⟨hm.cell h.c0 hb, hm.cell h.c1 hb, hm.cell h.c2 hb, fun q hq => (h.lv q hq).mod hm hb, h.fb, h.nb, fun x hx => ⟨(h.cf x hx).1, Nat.lt_of_lt_of_le (h.cf x hx).2 hm.size⟩, OwnR.mod h.done hm (fun g hg => hF g (h.dF g hg).1) fun r x _ hx => hx.cmod hm hC, h.dF, ?_⟩
  rcases h.ins with h0 | ⟨g, c, hh, e1, e2, e3, e4, e5, e6, e7, e8, e9, e10, e11, e12, e13, e14⟩
  · exact .inl h0
  · exact .inr ⟨g, c, hh, e1, e2, OwnR.mod e3 hm (fun g' hg' => by rw [e1] at hg'; simp only [Value.ownBlock, Option.some.injEq] at hg'; subst hg'; exact hF _ e4) fun _ _ _ _ => trivial, e4, e5, e6, e7, e8, e9, e10, e11, e12, Nat.lt_of_lt_of_le e13 hm.size, e14.mod hm (hF g e4) (hF hh e8) hC⟩
theorem MkR.grow {F C : Nat → Prop} {W W' : World} {b : Nat} {s : MkS} {dv iv : Value} {hot : Option Nat} (h : MkR F W b s dv iv C hot) (hm : Grow W W') : MkR F W' b s dv iv C hot := h.mod hm fun _ _ h => h
theorem MkI.mod {F M : Nat → Prop} {W W' : World} {b : Nat} {s : MkS} (h : MkI F W b s) (hm : Mod M W W') (hF : ∀ x, F x → ¬ M x) : MkI F W' b s := by
  obtain ⟨dv, iv, C, hot, h⟩ := h
  exact ⟨dv, iv, C, hot, h.mod hm hF⟩
theorem MkI.sub {F F' : Nat → Prop} {W : World} {b : Nat} {s : MkS} (h : MkI F W b s) (hF : ∀ x, F x → F' x) : MkI F' W b s := by
  obtain ⟨dv, iv, C, hot, h⟩ := h
  refine ⟨dv, iv, C, hot, h.c0, h.c1, h.c2, h.lv, hF _ h.fb, h.nb, fun x hx => ⟨hF _ (h.cf x hx).1, (h.cf x hx).2⟩, h.done, fun g hg => ⟨hF _ (h.dF g hg).1, (h.dF g hg).2⟩, ?_⟩
  rcases h.ins with h0 | ⟨g, c, hh, e1, e2, e3, e4, e5, e6, e7, e8, e9⟩
  · exact .inl h0
  · exact .inr ⟨g, c, hh, e1, e2, e3, hF _ e4, e5, e6, e7, hF _ e8, e9⟩
end Go.Proofs.YtlbaopamhkmepaaGreatDoor

namespace Go.K
open Go
theorem OwnR.len {α β : Type} {B e k : Nat} {R : World → List Value → α → Prop} {w : World} {v : Value} {l : List α} (h : OwnR B e k R w v l) (l' : List β) (hl : l'.length = l.length) : OwnR B e k (fun _ _ (_ : β) => True) w v l' := by
  obtain ⟨rows, h1, h2, h3, _⟩ := h
  exact ⟨rows, by rw [hl]; exact h1, by rw [hl]; exact h2, h3, fun _ _ _ _ _ => trivial⟩
end Go.K
namespace Go.Proofs.YtlbaopamhkmepaaGreatDoor
open Go Go.K

end Go.Proofs.YtlbaopamhkmepaaGreatDoor

namespace Go.Proofs.YtlbaopamhkmepaaGreatDoor
open Go Go.K

theorem rsame_dops {S S' D D' : Nat → Prop} {a b : Value} {x y : List Dop} {w : World} (ha : RDops S D w a x) (hb : RDops S' D' w b y) :
    callK Tryz.prog 22 [a, b] (fun v w' => v = .bool (decide (x = y)) ∧ Grow w w') w := by
  apply S22_ok
  unfold S22
  obtain ⟨pa, ca, rfl, hla⟩ := ha.shape
  obtain ⟨pb, cb, rfl, hlb⟩ := hb.shape
  simp only [maxLen] at hla
  have no : ∀ w', Grow w w' → x ≠ y → Value.bool false = .bool (decide (x = y)) ∧ Grow w w' := fun w' g hn => ⟨by rw [decide_eq_false hn], g⟩
  rw [lenK_i, lenK_i, neK_i]
  refine condK_neg (fun hlen => ?_) fun hne => no _ (Mod.refl _ _) fun e => hne (by rw [e])
  have hlen' : x.length = y.length := by omega
  refine LoopK_i (fun vs w1 => ∃ i : Nat, i ≤ x.length ∧ vs = [.int .i64 i] ∧ Grow w w1 ∧ x.take i = y.take i) (fun vs _ => x.length - iOf vs 0) ⟨0, Nat.zero_le _, rfl, Mod.refl _ _, rfl⟩ ?_
  rintro vs w1 ⟨i, hi, rfl, g1, ht⟩ _
  rw [lenK_i, nth_z, List.headD_cons, ltK_i]
  refine condK_p (fun hlt => ?_) fun hge => ?_
  · have hlt' : i < x.length := by omega
    have hlt2 : i < y.length := by omega
    have no2 : ∀ w', Grow w w' → x[i] ≠ y[i] → Value.bool false = .bool (decide (x = y)) ∧ Grow w w' := fun w' g hn => no w' g (by rintro rfl; exact hn rfl)
    refine JoinK_i (fun _ w2 => Grow w w2 ∧ x[i] = y[i]) ?_ ?_
    · rintro _ w2 ⟨g2, he⟩ _
      rw [addK_i, loop_step (by omega)]
      refine ⟨⟨i + 1, hlt', rfl, g2, ?_⟩, by rw [iOf0, iOf0]; omega⟩
      rw [List.take_add_one, List.take_add_one, ht, List.getElem?_eq_getElem hlt', List.getElem?_eq_getElem hlt2, he]
    · obtain ⟨p, r, rfl, _, hr, hc, hx⟩ := (RDops.grow ha g1).get hlt'
      obtain ⟨p', r', rfl, _, hr', hc', hy⟩ := (RDops.grow hb g1).get hlt2
      refine JoinK_i (fun vs w3 => ∃ b6 b7, vs = [.pointer (some ⟨b6, 0, none⟩), .pointer (some ⟨b7, 0, none⟩)] ∧ Grow w1 w3 ∧ (∀ j u, r[j]? = some u → w3.cell? ((⟨b6, 0, none⟩ : Addr).add j) = some u) ∧ (∀ j u, r'[j]? = some u → w3.cell? ((⟨b7, 0, none⟩ : Addr).add j) = some u)) ?_ ?_
      · rintro _ w3 ⟨b6, b7, rfl, g3, c6, c7⟩ _
        have hx3 := hx.mod (D' := D) g3 (fun _ _ _ h => h) fun _ _ h => h
        have hy3 := hy.mod (D' := D') g3 (fun _ _ _ h => h) fun _ _ h => h
        obtain ⟨rv, sv, pv, rfl, x1, x2, x3⟩ := hx3
        obtain ⟨rv', sv', pv', rfl, y1, y2, y3⟩ := hy3
        have g13 := g1.trans g3
        show faK 0 (.pointer (some ⟨b6, 0, none⟩)) _
        simp only [nth_z, nth_s, List.headD_cons, List.tail_cons, faK_i]
        refine ld1K_i (c6 0 _ rfl) (ld1K_i (c7 0 _ rfl) ?_)
        rw [neK_i]
        refine condK_neg (fun e1 => ?_) fun hne => no2 _ g13 fun e => hne (by rw [e])
        refine ld1K_i (c6 1 _ rfl) (ld1K_i (c7 1 _ rfl) ?_)
        rw [neK_i]
        refine condK_neg (fun e2 => ?_) fun hne => no2 _ g13 fun e => hne (by rw [e])
        refine ld1K_i (c6 2 _ rfl) (ld1K_i (c7 2 _ rfl) ?_)
        refine callK_mono (rsame_run x1 y1) ?_
        rintro _ w4 ⟨rfl, g4⟩
        rw [notK_i]
        refine condK_neg (fun e3 => ?_) fun hne => no2 _ (g13.trans g4) fun e => hne (by rw [e])
        refine ld1K_i (g4.cell (c6 3 _ rfl) fun h => h) (ld1K_i (g4.cell (c7 3 _ rfl) fun h => h) ?_)
        refine callK_mono (rsame_set (x2.grow g4 (by decide) fun _ _ h => h) (y2.grow g4 (by decide) fun _ _ h => h)) ?_
        rintro _ w5 ⟨rfl, g5⟩
        rw [notK_i]
        have g45 := g4.trans g5
        refine condK_neg (fun e4 => ?_) fun hne => no2 _ (g13.trans g45) fun e => hne (by rw [e])
        refine ld1K_i (g45.cell (c6 4 _ rfl) fun h => h) (ld1K_i (g45.cell (c7 4 _ rfl) fun h => h) ?_)
        refine callK_mono (rsame_pat (x3.grow g45 (by decide) fun _ _ h => h) (y3.grow g45 (by decide) fun _ _ h => h)) ?_
        rintro _ w6 ⟨rfl, g6⟩
        rw [notK_i]
        refine condK_neg (fun e5 => ⟨(g13.trans g45).trans g6, ?_⟩) fun hne => no2 _ ((g13.trans g45).trans g6) fun e => hne (by rw [e])
        have eta : ∀ o : Dop, o = ⟨o.kind, o.n, o.runes, o.set, o.patch⟩ := fun _ => rfl
        rw [eta x[i], eta y[i], e1, e2, e3, e4, e5]
      · refine drawC_i (fun k y => (k = 10 ∨ k = 11) ∧ w1.heap.size ≤ y) ?_
        have gd : Grow w1 w1.drew := Mod.drew _ _
        have one := RDop.one hx
        have one' := RDop.one hy
        have zd := gd.size
        refine ixK_n hlt' (sldn_i hr (fun j u hu => ⟨by rw [Addr.add_add]; exact gd.cell (hc j u hu) fun h => h, fun k hk e => ?_⟩) ?_)
        · rcases e with ⟨rfl | rfl, _⟩ <;> exact absurd hk (by decide)
        refine ixK_n hlt2 (sldn_i hr' (fun j u hu => ⟨by rw [Addr.add_add]; exact gd.cell (hc' j u hu) fun h => h, fun k hk e => ?_⟩) ?_)
        · have := World.block_lt_of_cell? w1 _ (hc' j u hu)
          rw [add_block] at this
          rw [add_block, add_block] at e
          omega
        refine ⟨?_, ?_⟩
        · refine newz_i fun b6 w17 hb6 hz6 g6 _ hl6 => ⟨g6.mono fun _ _ h => h.elim, ?_⟩
          refine newz_i fun b7 w18 hb7 hz7 g7 _ hl7 => ⟨g7.mono fun _ _ h => h.elim, ?_⟩
          refine stn_over hr one (fun j hj => (hl6 j hj).mod g7 fun h => h) fun w19 m19 hc6 _ => ⟨m19.mono fun y _ e => ⟨.inl rfl, by omega⟩, ?_⟩
          refine stn_over hr' one' (fun j hj => (hl7 j hj).mod m19 fun e => absurd (show b7 = b6 by rw [addr0] at e; exact e) (by omega)) fun w20 m20 hc7 _ => ⟨m20.mono fun y _ e => ⟨.inr rfl, by omega⟩, b6, b7, rfl, ?_, fun j u hu => m20.cell (hc6 j u hu) fun e => absurd (show b6 = b7 by rw [addr0] at e; exact e) (by omega), hc7⟩
          exact (((gd.trans g6).trans g7).next m19 fun x hx e => by omega).next m20 fun x hx e => by omega
        · refine newz_i fun b7 w17 hb7 hz7 g7 _ hl7 => ⟨g7.mono fun _ _ h => h.elim, ?_⟩
          refine newz_i fun b6 w18 hb6 hz6 g6 _ hl6 => ⟨g6.mono fun _ _ h => h.elim, ?_⟩
          refine stn_over hr one hl6 fun w19 m19 hc6 _ => ⟨m19.mono fun y _ e => ⟨.inl rfl, by omega⟩, ?_⟩
          refine stn_over hr' one' (fun j hj => ((hl7 j hj).mod g6 fun h => h).mod m19 fun e => absurd (show b7 = b6 by rw [addr0] at e; exact e) (by omega)) fun w20 m20 hc7 _ => ⟨m20.mono fun y _ e => ⟨.inr rfl, by omega⟩, b6, b7, rfl, ?_, fun j u hu => m20.cell (hc6 j u hu) fun e => absurd (show b6 = b7 by rw [addr0] at e; exact e) (by omega), hc7⟩
          exact (((gd.trans g7).trans g6).next m19 fun x hx e => by omega).next m20 fun x hx e => by omega
  · have : i = x.length := by omega
    subst this
    rw [List.take_length, hlen', List.take_length] at ht
    exact ⟨by rw [decide_eq_true ht], g1⟩
end Go.Proofs.YtlbaopamhkmepaaGreatDoor

namespace Go.K
open Go
theorem SlR.rows {α : Type} {S : Nat → Prop} {k : Nat} {R : World → List Value → α → Prop} {w : World} {a : Option Addr} {c n : Nat} {m : List α} (hx : SlR S k R w (.slice a n c) m) (hone : ∀ r y, R w r y → ∀ u ∈ r, u.oneCell' = true) :
    ∃ rows' : List (List Value), rows'.length = m.length ∧ (∀ (i : Nat) (r : List Value), rows'[i]? = some r → r.length = k ∧ (∀ u ∈ r, u.oneCell' = true) ∧ (∃ p, a = some p ∧ ∀ j u, r[j]? = some u → w.cell? (p.add (i * k + j)) = some u) ∧ ∃ y, m[i]? = some y ∧ R w r y) := by
  obtain ⟨a', c', e, _, _, hel⟩ := hx
  cases e
  have gen : ∀ q, q ≤ m.length → ∃ rows' : List (List Value), rows'.length = q ∧ (∀ (i : Nat) (r : List Value), rows'[i]? = some r → r.length = k ∧ (∀ u ∈ r, u.oneCell' = true) ∧ (∃ p, a = some p ∧ ∀ j u, r[j]? = some u → w.cell? (p.add (i * k + j)) = some u) ∧ ∃ y, m[i]? = some y ∧ R w r y) := by
    intro q
    induction q with
    | zero => exact fun _ => ⟨[], rfl, fun i r h => by simp at h⟩
    | succ q ih =>
      intro hq
      obtain ⟨rs, e1, e2⟩ := ih (by omega)
      obtain ⟨p, r, f1, f2, f3, f4, f5⟩ := hel q m[q] (by simp [show q < m.length by omega])
      refine ⟨rs ++ [r], by simp [e1], fun i r' hr' => ?_⟩
      by_cases hi : i < q
      · rw [List.getElem?_append_left (by omega)] at hr'; exact e2 i r' hr'
      · have : i = q := by have := (List.getElem?_eq_some_iff.1 hr').1; simp [e1] at this; omega
        subst this
        rw [List.getElem?_append_right (by omega)] at hr'
        simp [e1] at hr'
        subst hr'
        exact ⟨f3, hone _ _ f5, ⟨p, f1, f4⟩, m[i], by simp [show i < m.length by omega], f5⟩
  exact gen m.length (Nat.le_refl _)
theorem append_new {α : Type} {P : Program} {t ty e k bytes b : Nat} {R : World → List Value → α → Prop} {S : Nat → Prop} {w : World} {x : Value} {m : List α} (hE : ElemOK P t e k bytes) (hb : w.heap[b]? = some (.cells #[] e (0, 0))) (hx : SlR S k R w x m)
    (hone : ∀ w r y, R w r y → ∀ u ∈ r, u.oneCell' = true) (h63 : m.length * bytes ≤ 140737488355328) (hR : ∀ w', w.grownBy w' (some b) → ∀ r y, R w r y → R w' r y) :
    ∃ v' w', (Builtin.append_ #[t, t] ty [.slice (some ⟨b, 0, none⟩) 0 0, x].toArray).run P w = .ok v' w' ∧ OwnR b e k R w' v' m ∧ Grow w w' ∧ ∀ g, v'.ownBlock = some g → g = b ∨ w.heap.size ≤ g := by
  obtain ⟨a, c, rfl, hm⟩ := hx.shape
  have hlt : b < w.heap.size := (Array.getElem?_eq_some_iff.1 hb).1
  have ho : OwnR b e k R w (.slice (some ⟨b, 0, none⟩) 0 0) ([] : List α) := ⟨[], ⟨by simp, .inr ⟨b, 0, #[], rfl, Nat.le_refl _, hb, Nat.le_refl _, by simp [maxLen], by simp, by simp⟩⟩, rfl, by simp, by simp⟩
  obtain ⟨v', w', hrun, r2, r3, r4⟩ := OwnR.append (ty := ty) hE ho hx (fun _ _ => hone _ _ _) (by simpa using h63) (by omega) (by simpa using hm) (fun w' hg r y hy => hR w' hg r y hy)
  refine ⟨v', w', hrun, by simpa using r2, ?_, fun g hg => ?_⟩
  · obtain ⟨i, z, ht, hi, hz, hs, hbt, hzs, hk⟩ := hE
    obtain ⟨rows', g1, g2⟩ := SlR.rows hx (fun _ _ => hone _ _ _)
    have hlen : ∀ r ∈ rows', r.length = k := fun r hr => by obtain ⟨j, hj⟩ := List.mem_iff_getElem?.1 hr; exact (g2 j r hj).1
    simp only [maxLen] at hm
    by_cases hm0 : m.length = 0
    · have h0 : (Builtin.append_ #[t, t] ty [.slice (some ⟨b, 0, none⟩) 0 0, .slice a m.length c].toArray).run P w = .ok (.slice (some ⟨b, 0, none⟩) 0 0) w := by
        rw [hm0]
        cases a <;> simp [Builtin.append_, run_underlying ht, sizeOf, typeInfo, hi, Builtin.lenOf, Builtin.firstCells, storeCells, loadCells, loadCellsFrom]
      rw [h0] at hrun
      cases hrun
      exact Mod.refl _ _
    · obtain ⟨p, r, f1, _⟩ := hx.get (i := 0) (by omega)
      subst f1
      have hr := run_append_grow (P := P) w t ty e i z ht hi hz ⟨b, 0, none⟩ 0 0 [] (by simp) (by simp) p m.length c rows'.flatten (by rw [flat_len rows' hlen, g1, hs]) (fun q u hu => by
        obtain ⟨r, hr, hru⟩ := flat_of_get hk rows' hlen q u hu
        obtain ⟨_, _, ⟨p', hp', hc'⟩, _⟩ := g2 _ r hr
        cases hp'
        have := hc' _ u hru
        rwa [Nat.div_add_mod'] at this) (by omega) (by omega) (growslice_fits (by omega) (by rw [hbt]; simpa using h63))
      have hr' : (Builtin.append_ #[t, t] ty [.slice (some ⟨b, 0, none⟩) 0 0, .slice (some p) m.length c].toArray).run P w = _ := hr
      rw [hr'] at hrun
      cases hrun
      exact (Mod.drew _ _).trans (Mod.alloc _ _ _)
  · rcases r4 g hg with h | h
    · exact .inl (by simpa [Value.ownBlock] using h.symm)
    · exact .inr h
end Go.K

namespace Go.K
open Go
theorem flat_take {k : Nat} : ∀ (rows : List (List Value)) (j : Nat), (∀ r ∈ rows, r.length = k) → rows.flatten.take (j * k) = (rows.take j).flatten := by
  intro rows
  induction rows with
  | nil => intro j _; simp
  | cons r rows ih =>
    intro j h
    have h0 := h r (by simp)
    cases j with
    | zero => simp
    | succ j =>
      rw [List.flatten_cons, List.take_succ_cons, List.flatten_cons, ← ih j fun x hx => h x (by simp [hx])]
      rw [List.take_append, List.take_of_length_le (by rw [h0, Nat.add_mul]; omega)]
      congr 2
      rw [h0, Nat.add_mul]; omega
/-- the first elements of a row of the call's own -/
theorem OwnR.take {α : Type} {B e k : Nat} {R : World → List Value → α → Prop} {w : World} {g n c : Nat} {l : List α} (h : OwnR B e k R w (.slice (some ⟨g, 0, none⟩) n c) l) {j : Nat} (hj : j ≤ l.length) : OwnR B e k R w (.slice (some ⟨g, 0, none⟩) j c) (l.take j) := by
  obtain ⟨rows, h1, h2, h3, h4⟩ := h
  have hrl : ∀ r ∈ rows, r.length = k := fun r hr => (h3 r hr).1
  refine ⟨rows.take j, ⟨?_, ?_⟩, by rw [List.length_take, List.length_take, h2], fun r hr => h3 r (List.mem_of_mem_take hr), fun i r x hr hx => ?_⟩
  · rw [flat_len _ fun r hr => hrl r (List.mem_of_mem_take hr), List.length_take, List.length_take, h2]
  · rcases h1.2 with ⟨hn, _⟩ | ⟨g', cap, cur, hv, hb, hg, hn, hm, hs, ht⟩
    · cases hn
    · cases hv
      refine .inr ⟨g, c, cur, by rw [List.length_take, Nat.min_eq_left hj], hb, hg, by rw [List.length_take]; omega, hm, hs, ?_⟩
      rw [← flat_take rows j hrl, ← ht, List.take_take, List.length_take]
      congr 1
      rw [Nat.min_eq_left hj, Nat.min_eq_left (Nat.mul_le_mul_right _ hj)]
  · rw [List.getElem?_take] at hr hx
    split at hr
    · rename_i hlt; rw [if_pos hlt] at hx; exact h4 i r x hr hx
    · cases hr
theorem slice_hi_run {P : Program} {t e k : Nat} {i : TypeInfo} {g n c j : Nat} (ht : P.underlying t = some (.slice e)) (hi : P.info? e = some i) (hk : i.size = k) (hj : j ≤ c) (w : World) : (Instr.sliceAt t (.slice (some ⟨g, 0, none⟩) n c) none (some (.int .i64 j)) none).run P w = .ok (.slice (some ⟨g, 0, none⟩) j c) w := by
  have hel : P.elem t = e := by simp [Program.elem, ht]
  rw [run_sliceAt_slice _ _ _ _ _ _ (by rw [hel]; exact ht), run_slice_h _ _ _ _ _ (by rw [hel]; exact ht) _ _ (by omega) (by omega), hel]
  simp [sizeOf, typeInfo, hi, hk, sliced, Addr.add]
/-- a store into one of a box's cells -/
theorem box_store {b : Nat} {vs : List Value} {q : Nat} {u : Value} {W : World} {K : World → Prop} (hc : ∀ j v, vs[j]? = some v → W.cell? ⟨b, j, none⟩ = some v) (hl : ∀ j, j < vs.length → Live W ⟨b, j, none⟩) (hq : q < vs.length) (h1 : u.oneCell' = true) (h2 : u.cells = #[u])
    (hK : ∀ W', Mod (fun x => x = b) W W' → (∀ j v, (vs.set q u)[j]? = some v → W'.cell? ⟨b, j, none⟩ = some v) → (∀ j, j < (vs.set q u).length → Live W' ⟨b, j, none⟩) → K W') : st1K (.pointer (some ⟨b, q, none⟩)) u K W := by
  refine (hl q hq).st h1 h2 (hK _ (Mod.setCell (M := fun x => x = b) W ⟨b, q, none⟩ u rfl) (fun j v hv => ?_) fun j hj => (hl j (by simpa using hj)).set _ _)
  by_cases e : j = q
  · subst e
    rw [List.getElem?_set_self hq] at hv
    cases hv
    obtain ⟨u', hu'⟩ := Option.isSome_iff_exists.1 (hl j hq).1
    exact World.cell?_setCell_same _ _ _ hu'
  · rw [List.getElem?_set_ne (Ne.symm e)] at hv
    rw [World.cell?_setCell_other _ _ _ _ (fun e' => by simp only [Addr.mk.injEq] at e'; exact e e'.2.1.symm)]
    exact hc j v hv
/-- adding onto a slice that has no room: a new row -/
theorem append_full {α : Type} {P : Program} {t ty e k bytes : Nat} {R : World → List Value → α → Prop} {S S' : Nat → Prop} {w : World} {p : Addr} {x : Value} {l m : List α} (hE : ElemOK P t e k bytes) (h : SlR S k R w (.slice (some p) l.length l.length) l) (hx : SlR S' k R w x m) (hm0 : 0 < m.length)
    (hone : ∀ w r y, R w r y → ∀ u ∈ r, u.oneCell' = true) (h63 : (l.length + m.length) * bytes ≤ 140737488355328) (hlm : l.length + m.length ≤ maxLen) (hR : ∀ w', Grow w w' → ∀ r y, R w r y → R w' r y) :
    ∃ v' w', (Builtin.append_ #[t, t] ty [.slice (some p) l.length l.length, x].toArray).run P w = .ok v' w' ∧ OwnR w.heap.size e k R w' v' (l ++ m) ∧ Grow w w' := by
  obtain ⟨i, z, ht, hi, hz, hs, hbt, hzs, hk⟩ := hE
  obtain ⟨a, c, rfl, hm⟩ := hx.shape
  have hlm' := hlm
  simp only [maxLen] at hlm
  obtain ⟨rows, g1, g2⟩ := SlR.rows h (fun _ _ => hone _ _ _)
  obtain ⟨rows', g1', g2'⟩ := SlR.rows hx (fun _ _ => hone _ _ _)
  have hlen : ∀ r ∈ rows, r.length = k := fun r hr => by obtain ⟨j, hj⟩ := List.mem_iff_getElem?.1 hr; exact (g2 j r hj).1
  have hlen' : ∀ r ∈ rows', r.length = k := fun r hr => by obtain ⟨j, hj⟩ := List.mem_iff_getElem?.1 hr; exact (g2' j r hj).1
  obtain ⟨pa, r0, f1, _⟩ := hx.get (i := 0) hm0
  subst f1
  have get : ∀ {rs : List (List Value)} {q : Addr}, (∀ r ∈ rs, r.length = k) → (∀ (i : Nat) (r : List Value), rs[i]? = some r → ∀ j u, r[j]? = some u → w.cell? (q.add (i * k + j)) = some u) → ∀ (j : Nat) (u : Value), rs.flatten[j]? = some u → w.cell? (q.add j) = some u := by
    intro rs q hl hc j u hu
    obtain ⟨r, hr, hru⟩ := flat_of_get hk rs hl j u hu
    have := hc _ r hr _ u hru
    rwa [Nat.div_add_mod'] at this
  have hr := run_append_grow (P := P) w t ty e i z ht hi hz p l.length l.length rows.flatten (by rw [flat_len rows hlen, g1, hs]) (get hlen fun j r hj q u hu => by
      obtain ⟨_, _, ⟨p', hp', hc'⟩, _⟩ := g2 j r hj
      cases hp'; exact hc' q u hu) pa m.length c rows'.flatten (by rw [flat_len rows' hlen', g1', hs]) (get hlen' fun j r hj q u hu => by
      obtain ⟨_, _, ⟨p', hp', hc'⟩, _⟩ := g2' j r hj
      cases hp'; exact hc' q u hu) (by omega) (by omega) (growslice_fits (by omega) (by rw [hbt]; exact h63))
  have hg : Grow w (w.drew.alloc (.cells (rows.flatten.toArray ++ rows'.flatten.toArray ++ Builtin.zeroCells z.cells (grownCap w (l.length + m.length) l.length e - (l.length + m.length))) e)) := (Mod.drew _ _).trans (Mod.alloc _ _ _)
  have hge := grownCap_ge w (l.length + m.length) l.length e
  have hflat : (rows.flatten ++ rows'.flatten).length = (l.length + m.length) * k := by rw [List.length_append, flat_len rows hlen, flat_len rows' hlen', g1, g1', Nat.add_mul]
  refine ⟨_, _, hr, ⟨rows ++ rows', ⟨by rw [List.flatten_append, hflat, List.length_append], .inr ⟨w.heap.size, _, _, by rw [List.length_append], Nat.le_refl _, heap_alloc_new w.drew _, by rw [List.length_append]; exact hge, grownCap_le_maxLen w (l.length + m.length) l.length e hlm', ?_, ?_⟩⟩, by simp [g1, g1'], fun r hr => ?_, fun j r y hj hy => ?_⟩, hg⟩
  · simp only [Array.size_append, List.size_toArray, size_zeroCells, hzs]
    have e1 := hflat
    rw [List.length_append] at e1
    rw [e1, ← Nat.add_mul]
    congr 1; omega
  · simp only [Array.toList_append, List.length_append, List.flatten_append]
    have h3 : (l.length + m.length) * k = (rows.flatten ++ rows'.flatten).length := hflat.symm
    rw [h3, List.take_append_of_le_length (Nat.le_refl _), List.take_length]
  · rcases List.mem_append.1 hr with h | h
    · obtain ⟨j, hj⟩ := List.mem_iff_getElem?.1 h; exact ⟨(g2 j r hj).1, (g2 j r hj).2.1⟩
    · obtain ⟨j, hj⟩ := List.mem_iff_getElem?.1 h; exact ⟨(g2' j r hj).1, (g2' j r hj).2.1⟩
  · refine hR _ hg r y ?_
    by_cases hjl : j < l.length
    · rw [List.getElem?_append_left (by omega)] at hj
      rw [List.getElem?_append_left hjl] at hy
      obtain ⟨_, _, _, y', hy', hRy⟩ := g2 j r hj
      rw [hy] at hy'; cases hy'; exact hRy
    · rw [List.getElem?_append_right (by omega), g1] at hj
      rw [List.getElem?_append_right (by omega)] at hy
      obtain ⟨_, _, _, y', hy', hRy⟩ := g2' _ r hj
      rw [hy] at hy'; cases hy'; exact hRy
/-- a stack: a row of the holder's own, or a slice without room -/
def StkR {α : Type} (e k : Nat) (R : World → List Value → α → Prop) (w : World) (v : Value) (l : List α) : Prop :=
  OwnR 0 e k R w v l ∨ ∃ p, v = .slice (some p) l.length l.length ∧ p.block < w.heap.size ∧ SlR (fun b => b = p.block) k R w v l
section
variable {α : Type} {e k : Nat} {R R' : World → List Value → α → Prop} {w w' : World} {v : Value} {l : List α} {M : Nat → Prop}
theorem StkR.sl (h : StkR e k R w v l) (hk : 0 < k) : SlR (fun b => v.ownBlock = some b) k R w v l := by
  rcases h with h | ⟨p, rfl, hlt, h⟩
  · exact (OwnR.sl h).sub (fun _ _ h => h.2) hk fun _ _ h => h
  · exact h.sub (fun b _ e => by rw [e]; rfl) hk fun _ _ h => h
theorem StkR.ownB (h : StkR e k R w v l) : ∀ g, v.ownBlock = some g → g < w.heap.size := by
  rcases h with h | ⟨p, rfl, hlt, h⟩
  · exact fun g hg => (OwnR.ownB h g hg).2
  · intro g hg
    have : p.block = g := Option.some.inj hg
    rw [← this]; exact hlt
theorem StkR.mod (h : StkR e k R w v l) (hk : 0 < k) (hm : Mod M w w') (hv : ∀ g, v.ownBlock = some g → ¬ M g) (hR : ∀ r x, R w r x → R' w' r x) : StkR e k R' w' v l := by
  rcases h with h | ⟨p, rfl, hlt, h⟩
  · exact .inl (OwnR.mod h hm hv fun r x _ hx => hR r x hx)
  · exact .inr ⟨p, rfl, Nat.lt_of_lt_of_le hlt hm.size, SlR.mono h (fun _ _ h => h) (fun b hb hs => hm.same b hb (hv b (by rw [hs]; rfl))) hk hR⟩
theorem StkR.one (h : StkR e k R w v l) : v.oneCell' = true ∧ v.cells = #[v] := by
  rcases h with h | ⟨p, rfl, hlt, h⟩
  · exact OwnR.one h
  · exact ⟨rfl, rfl⟩
theorem StkR.shape (h : StkR e k R w v l) (hk : 0 < k) : ∃ a c, v = .slice a l.length c ∧ l.length ≤ maxLen := (h.sl hk).shape
/-- one element more -/
theorem StkR.push {P : Program} {t bytes : Nat} {x : α} {zero : List Value} {parts : List (Nat × Value)} {cs : List Value} {K : Cont} (hE : ElemOK P t e k bytes) (h : StkR e k R w v l)
    (hf : Instr.fill (fun i => some (i * k, k)) ((Array.range (1 * k)).map (zero.toArray[· % zero.toArray.size]!)) parts = some cs.toArray) (hcs : cs.length = k) (hx : R w cs x) (hone : ∀ w r y, R w r y → ∀ u ∈ r, u.oneCell' = true)
    (hR : ∀ w1 w2 r y, w.heap.size ≤ w1.heap.size → Mod (fun b => v.ownBlock = some b ∨ w.heap.size ≤ b) w1 w2 → R w1 r y → R w2 r y) (hlen : (l.length + 1) * bytes ≤ 140737488355328) (hlm : l.length + 1 ≤ maxLen)
    {Q1 : World → Prop} {Q2 : World → World → Prop} (hQ1 : ∀ w1, Grow w w1 → Q1 w1)
    (hK : ∀ w1 v' w', OwnR 0 e k R w' v' (l ++ [x]) → Mod (fun b => v.ownBlock = some b) w1 w' → Mod (fun b => v.ownBlock = some b) w w' → (∀ g, v'.ownBlock = some g → v.ownBlock = some g ∨ w.heap.size ≤ g) → Q2 w1 w' ∧ K v' w') :
    rowK e k 1 zero parts (fun s w1 => Q1 w1 ∧ runK P (Builtin.append_ #[t, t] t [v, s].toArray) (fun v' w' => Q2 w1 w' ∧ K v' w') w1) w := by
  rcases h with h | ⟨p, rfl, hlt, h⟩
  · exact push_g2 hE h (Nat.zero_le _) hf hcs hx hone hR hlen hlm hQ1 hK
  refine ⟨_, hf, ?_⟩
  have hk : 0 < k := by obtain ⟨_, _, _, _, _, _, _, _, hk⟩ := hE; exact hk
  have hg : Grow w (w.alloc (.cells cs.toArray e)) := Mod.alloc _ _ _
  have hc : ∀ j u, cs[j]? = some u → (w.alloc (.cells cs.toArray e)).cell? ((⟨w.heap.size, 0, none⟩ : Addr).add j) = some u := fun j u hu => cell_box hu
  have hz : (w.alloc (.cells cs.toArray e)).heap.size = w.heap.size + 1 := by simp
  generalize w.alloc (.cells cs.toArray e) = w1 at hg hc hz ⊢
  have h' := h.grow hg hk fun r y hy => hR _ _ _ _ (Nat.le_refl _) (hg.mono fun _ _ h => h.elim) hy
  have hs : SlR (fun _ => True) k R w1 (.slice (some ⟨w.heap.size, 0, none⟩) 1 1) [x] := by
    refine ⟨_, 1, rfl, Nat.le_refl _, by simp [maxLen], fun i y hy => ?_⟩
    have hi : i = 0 := by have := (List.getElem?_eq_some_iff.1 hy).1; simp at this; exact this
    subst hi
    simp at hy; subst hy
    exact ⟨_, cs, rfl, trivial, hcs, fun j u hu => by rw [Nat.zero_mul, Nat.zero_add]; exact hc j u hu, hR _ _ _ _ (Nat.le_refl _) (hg.mono fun _ _ h => h.elim) hx⟩
  obtain ⟨v', w', h1, h2, h3⟩ := append_full (ty := t) (m := [x]) hE h' hs (by simp) hone hlen hlm fun w2 g r y hy => hR _ _ _ _ (by omega) (g.mono fun _ _ h => h.elim) hy
  refine ⟨hQ1 _ hg, runK_i h1 (hK w1 v' w' (h2.base fun _ _ => Nat.zero_le _) (h3.mono fun _ _ h => h.elim) ((hg.trans h3).mono fun _ _ h => h.elim) fun g hg' => .inr ?_)⟩
  have := (OwnR.ownB h2 g hg').1
  omega
end
end Go.K

namespace Go.Proofs.YtlbaopamhkmepaaGreatDoor
open Go Go.K
/-- rubric/schema.New -/
def S14 (v0 : Value) (K : Cont) (w : World) : Prop :=
  lenK v0 fun t10 =>
  gtK .i64 t10 (.int .i64 64) fun t11 =>
  condK t11
  (K (.tuple #[(.pointer none), (.int .i64 3)]) w)
  (callK Tryz.prog 43 [v0] (fun t13 w1 =>
  runK Tryz.prog (Instr.makeMap 85 none) (fun t14 w2 =>
  buildK [(0, 1), (1, 1)] [(.slice none 0 0), (.map none)] [(0, t13), (1, t14)] fun t15 =>
  boxnK 87 t15 (fun t16 w3 =>
  lenK v0 fun t18 =>
  LoopK [(.int .i64 0)] (fun vs again w4 => ∀ _h : Env,
  ltK .i64 (nth vs 0) t18 fun t20 =>
  condK t20
  (ixK 6 v0 (nth vs 0) fun t21 =>
  ldnK 6 t21 (fun t22 w5 =>
  newK 84 [(.int .i64 0), (.bool false), (.int .u8 0), (.bool false), (.bool false), (.int .i64 0)] (fun t6 w6 =>
  stnK 6 t6 t22 (fun w7 =>
  JoinK (fun _vs_1 w8 => ∀ _h_1 : Env,
  DrawC [7] [[], [0], [0, 1], [0, 1, 2], [], [4], [], [0, 1, 2, 3, 4, 5, 6]] w8.drew (fun M St =>
  nilckK t16 fun t40 =>
  faK 1 t40 fun t41 =>
  sld1 (St 3) t41 fun t42 =>
  faK 0 t6 fun t43 =>
  sld1 (St 5) t43 fun t44 =>
  sldn (St 6) 6 t6 fun t45 =>
  runK Tryz.prog (do Instr.mapUpdate 85 t42 t44 t45; pure undef) (fun _u w9 =>
  Mod (M 7) w8.drew w9 ∧
  addK .i64 (nth vs 0) (.int .i64 1) fun t46 =>
  again [t46] w9) w8.drew)) (fun J =>
  JoinK (fun vs_2 w10 => ∀ _h_2 : Env,
  condK (nth vs_2 0)
  (K (.tuple #[(.pointer none), (.int .i64 3)]) w10)
  (ldnK 6 t6 (fun t35 w11 =>
  callK Tryz.prog 44 [t35] (fun t36 w12 =>
  notK t36 fun t37 =>
  condK t37
  (K (.tuple #[(.pointer none), (.int .i64 3)]) w12)
  (J [] w12)) w11) w10)) (fun J_1 =>
  DrawC [6, 10, 11] [[], [0], [0, 1], [0, 1, 2], [], [4], [0, 1, 2, 3, 4, 5], [0, 1, 2, 3, 4, 5, 6], [0, 1, 2, 3, 4, 5, 6, 7], [0, 1, 2, 3, 4, 5, 6, 7], [], [0, 1, 2, 3, 4, 5, 6, 7, 8, 10], [0, 1, 2, 3, 4, 5, 6, 7, 8, 9, 10, 11]] w7.drew (fun M_1 St_1 =>
  nilckK t16 fun t25 =>
  faK 1 t25 fun t26 =>
  sld1 (St_1 3) t26 fun t27 =>
  faK 0 t6 fun t28 =>
  sld1 (St_1 5) t28 fun t29 =>
  (runK Tryz.prog (Instr.lookup 85 t27 t29 true) (fun t30 w13 =>
  Mod (M_1 6) w7.drew w13 ∧
  extK 0 t30 fun t31 =>
  extK 1 t30 fun t32 =>
  newK 84 [(.int .i64 0), (.bool false), (.int .u8 0), (.bool false), (.bool false), (.int .i64 0)] (fun t7 w14 =>
  Mod (M_1 10) w13 w14 ∧
  stnK 6 t7 t31 (fun w15 =>
  Mod (M_1 11) w14 w15 ∧
  J_1 [t32] w15) w14) w13) w7.drew) ∧
  (newK 84 [(.int .i64 0), (.bool false), (.int .u8 0), (.bool false), (.bool false), (.int .i64 0)] (fun t7_1 w16 =>
  Mod (M_1 10) w7.drew w16 ∧
  runK Tryz.prog (Instr.lookup 85 t27 t29 true) (fun t30_1 w17 =>
  Mod (M_1 6) w16 w17 ∧
  extK 0 t30_1 fun t31_1 =>
  extK 1 t30_1 fun t32_1 =>
  stnK 6 t7_1 t31_1 (fun w18 =>
  Mod (M_1 11) w17 w18 ∧
  J_1 [t32_1] w18) w17) w16) w7.drew))))) w6) w5) w4)
  (nilckK t16 fun t48 =>
  faK 0 t48 fun t49 =>
  ld1K t49 (fun t50 w19 =>
  callK Tryz.prog 45 [t50, (.func (.func 46) #[] #[])] (fun _t51 w20 =>
  K (.tuple #[t16, (.int .i64 0)]) w20) w19) w4)) w3) w2) w1) w)
theorem S14_eq (v0 : Value) (K : Cont) (w : World) : S14 v0 K w = D Tryz.prog okf 53 (bodyOf Tryz.f14) (.node [] [] .nil (.node [] [] (.node [] [] .nil (.node [] [] (.node [] [] .nil .nil) .nil)) (.node [] [] .nil (.node [] [] (.node [] [] .nil (.node [19] [(2, 3), (6, 8), (19, 46)] (.node [] [] .nil (.node [] [] (.node [] [] .nil .nil) (.node [] [] (.node [] [] .nil (.cut [] [(2, 3), (7, 8), (23, 38)] (.cut [8] [(7, 8), (23, 32)] (.dt [6, 10, 11] [[], [0], [0, 1], [0, 1, 2], [], [4], [0, 1, 2, 3, 4, 5], [0, 1, 2, 3, 4, 5, 6], [0, 1, 2, 3, 4, 5, 6, 7], [0, 1, 2, 3, 4, 5, 6, 7], [], [0, 1, 2, 3, 4, 5, 6, 7, 8, 10], [0, 1, 2, 3, 4, 5, 6, 7, 8, 9, 10, 11]] [[6]] (.op 0 (.op 1 (.op 2 (.op 3 (.op 4 (.op 5 (.br (.op 6 (.op 7 (.op 8 (.op 9 (.op 10 (.op 11 (.op 12 .nil))))))) (.op 10 (.op 6 (.op 7 (.op 8 (.op 9 (.op 11 (.op 12 .nil))))))))))))))) (.node [] [] .nil (.node [] [] (.node [] [] .nil .nil) .nil))) (.dc [7] [[], [0], [0, 1], [0, 1, 2], [], [4], [], [0, 1, 2, 3, 4, 5, 6]] []))) .nil))) .nil)) (.node [] [] .nil (.node [] [] .nil .nil)))))) (retK Tryz.prog [.tmp 2, .tmp 3] K) (nth [v0]) w := by kernel_rfl
theorem S14_ok {v0 : Value} {K : Cont} {w : World} (h : S14 v0 K w) : callK Tryz.prog 14 [v0] K w :=
  callK_of (P := Tryz.prog) (ok := okf) (n := 53) (fn := Tryz.f14) (c := bodyOf Tryz.f14) (rs := [.tmp 2, .tmp 3]) (an := (.node [] [] .nil (.node [] [] (.node [] [] .nil (.node [] [] (.node [] [] .nil .nil) .nil)) (.node [] [] .nil (.node [] [] (.node [] [] .nil (.node [19] [(2, 3), (6, 8), (19, 46)] (.node [] [] .nil (.node [] [] (.node [] [] .nil .nil) (.node [] [] (.node [] [] .nil (.cut [] [(2, 3), (7, 8), (23, 38)] (.cut [8] [(7, 8), (23, 32)] (.dt [6, 10, 11] [[], [0], [0, 1], [0, 1, 2], [], [4], [0, 1, 2, 3, 4, 5], [0, 1, 2, 3, 4, 5, 6], [0, 1, 2, 3, 4, 5, 6, 7], [0, 1, 2, 3, 4, 5, 6, 7], [], [0, 1, 2, 3, 4, 5, 6, 7, 8, 10], [0, 1, 2, 3, 4, 5, 6, 7, 8, 9, 10, 11]] [[6]] (.op 0 (.op 1 (.op 2 (.op 3 (.op 4 (.op 5 (.br (.op 6 (.op 7 (.op 8 (.op 9 (.op 10 (.op 11 (.op 12 .nil))))))) (.op 10 (.op 6 (.op 7 (.op 8 (.op 9 (.op 11 (.op 12 .nil))))))))))))))) (.node [] [] .nil (.node [] [] (.node [] [] .nil .nil) .nil))) (.dc [7] [[], [0], [0, 1], [0, 1, 2], [], [4], [], [0, 1, 2, 3, 4, 5, 6]] []))) .nil))) .nil)) (.node [] [] .nil (.node [] [] .nil .nil))))))) good mixed Tryz.func14 (by kernel_rfl) (by kernel_rfl) (by kernel_rfl) (by kernel_rfl) (Eq.mp (S14_eq v0 K w) h)

/-- slices.Clone[[]rubric/api.Key,rubric/api.Key] -/
def S43 (v0 : Value) (K : Cont) (w : World) : Prop :=
  snilK v0 fun b4 =>
  condK (.bool b4)
  (K (.slice none 0 0) w)
  (rowK 84 6 0 [] [] (fun t5 w1 =>
  runK Tryz.prog (Builtin.append_ #[48, 48] 48 [t5, v0].toArray) (fun t7 w2 =>
  K t7 w2) w1) w)
theorem S43_eq (v0 : Value) (K : Cont) (w : World) : S43 v0 K w = D Tryz.prog okf 8 (bodyOf Tryz.f43) (.node [] [] .nil (.node [] [] (.node [] [] .nil (.node [] [] (.node [] [] .nil .nil) .nil)) (.node [] [] .nil .nil))) (retK Tryz.prog [.tmp 2] K) (nth [v0]) w := by kernel_rfl
theorem S43_ok {v0 : Value} {K : Cont} {w : World} (h : S43 v0 K w) : callK Tryz.prog 43 [v0] K w :=
  callK_of (P := Tryz.prog) (ok := okf) (n := 8) (fn := Tryz.f43) (c := bodyOf Tryz.f43) (rs := [.tmp 2]) (an := (.node [] [] .nil (.node [] [] (.node [] [] .nil (.node [] [] (.node [] [] .nil .nil) .nil)) (.node [] [] .nil .nil)))) good mixed Tryz.func43 (by kernel_rfl) (by kernel_rfl) (by kernel_rfl) (by kernel_rfl) (Eq.mp (S43_eq v0 K w) h)

/-- rubric/schema.may -/
def S44 (v0 : Value) (K : Cont) (w : World) : Prop :=
  boxnK 84 v0 (fun t1 w1 =>
  JoinK (fun vs w2 => ∀ _h : Env,
  condK (nth vs 0)
  (K (.bool false) w2)
  (faK 1 t1 fun t23 =>
  ld1K t23 (fun t24 w3 =>
  condK t24
  (faK 4 t1 fun t25 =>
  ld1K t25 (fun t26 w4 =>
  notK t26 fun t27 =>
  condK t27
  (faK 5 t1 fun t29 =>
  ld1K t29 (fun t30 w5 =>
  geK .i64 t30 (.int .i64 0) fun t31 =>
  condK t31
  (faK 5 t1 fun t34 =>
  ld1K t34 (fun t35 w6 =>
  leK .i64 t35 (.int .i64 8) fun t36 =>
  K t36 w6) w5)
  (K (.bool false) w5)) w4)
  (K (.bool false) w4)) w3)
  (faK 5 t1 fun t38 =>
  ld1K t38 (fun t39 w7 =>
  eqK .i64 t39 (.int .i64 0) fun t40 =>
  K t40 w7) w3)) w2)) (fun J =>
  faK 0 t1 fun t4 =>
  ld1K t4 (fun t5 w8 =>
  ltK .i64 t5 (.int .i64 1) fun t6 =>
  condK t6
  (J [(.bool true)] w8)
  (faK 0 t1 fun t8 =>
  ld1K t8 (fun t9 w9 =>
  gtK .i64 t9 (.int .i64 1000) fun t10 =>
  condK t10
  (J [(.bool true)] w9)
  (faK 2 t1 fun t13 =>
  ld1K t13 (fun t14 w10 =>
  ltK .u8 t14 (.int .u8 1) fun t15 =>
  condK t15
  (J [(.bool true)] w10)
  (faK 2 t1 fun t18 =>
  ld1K t18 (fun t19 w11 =>
  gtK .u8 t19 (.int .u8 4) fun t20 =>
  J [t20] w11) w10)) w9)) w8)) w1)) w
theorem S44_eq (v0 : Value) (K : Cont) (w : World) : S44 v0 K w = D Tryz.prog okf 41 (bodyOf Tryz.f44) (.node [] [] .nil (.node [] [] (.cut [3] [(3, 21)] .nil (.node [] [] (.node [] [] .nil .nil) (.node [] [] .nil (.node [] [] (.node [] [] .nil .nil) .nil)))) (.node [] [] .nil .nil))) (retK Tryz.prog [.tmp 2] K) (nth [v0]) w := by kernel_rfl
theorem S44_ok {v0 : Value} {K : Cont} {w : World} (h : S44 v0 K w) : callK Tryz.prog 44 [v0] K w :=
  callK_of (P := Tryz.prog) (ok := okf) (n := 41) (fn := Tryz.f44) (c := bodyOf Tryz.f44) (rs := [.tmp 2]) (an := (.node [] [] .nil (.node [] [] (.cut [3] [(3, 21)] .nil (.node [] [] (.node [] [] .nil .nil) (.node [] [] .nil (.node [] [] (.node [] [] .nil .nil) .nil)))) (.node [] [] .nil .nil)))) good mixed Tryz.func44 (by kernel_rfl) (by kernel_rfl) (by kernel_rfl) (by kernel_rfl) (Eq.mp (S44_eq v0 K w) h)

/-- rubric/schema.New$1 -/
def S46 (v0 v1 : Value) (K : Cont) (w : World) : Prop :=
  boxnK 84 v0 (fun t2 w1 =>
  boxnK 84 v1 (fun t3 w2 =>
  faK 0 t2 fun t5 =>
  ld1K t5 (fun t6 w3 =>
  faK 0 t3 fun t7 =>
  ld1K t7 (fun t8 w4 =>
  callK Tryz.prog 47 [t6, t8] (fun t9 w5 =>
  K t9 w5) w4) w3) w2) w1) w
theorem S46_eq (v0 v1 : Value) (K : Cont) (w : World) : S46 v0 v1 K w = D Tryz.prog okf 10 (bodyOf Tryz.f46) (.node [] [] .nil (.node [] [] .nil .nil)) (retK Tryz.prog [.tmp 4] K) (nth [v0, v1]) w := by kernel_rfl
theorem S46_ok {v0 v1 : Value} {K : Cont} {w : World} (h : S46 v0 v1 K w) : callK Tryz.prog 46 [v0, v1] K w :=
  callK_of (P := Tryz.prog) (ok := okf) (n := 10) (fn := Tryz.f46) (c := bodyOf Tryz.f46) (rs := [.tmp 4]) (an := (.node [] [] .nil (.node [] [] .nil .nil))) good mixed Tryz.func46 (by kernel_rfl) (by kernel_rfl) (by kernel_rfl) (by kernel_rfl) (Eq.mp (S46_eq v0 v1 K w) h)

/-- cmp.Compare[int] -/
def S47 (v0 v1 : Value) (K : Cont) (w : World) : Prop :=
  callK Tryz.prog 82 [v0] (fun t8 w1 =>
  callK Tryz.prog 82 [v1] (fun t10 w2 =>
  condK t8
  (condK t10
  (K (.int .i64 0) w2)
  (K (.int .i64 (-1)) w2))
  (condK t10
  (K (.int .i64 1) w2)
  (ltK .i64 v0 v1 fun t16 =>
  condK t16
  (K (.int .i64 (-1)) w2)
  (gtK .i64 v0 v1 fun t19 =>
  condK t19
  (K (.int .i64 1) w2)
  (K (.int .i64 0) w2))))) w1) w
theorem S47_eq (v0 v1 : Value) (K : Cont) (w : World) : S47 v0 v1 K w = D Tryz.prog okf 20 (bodyOf Tryz.f47) (.node [] [] .nil (.node [] [] .nil (.node [] [] .nil (.node [] [] (.node [] [] .nil (.node [] [] (.node [] [] (.node [] [] .nil (.node [] [] (.node [] [] .nil .nil) .nil)) (.node [] [] .nil .nil)) .nil)) (.node [] [] (.node [] [] .nil (.node [] [] (.node [] [] .nil .nil) .nil)) (.node [] [] (.node [] [] .nil (.node [] [] (.node [] [] .nil .nil) .nil)) (.node [] [] (.node [] [] .nil (.node [] [] (.node [] [] .nil .nil) .nil)) (.node [] [] .nil .nil)))))))) (retK Tryz.prog [.tmp 4] K) (nth [v0, v1]) w := by kernel_rfl
theorem S47_ok {v0 v1 : Value} {K : Cont} {w : World} (h : S47 v0 v1 K w) : callK Tryz.prog 47 [v0, v1] K w :=
  callK_of (P := Tryz.prog) (ok := okf) (n := 20) (fn := Tryz.f47) (c := bodyOf Tryz.f47) (rs := [.tmp 4]) (an := (.node [] [] .nil (.node [] [] .nil (.node [] [] .nil (.node [] [] (.node [] [] .nil (.node [] [] (.node [] [] (.node [] [] .nil (.node [] [] (.node [] [] .nil .nil) .nil)) (.node [] [] .nil .nil)) .nil)) (.node [] [] (.node [] [] .nil (.node [] [] (.node [] [] .nil .nil) .nil)) (.node [] [] (.node [] [] .nil (.node [] [] (.node [] [] .nil .nil) .nil)) (.node [] [] (.node [] [] .nil (.node [] [] (.node [] [] .nil .nil) .nil)) (.node [] [] .nil .nil))))))))) good mixed Tryz.func47 (by kernel_rfl) (by kernel_rfl) (by kernel_rfl) (by kernel_rfl) (Eq.mp (S47_eq v0 v1 K w) h)

/-- cmp.isNaN[int] -/
def S82 (v0 : Value) (K : Cont) (w : World) : Prop :=
  neK .i64 v0 v0 fun t5 =>
  K t5 w
theorem S82_eq (v0 : Value) (K : Cont) (w : World) : S82 v0 K w = D Tryz.prog okf 6 (bodyOf Tryz.f82) (.node [] [] .nil (.node [] [] .nil .nil)) (retK Tryz.prog [.tmp 2] K) (nth [v0]) w := by kernel_rfl
theorem S82_ok {v0 : Value} {K : Cont} {w : World} (h : S82 v0 K w) : callK Tryz.prog 82 [v0] K w :=
  callK_of (P := Tryz.prog) (ok := okf) (n := 6) (fn := Tryz.f82) (c := bodyOf Tryz.f82) (rs := [.tmp 2]) (an := (.node [] [] .nil (.node [] [] .nil .nil))) good mixed Tryz.func82 (by kernel_rfl) (by kernel_rfl) (by kernel_rfl) (by kernel_rfl) (Eq.mp (S82_eq v0 K w) h)

end Go.Proofs.YtlbaopamhkmepaaGreatDoor

namespace Go.K
open Go

def MapI (w : World) (b : Nat) (l : List (Int × Value)) : Prop := ∃ es clock, w.heap[b]? = some (.map es clock) ∧ es.toList.map (fun e => (e.key, e.val)) = l.map fun p => (Value.int .i64 p.1, p.2)
theorem MapI.lt {w : World} {b : Nat} {l : List (Int × Value)} (h : MapI w b l) : b < w.heap.size := by
  obtain ⟨es, c, hb, _⟩ := h
  exact (Array.getElem?_eq_some_iff.1 hb).1
theorem MapI.mod {M : Nat → Prop} {w w' : World} {b : Nat} {l : List (Int × Value)} (h : MapI w b l) (hm : Mod M w w') (hb : ¬ M b) : MapI w' b l := by
  have hl := h.lt
  obtain ⟨es, c, h1, h2⟩ := h
  exact ⟨es, c, (hm.same b hl hb).trans h1, h2⟩
theorem MapI.make (w : World) : MapI (w.alloc (.map #[] 0)) w.heap.size [] := ⟨#[], 0, (MapKept.heap_alloc w _).1, rfl⟩

theorem findNow_int (k : Int) : ∀ (es : List MapEntry) (l : List (Int × Value)) (i : Nat), (es.map fun e => (e.key, e.val)) = (l.map fun p => (Value.int .i64 p.1, p.2)) →
    ∃ r, Instr.findNow (.int .i64) (.int .i64 k) es i = some r ∧ ((r = none ∧ l.find? (fun p => decide (p.1 = k)) = none) ∨ ∃ j p, r = some (j, p.2) ∧ l.find? (fun p => decide (p.1 = k)) = some p) := by
  intro es
  induction es with
  | nil =>
    intro l i h
    cases l with
    | nil => exact ⟨none, rfl, .inl ⟨rfl, rfl⟩⟩
    | cons p l => simp at h
  | cons e es ih =>
    intro l i h
    cases l with
    | nil => simp at h
    | cons p l =>
      simp only [List.map_cons, List.cons.injEq, Prod.mk.injEq] at h
      obtain ⟨⟨h1, h2⟩, h3⟩ := h
      obtain ⟨r, hr, hiff⟩ := MapKept.sameNow_of_keys (d := .int .i64) (a := .int .i64 k) (b := e.key) rfl (by rw [h1]; rfl)
      rw [h1] at hiff
      cases r with
      | true =>
        have hk : k = p.1 := by have := hiff.1 rfl; simpa using this
        exact ⟨some (i, e.val), by simp [Instr.findNow, hr], .inr ⟨i, p, by rw [h2], by simp [hk]⟩⟩
      | false =>
        have hk : ¬ p.1 = k := fun e => by have := hiff.2 (by rw [e]); cases this
        obtain ⟨r, h4, h5⟩ := ih l (i + 1) h3
        refine ⟨r, by simp [Instr.findNow, hr, h4], ?_⟩
        simpa [List.find?_cons, hk] using h5
theorem isKeyI (k : Int) : MapKept.IsKey (.int .i64) (.int .i64 k) := rfl
theorem map_lookup {P : Program} {t kt et : TypeId} {z : Value} {w : World} {b : Nat} {l : List (Int × Value)} (ht : P.underlying t = some (.map kt et)) (hk : P.underlying kt = some (.int .i64)) (hz : (zeroValue et).run P w = .ok z w) (h : MapI w b l) (k : Int) :
    (Instr.lookup t (.map (some b)) (.int .i64 k) true).run P w = .ok (.tuple #[((l.find? fun p => decide (p.1 = k)).map (·.2)).getD z, .bool (l.find? fun p => decide (p.1 = k)).isSome]) w := by
  obtain ⟨es, clock, hb, he⟩ := h
  obtain ⟨r, h1, h2⟩ := findNow_int k es.toList l 0 he
  have hf := MapKept.run_findKey (w := w) hk h1
  have hc := fun em => MapKept.run_checkKey (w := w) hk (isKeyI k) em 9999
  rcases h2 with ⟨rfl, h2⟩ | ⟨j, p, rfl, h2⟩
  · simp [Instr.lookup, run_underlying ht, MapKept.run_getObj_map hb, hc, hf, hz, Result.andThen, h2]
  · simp [Instr.lookup, run_underlying ht, MapKept.run_getObj_map hb, hc, hf, Result.andThen, h2]
theorem map_update {P : Program} {t kt et : TypeId} {w : World} {b : Nat} {l : List (Int × Value)} (ht : P.underlying t = some (.map kt et)) (hk : P.underlying kt = some (.int .i64)) (h : MapI w b l) (k : Int) (v : Value) (hn : l.find? (fun p => decide (p.1 = k)) = none) :
    ∃ w', (Instr.mapUpdate t (.map (some b)) (.int .i64 k) v).run P w = .ok () w' ∧ MapI w' b (l ++ [(k, v)]) ∧ Mod (fun x => x = b) w w' := by
  obtain ⟨es, clock, hb, he⟩ := h
  obtain ⟨r, h1, h2⟩ := findNow_int k es.toList l 0 he
  have hf := MapKept.run_findKey (w := w) hk h1
  have hc := fun em => MapKept.run_checkKey (w := w) hk (isKeyI k) em 9999
  rcases h2 with ⟨rfl, h2⟩ | ⟨j, p, rfl, h2⟩
  · refine ⟨{ w with heap := w.heap.setIfInBounds b (.map (es.push ⟨.int .i64 k, v, clock⟩) (clock + 1)) }, by simp [Instr.mapUpdate, run_underlying ht, MapKept.run_getObj_map hb, hc, hf, MapKept.run_setObj_map _ hb, Result.andThen], ⟨_, _, (MapKept.heap_set hb).1, ?_⟩, ⟨rfl, rfl, rfl, by simp, fun x _ hx => (MapKept.heap_set hb).2 x hx⟩⟩
    simp [he]
  · rw [h2] at hn; cases hn
end Go.K

namespace Go.K
open Go
theorem pnilK_s {a : Addr} {K : Bool → Prop} (h : K false) : pnilK (.pointer (some a)) K := ⟨_, rfl, h⟩
theorem condK_f {A B : Prop} (h : B) : condK (.bool false) A B := h
theorem condK_t {A B : Prop} (h : A) : condK (.bool true) A B := h
theorem nilckK_s {a : Addr} {K : Value → Prop} (h : K (.pointer (some a))) : nilckK (.pointer (some a)) K := ⟨_, rfl, h⟩
end Go.K
namespace Go.Proofs.YtlbaopamhkmepaaGreatDoor
open Go Go.K

theorem elem_key : ElemOK Tryz.prog 48 84 6 24 := ⟨Tryz.t84, .agg #[.int .i64 0, .bool false, .int .u8 0, .bool false, .bool false, .int .i64 0], by kernel_rfl, by kernel_rfl, by kernel_rfl, by kernel_rfl, by kernel_rfl, by rfl, by decide⟩
open Classical in
theorem may1_ok {k : DKey} {w : World} : callK Tryz.prog 44 [.agg k.cells.toArray] (fun v' w' => v' = .bool (decide (KeyOK k)) ∧ Grow w w') w := by
  apply S44_ok
  unfold S44
  refine boxn_i fun b w1 _ _ g hc _ => ?_
  have l0 := hc 0 _ rfl
  have l1 := hc 1 _ rfl
  have l2 := hc 2 _ rfl
  have l4 := hc 4 _ rfl
  have l5 := hc 5 _ rfl
  simp only [faK_i]
  have ans : ∀ q : Bool, (q = true ↔ KeyOK k) → Value.bool q = .bool (decide (KeyOK k)) ∧ Grow w w1 := fun q h => ⟨by congr 1; rw [Bool.eq_iff_iff, h, decide_eq_true_eq], g⟩
  refine JoinK_i (fun vs w2 => w2 = w1 ∧ ∃ q : Bool, vs = [.bool q] ∧ (q = false ↔ 1 ≤ k.id ∧ k.id ≤ 1000 ∧ 1 ≤ k.kind ∧ k.kind ≤ 4)) ?_ ?_
  · rintro vs _ ⟨rfl, q, rfl, hq⟩ _
    rename World => w1
    rw [nth_z, List.headD_cons]
    cases q with
    | true => exact condK_t (ans false ⟨fun h => (nomatch h), fun h => by have := hq.2 ⟨h.1, h.2.1, h.2.2.1, h.2.2.2.1⟩; cases this⟩)
    | false =>
      obtain ⟨h1, h2, h3, h4⟩ := hq.1 rfl
      refine condK_f (ld1K_i l1 ?_)
      cases hb : k.block with
      | true =>
        refine condK_t (ld1K_i l4 ?_)
        rw [notK_i]
        cases hf : k.before with
        | true => exact condK_f (ans false ⟨fun h => (nomatch h), fun h => by have := h.2.2.2.2.2.2.2 hb; rw [hf] at this; cases this⟩)
        | false =>
          refine condK_t (ld1K_i l5 ?_)
          rw [geK_i]
          refine condK_p (fun h5 => ?_) fun h5 => ans false ⟨fun h => (nomatch h), fun h => by have := h.2.2.2.2.1; omega⟩
          refine ld1K_i l5 ?_
          rw [leK_i]
          refine ans _ ?_
          rw [decide_eq_true_eq]
          exact ⟨fun h6 => ⟨h1, h2, h3, h4, h5, h6, (fun e => by rw [hb] at e; cases e), fun _ => hf⟩, fun h => h.2.2.2.2.2.1⟩
      | false =>
        refine condK_f (ld1K_i l5 ?_)
        rw [eqK_i]
        refine ans _ ?_
        rw [decide_eq_true_eq]
        exact ⟨fun h6 => ⟨h1, h2, h3, h4, by omega, by omega, fun _ => h6, fun e => by rw [hb] at e; cases e⟩, fun h => h.2.2.2.2.2.2.1 hb⟩
  · refine ld1K_i l0 ?_
    rw [ltK_i]
    refine condK_p (fun h1 => ⟨rfl, true, rfl, ⟨fun h => (nomatch h), fun h => by omega⟩⟩) fun h1 => ?_
    refine ld1K_i l0 ?_
    rw [gtK_i]
    refine condK_p (fun h2 => ⟨rfl, true, rfl, ⟨fun h => (nomatch h), fun h => by omega⟩⟩) fun h2 => ?_
    refine ld1K_i l2 ?_
    rw [ltK_i]
    refine condK_p (fun h3 => ⟨rfl, true, rfl, ⟨fun h => (nomatch h), fun h => by omega⟩⟩) fun h3 => ?_
    refine ld1K_i l2 ?_
    rw [gtK_i]
    refine ⟨rfl, _, rfl, ?_⟩
    rw [decide_eq_false_iff_not]
    exact ⟨fun h => by omega, fun h => by omega⟩

theorem clone_key {S : Nat → Prop} {v : Value} {l : List DKey} {w : World} (h : RKeys S w v l) (hl : l.length ≤ 1099511627776) :
    callK Tryz.prog 43 [v] (fun v' w' => OwnR w.heap.size 84 6 RKey w' v' l ∧ Grow w w') w := by
  apply S43_ok
  unfold S43
  exact clone_g (K := fun v' w' => OwnR w.heap.size 84 6 RKey w' v' l ∧ Grow w w') elem_key h (by omega) (fun _ _ _ => RKey.one) (fun _ _ _ _ _ _ h => h) fun _ _ h g => ⟨h, g⟩

/-- how two ids compare -/
def cmpI (a b : Int) : Int := if a < b then -1 else if b < a then 1 else 0
theorem cmp_ok {a b : Int} {w : World} : callK Tryz.prog 47 [.int .i64 a, .int .i64 b] (fun v' w' => v' = .int .i64 (cmpI a b) ∧ w' = w) w := by
  have nan : ∀ (c : Int) (K : Cont), K (.bool false) w → callK Tryz.prog 82 [.int .i64 c] K w := by
    intro c K hK
    apply S82_ok
    unfold S82
    rw [neK_i]
    rw [show (!decide (c = c)) = false by simp]; exact hK
  apply S47_ok
  unfold S47
  refine nan _ _ (nan _ _ ?_)
  refine condK_f (condK_f ?_)
  rw [ltK_i]
  unfold cmpI
  refine condK_p (fun h => ⟨by rw [if_pos h], rfl⟩) fun h => ?_
  rw [gtK_i]
  exact condK_p (fun h2 => ⟨by rw [if_neg h, if_pos h2], rfl⟩) fun h2 => ⟨by rw [if_neg h, if_neg h2], rfl⟩

/-- a schema that was made, in memory -/
def SchR (D : Nat → Prop) (w : World) (v : Value) (ks : List DKey) : Prop :=
  ∃ b m kv l, v = .pointer (some ⟨b, 0, none⟩) ∧ D b ∧ D m ∧ w.cell? ⟨b, 0, none⟩ = some kv ∧ w.cell? ⟨b, 1, none⟩ = some (.map (some m)) ∧ SlR D 6 RKey w kv ks ∧ MapI w m l ∧
    ∀ id : Int, (l.find? fun p => decide (p.1 = id)).map (·.2) = (findK ks id).map fun k => .agg k.cells.toArray
theorem SchR.mod {D M : Nat → Prop} {w w' : World} {v : Value} {ks : List DKey} (h : SchR D w v ks) (hm : Mod M w w') (hd : ∀ b, b < w.heap.size → D b → ¬ M b) : SchR D w' v ks := by
  obtain ⟨b, m, kv, l, rfl, h1, h2, h3, h4, h5, h6, h7⟩ := h
  have hb := World.block_lt_of_cell? w _ h3
  exact ⟨b, m, kv, l, rfl, h1, h2, hm.cell h3 (hd _ hb h1), hm.cell h4 (hd _ hb h1), h5.mod hm hd (by decide) fun _ _ h => h, h6.mod hm (hd _ h6.lt h2), h7⟩
theorem SchR.grow {D : Nat → Prop} {w w' : World} {v : Value} {ks : List DKey} (h : SchR D w v ks) (hm : Grow w w') : SchR D w' v ks := h.mod hm fun _ _ _ h => h
theorem SchR.sub {D D' : Nat → Prop} {w : World} {v : Value} {ks : List DKey} (h : SchR D w v ks) (hd : ∀ b, b < w.heap.size → D b → D' b) : SchR D' w v ks := by
  obtain ⟨b, m, kv, l, rfl, h1, h2, h3, h4, h5, h6, h7⟩ := h
  exact ⟨b, m, kv, l, rfl, hd _ (World.block_lt_of_cell? w _ h3) h1, hd _ h6.lt h2, h3, h4, h5.sub hd (by decide) fun _ _ h => h, h6, h7⟩

theorem zero_key (w : World) : (zeroValue 84).run Tryz.prog w = .ok (.agg DKey.zero.cells.toArray) w := run_zeroValue (by kernel_rfl) w
abbrev RNum : World → List Value → Int → Prop := fun _ r x => r = [.int .i64 x]
theorem RNum.one {w : World} {r : List Value} {x : Int} (h : RNum w r x) : ∀ u ∈ r, u.oneCell' = true := by
  subst h; intro u hu; simp at hu; subst hu; rfl
end Go.Proofs.YtlbaopamhkmepaaGreatDoor

namespace Go.K
open Go

section
variable {α : Type} [Inhabited α]
theorem flatK_toList (enc : α → List Value) (k : Nat) (hk : ∀ x, (enc x).length = k) (d : Array α) : (Sort.flatK enc k d).toList = (d.toList.map enc).flatten := by
  refine List.ext_getElem? fun t => ?_
  have hl : ∀ r ∈ d.toList.map enc, r.length = k := fun r hr => by obtain ⟨x, _, rfl⟩ := List.mem_map.1 hr; exact hk x
  have hfl : (d.toList.map enc).flatten.length = d.size * k := by rw [flat_len _ hl, List.length_map, Array.length_toList]
  by_cases ht : t < d.size * k
  · have k0 : 0 < k := by rcases Nat.eq_zero_or_pos k with h | h; · subst h; simp at ht
                          · exact h
    have hi : t / k < d.size := (Nat.div_lt_iff_lt_mul k0).2 ht
    have h1 := Sort.get_flatK enc k d t ht
    have h2 : (Sort.flatK enc k d).toList[t]? = some (Sort.flatK enc k d)[t]! := by
      have hs : t < (Sort.flatK enc k d).size := by simpa using ht
      rw [Array.getElem?_toList, Array.getElem?_eq_getElem hs, getElem!_pos _ t hs]
    rw [h2, h1]
    have h3 := flat_get (d.toList.map enc) (t / k) (t % k) (enc d[t / k]!) hl (by simp [hi]) (Nat.mod_lt _ k0)
    rw [Nat.div_add_mod' t k] at h3
    rw [h3]
    have hm : t % k < (enc d[t / k]!).length := by rw [hk]; exact Nat.mod_lt _ k0
    rw [List.getElem?_eq_getElem hm, getElem!_pos (enc d[t / k]!) _ hm]
  · rw [List.getElem?_eq_none (by simp; omega), List.getElem?_eq_none (by omega)]
theorem putCells_take (F cur : Array Value) (h : F.size ≤ cur.size) : (Sort.putCells id 0 F cur).size = cur.size ∧ (Sort.putCells id 0 F cur).toList.take F.size = F.toList := by
  refine ⟨by simp [Sort.putCells], List.ext_getElem? fun t => ?_⟩
  by_cases ht : t < F.size
  · rw [List.getElem?_take, if_pos ht, Array.getElem?_toList, Array.getElem?_toList]
    have h1 : t < cur.size := by omega
    simp [Sort.putCells, ht, h1]
  · rw [List.getElem?_take, if_neg ht, List.getElem?_eq_none (by simp; omega)]
theorem sortWorld_heap {enc : α → List Value} {k : Nat} {w : World} {g m e : Nat} {d : Array α} {os : Array Obj} {cur : Array Value} (hg : w.heap[g]? = some (.cells cur e (0, 0))) :
    (Go.Proofs.sortWorldK enc k w g 0 m d os).heap[g]? = some (.cells (Sort.putCells id 0 (Sort.flatK enc k d) cur) e (0, 0)) ∧ Mod (fun b => b = g) w (Go.Proofs.sortWorldK enc k w g 0 m d os) := by
  have hlt : g < w.heap.size := (Array.getElem?_eq_some_iff.1 hg).1
  have hsz : (w.heap.modify g (Sort.onCells (Sort.putCells id 0 (Sort.flatK enc k d)))).size = w.heap.size := by simp
  have eh : (Go.Proofs.sortWorldK enc k w g 0 m d os).heap = w.heap.modify g (Sort.onCells (Sort.putCells id 0 (Sort.flatK enc k d))) ++ os := rfl
  refine ⟨?_, ⟨rfl, rfl, rfl, by rw [eh, Array.size_append, hsz]; omega, fun b hb hn => ?_⟩⟩
  · rw [eh, Array.getElem?_append_left (by rw [hsz]; exact hlt), Array.getElem?_modify, if_pos rfl, hg]; rfl
  · rw [eh, Array.getElem?_append_left (by rw [hsz]; exact hb), Array.getElem?_modify, if_neg (fun h => hn h.symm)]
/-- a row of one's own holds what the sort's contract asks; and behind the sort it is one of one's own -/
theorem OwnR.sorted {B e k : Nat} {R : World → List Value → α → Prop} {enc : α → List Value} (hk : ∀ x, (enc x).length = k) (h1 : ∀ x, ∀ v ∈ enc x, v.oneCell' = true) (hR : ∀ w r x, R w r x ↔ r = enc x) {w : World} {g n c : Nat} {l : List α} (h : OwnR B e k R w (.slice (some ⟨g, 0, none⟩) n c) l) :
    n = l.length ∧ g < w.heap.size ∧ Sort.HoldsK enc k w g 0 l.toArray ∧ ∀ (m : Nat) (d : Array α) (os : Array Obj), d.size = l.length → OwnR B e k R (Go.Proofs.sortWorldK enc k w g 0 m d os) (.slice (some ⟨g, 0, none⟩) n c) d.toList ∧ Mod (fun b => b = g) w (Go.Proofs.sortWorldK enc k w g 0 m d os) := by
  obtain ⟨rows, h2, h3, h4, h5⟩ := h
  obtain ⟨q1, q2⟩ := h2
  rcases q2 with ⟨q, _⟩ | ⟨g', cap, cur, q, hg, hh, hn, hm, hcs, hcur⟩
  · cases q
  cases q
  have hlt : g < w.heap.size := (Array.getElem?_eq_some_iff.1 hh).1
  have hrows : rows = l.map enc := by
    refine List.ext_getElem? fun i => ?_
    rw [List.getElem?_map]
    by_cases hi : i < l.length
    · have hir : i < rows.length := by omega
      rw [List.getElem?_eq_getElem hi, List.getElem?_eq_getElem hir, Option.map_some]
      rw [(hR w rows[i] l[i]).1 (h5 i _ _ (List.getElem?_eq_getElem hir) (List.getElem?_eq_getElem hi))]
    · rw [List.getElem?_eq_none (by omega), List.getElem?_eq_none (by omega)]; rfl
  have hle : l.length * k ≤ c * k := Nat.mul_le_mul_right _ hn
  refine ⟨rfl, hlt, fun j hj => ?_, fun m d os hd => ?_⟩
  · rw [Sort.size_flatK] at hj
    have hjl : j < l.length * k := by simpa using hj
    have hjc : j < cur.size := by rw [hcs]; omega
    have e0 : (Sort.flatK enc k l.toArray).toList = rows.flatten := by rw [flatK_toList enc k hk, hrows]
    have e1 : rows.flatten[j]? = some (Sort.flatK enc k l.toArray)[j]! := by
      have hs : j < (Sort.flatK enc k l.toArray).size := by rw [Sort.size_flatK]; exact hj
      rw [← e0, Array.getElem?_toList, Array.getElem?_eq_getElem hs, getElem!_pos _ j hs]
    rw [← hcur, List.getElem?_take, if_pos hjl, Array.getElem?_toList] at e1
    rw [Nat.zero_add]
    refine ⟨?_, ?_⟩
    · simp only [World.cell?, hh]; exact e1
    · simp [World.frozen?, hh]
  · obtain ⟨r1, r2⟩ := sortWorld_heap (enc := enc) (k := k) (m := m) (d := d) (os := os) hh
    refine ⟨⟨d.toList.map enc, ⟨?_, .inr ⟨g, c, _, by have e : d.toList.length = l.length := hd; rw [e], hg, r1, ?_, hm, ?_, ?_⟩⟩, by simp, fun r hr => ?_, fun i r x hr hx => ?_⟩, r2⟩
    · have := flat_len (d.toList.map enc) (k := k) fun r hr => by obtain ⟨x, _, rfl⟩ := List.mem_map.1 hr; exact hk x
      simpa using this
    · rw [Array.length_toList, hd]; exact hn
    · rw [(putCells_take (Sort.flatK enc k d) cur (by rw [Sort.size_flatK, hd, hcs]; exact hle)).1]; exact hcs
    · have := (putCells_take (Sort.flatK enc k d) cur (by rw [Sort.size_flatK, hd, hcs]; exact hle)).2
      rw [Sort.size_flatK] at this
      rw [Array.length_toList, this, flatK_toList enc k hk]
    · obtain ⟨x, _, rfl⟩ := List.mem_map.1 hr
      exact ⟨hk x, h1 x⟩
    · rw [List.getElem?_map] at hr
      rw [hx] at hr
      exact (hR _ _ _).2 (Option.some.inj hr).symm
end
end Go.K

namespace Go.Proofs.YtlbaopamhkmepaaGreatDoor
open Go Go.K

/-- (the shelf's laying, written by a program off the shelf's own command) -/
def sortKey_ren : Go.Shelf.Ren := ⟨fun | 6 => 45 | 15 => 81 | 14 => 80 | 28 => 137 | 29 => 138 | 20 => 129 | 21 => 130 | 22 => 131 | 23 => 132 | 24 => 133 | 25 => 134 | 26 => 135 | 27 => 136 | 46 => 179 | 47 => 180 | 48 => 181 | 49 => 182 | 50 => 183 | 57 => 202 | n => n, fun | 22 => 48 | 24 => 84 | 25 => 92 | 3 => 3 | 39 => 142 | 0 => 0 | 53 => 191 | 55 => 34 | 4 => 4 | 46 => 184 | 45 => 183 | 50 => 188 | 5 => 5 | 9 => 9 | 66 => 225 | 70 => 228 | 76 => 247 | 77 => 43 | n => n, fun | n => n⟩
theorem sortKey : Go.Proofs.SlLaysF0.n6 Tryz.prog sortKey_ren := {
  mixed := by kernel_rfl,
  f6 := ⟨Tryz.f45.name, by decide, Tryz.func45.trans (congrArg some (by kernel_rfl))⟩,
  f14 := ⟨Tryz.f80.name, by decide, Tryz.func80.trans (congrArg some (by kernel_rfl))⟩,
  f15 := Tryz.func81.trans (congrArg some (by kernel_rfl)),
  f20 := ⟨Tryz.f129.name, by decide, Tryz.func129.trans (congrArg some (by kernel_rfl))⟩,
  f21 := ⟨Tryz.f130.name, by decide, Tryz.func130.trans (congrArg some (by kernel_rfl))⟩,
  f22 := ⟨Tryz.f131.name, by decide, Tryz.func131.trans (congrArg some (by kernel_rfl))⟩,
  f23 := ⟨Tryz.f132.name, by decide, Tryz.func132.trans (congrArg some (by kernel_rfl))⟩,
  f24 := ⟨Tryz.f133.name, by decide, Tryz.func133.trans (congrArg some (by kernel_rfl))⟩,
  f25 := ⟨Tryz.f134.name, by decide, Tryz.func134.trans (congrArg some (by kernel_rfl))⟩,
  f26 := ⟨Tryz.f135.name, by decide, Tryz.func135.trans (congrArg some (by kernel_rfl))⟩,
  f27 := ⟨Tryz.f136.name, by decide, Tryz.func136.trans (congrArg some (by kernel_rfl))⟩,
  f28 := Tryz.func137.trans (congrArg some (by kernel_rfl)),
  f29 := Tryz.func138.trans (congrArg some (by kernel_rfl)),
  f46 := ⟨Tryz.f179.name, by decide, Tryz.func179.trans (congrArg some (by kernel_rfl))⟩,
  f47 := Tryz.func180.trans (congrArg some (by kernel_rfl)),
  f48 := Tryz.func181.trans (congrArg some (by kernel_rfl)),
  f49 := ⟨Tryz.f182.name, by decide, Tryz.func182.trans (congrArg some (by kernel_rfl))⟩,
  f50 := ⟨Tryz.f183.name, by decide, Tryz.func183.trans (congrArg some (by kernel_rfl))⟩,
  f57 := ⟨Tryz.f202.name, by decide, Tryz.func202.trans (congrArg some (by kernel_rfl))⟩,
  t0 := Tryz.underlying0,
  a0 := Tryz.isAgg0,
  z0 := Tryz.sizeOf0,
  v0 := Tryz.zeroValue0,
  t3 := Tryz.underlying3,
  a3 := Tryz.isAgg3,
  z3 := Tryz.sizeOf3,
  v3 := Tryz.zeroValue3,
  t4 := Tryz.underlying4,
  a4 := Tryz.isAgg4,
  z4 := Tryz.sizeOf4,
  v4 := Tryz.zeroValue4,
  t5 := Tryz.underlying5,
  a5 := Tryz.isAgg5,
  z5 := Tryz.sizeOf5,
  v5 := Tryz.zeroValue5,
  t9 := Tryz.underlying9,
  a9 := Tryz.isAgg9,
  z9 := Tryz.sizeOf9,
  v9 := Tryz.zeroValue9,
  t22 := Tryz.underlying48,
  a22 := Tryz.isAgg48,
  z22 := Tryz.sizeOf48,
  v22 := Tryz.zeroValue48,
  t25 := Tryz.underlying92,
  a25 := Tryz.isAgg92,
  z25 := Tryz.sizeOf92,
  v25 := Tryz.zeroValue92,
  t39 := Tryz.underlying142,
  a39 := Tryz.isAgg142,
  z39 := Tryz.sizeOf142,
  v39 := Tryz.zeroValue142,
  t45 := Tryz.underlying183,
  a45 := Tryz.isAgg183,
  z45 := Tryz.sizeOf183,
  v45 := Tryz.zeroValue183,
  t46 := Tryz.underlying184,
  a46 := Tryz.isAgg184,
  z46 := Tryz.sizeOf184,
  v46 := Tryz.zeroValue184,
  t50 := Tryz.underlying188,
  a50 := Tryz.isAgg188,
  z50 := Tryz.sizeOf188,
  v50 := Tryz.zeroValue188,
  t53 := Tryz.underlying191,
  a53 := Tryz.isAgg191,
  z53 := Tryz.sizeOf191,
  v53 := Tryz.zeroValue191,
  t55 := Tryz.underlying34,
  a55 := Tryz.isAgg34,
  z55 := Tryz.sizeOf34,
  v55 := Tryz.zeroValue34,
  t66 := Tryz.underlying225,
  a66 := Tryz.isAgg225,
  z66 := Tryz.sizeOf225,
  v66 := Tryz.zeroValue225,
  t70 := Tryz.underlying228,
  a70 := Tryz.isAgg228,
  z70 := Tryz.sizeOf228,
  v70 := Tryz.zeroValue228,
  t76 := Tryz.underlying247,
  a76 := Tryz.isAgg247,
  z76 := Tryz.sizeOf247,
  v76 := Tryz.zeroValue247,
  t77 := Tryz.underlying43,
  a77 := Tryz.isAgg43,
  z77 := Tryz.sizeOf43,
  v77 := Tryz.zeroValue43 }
theorem cmpk_ok (x y : DKey) (W : World) : Calls Tryz.prog 46 #[.agg x.cells.toArray, .agg y.cells.toArray] W fun e w' => e = .returned (.int .i64 (cmpI x.id y.id)) ∧ ∃ q os', w' = Sort.grow (W.drewN q) os' := by
  have h : callK Tryz.prog 46 [.agg x.cells.toArray, .agg y.cells.toArray] (fun v w' => v = .int .i64 (cmpI x.id y.id) ∧ ∃ os', w' = Sort.grow W os') W := by
    apply S46_ok
    unfold S46
    refine ⟨x.cells, rfl, ⟨y.cells, rfl, newK_i ?_⟩⟩
    rw [faK_i]
    have c1 : ∀ j u, x.cells[j]? = some u → ((W.alloc (.cells x.cells.toArray 84)).alloc (.cells y.cells.toArray 84)).cell? ((⟨W.heap.size, 0, none⟩ : Addr).add j) = some u := fun j u hu => (Mod.alloc (fun _ => False) _ _).cell (cell_box hu) fun h => h
    have c2 : ∀ j u, y.cells[j]? = some u → ((W.alloc (.cells x.cells.toArray 84)).alloc (.cells y.cells.toArray 84)).cell? ((⟨(W.alloc (.cells x.cells.toArray 84)).heap.size, 0, none⟩ : Addr).add j) = some u := fun j u hu => cell_box hu
    refine ld1K_i (c1 0 _ rfl) ?_
    rw [faK_i]
    refine ld1K_i (c2 0 _ rfl) ?_
    refine callK_mono cmp_ok ?_
    rintro _ _ ⟨rfl, rfl⟩
    exact ⟨rfl, _, by rw [Sort.alloc_eq_grow, Sort.alloc_eq_grow, Sort.grow_grow]⟩
  refine Calls.mono h ?_
  rintro e w' ⟨v, rfl, rfl, os', rfl⟩
  exact ⟨rfl, 0, os', rfl⟩
theorem swo_id : Sort.SWO (Go.Proofs.ltOf fun x y : DKey => cmpI x.id y.id) := by
  have e : ∀ x y : DKey, Go.Proofs.ltOf (fun x y : DKey => cmpI x.id y.id) x y = decide (x.id < y.id) := fun x y => by
    unfold Go.Proofs.ltOf cmpI
    by_cases h1 : x.id < y.id
    · simp [h1]
    · by_cases h2 : y.id < x.id <;> simp [h1, h2]
  exact ⟨fun x => by rw [e]; simp, fun x y z h1 h2 => by rw [e] at *; simp at *; omega, fun x y z h1 h2 => by rw [e] at *; simp at *; omega⟩
instance : Inhabited DKey := ⟨DKey.zero⟩
/-- slices.SortFunc at keys, by their ids -/
theorem sortk_ok {B : Nat} {v : Value} {keys : List DKey} {w : World} (h : OwnR B 84 6 RKey w v keys) (hl : keys.length ≤ 1099511627776) :
    callK Tryz.prog 45 [v, .func (.func 46) #[] #[]] (fun _ w' => ∃ ks : List DKey, ks.Perm keys ∧ ks.Pairwise (fun x y => x.id ≤ y.id) ∧ OwnR B 84 6 RKey w' v ks ∧ Mod (fun b => v.ownBlock = some b) w w') w := by
  obtain ⟨a, c, rfl, _, _, hp, hn⟩ := h.shape
  cases a with
  | none =>
    have e := hn rfl
    subst e
    refine Calls.mono (Go.Proofs.AnyF.slices_SortFunc_none sortKey none c _ w) ?_
    rintro _ _ ⟨rfl, rfl⟩
    exact ⟨_, rfl, [], List.Perm.refl _, List.Pairwise.nil, h, Mod.refl _ _⟩
  | some p =>
    obtain ⟨g, rfl, _, hlt, hob⟩ := hp p rfl
    obtain ⟨_, _, hH, hS⟩ := OwnR.sorted (enc := DKey.cells) (fun _ => rfl) (fun x => RKey.one (w := w) (x := x) rfl) (fun _ _ _ => Iff.rfl) h
    have hc := Go.Proofs.AnyQ.slices_SortFunc sortKey 6 Tryz.isAgg84 Tryz.sizeOf84 DKey.cells (fun _ => rfl) (fun x => RKey.one (w := w) (x := x) rfl) (fun x y => cmpI x.id y.id) swo_id 46 #[] g 0 c keys.toArray w (good _ rfl) (fun m os dk _ x y => cmpk_ok x y _) hH hlt (by simp; omega)
    rw [List.size_toArray] at hc
    refine Calls.mono hc ?_
    rintro _ _ ⟨rfl, d', m, os, hperm, hsort, rfl⟩
    obtain ⟨h1, h2, h3⟩ := hperm
    have hd : d'.size = keys.length := by rw [h1, List.size_toArray]
    obtain ⟨o1, o2⟩ := hS m d' os hd
    refine ⟨_, rfl, d'.toList, ?_, ?_, o1, o2.mono fun b _ e => by rw [e]; rfl⟩
    · have e1 : d'.extract 0 keys.length = d' := by rw [← hd]; exact Array.extract_size
      have e2 : keys.toArray.extract 0 keys.length = keys.toArray := by
        have := Array.extract_size (xs := keys.toArray); rwa [List.size_toArray] at this
      rw [e1, e2] at h3
      simpa using h3
    · rw [List.pairwise_iff_getElem]
      intro i j hi hj hij
      simp only [Array.length_toList] at hi hj
      have := hsort i j (Nat.zero_le _) hij (by omega)
      rw [getElem!_pos d' i hi, getElem!_pos d' j hj] at this
      have e : Go.Proofs.ltOf (fun x y : DKey => cmpI x.id y.id) d'[j] d'[i] = decide (d'[j].id < d'[i].id) := by
        unfold Go.Proofs.ltOf cmpI
        by_cases h1 : d'[j].id < d'[i].id
        · simp [h1]
        · by_cases h2 : d'[i].id < d'[j].id <;> simp [h1, h2]
      rw [e] at this
      simp only [decide_eq_false_iff_not] at this
      simp only [Array.getElem_toList]
      omega
end Go.Proofs.YtlbaopamhkmepaaGreatDoor

namespace Go.Proofs.YtlbaopamhkmepaaGreatDoor
open Go Go.K

def Dist (keys : List DKey) : Prop := keys.Pairwise fun x y => x.id ≠ y.id
theorem mayk_iff {keys : List DKey} : MayKeys keys ↔ keys.length ≤ 64 ∧ (∀ k ∈ keys, KeyOK k) ∧ Dist keys := by
  unfold MayKeys MayN Dist
  rw [List.pairwise_iff_getElem]
  constructor
  · rintro ⟨h1, h2⟩
    refine ⟨h1, fun k hk => ?_, fun i j hi hj hij => ?_⟩
    · obtain ⟨i, hi, rfl⟩ := List.getElem_of_mem hk
      exact (h2 i hi _ (List.getElem?_eq_getElem hi)).1
    · exact (h2 j hj _ (List.getElem?_eq_getElem hj)).2 i hij _ (List.getElem?_eq_getElem hi)
  · rintro ⟨h1, h2, h3⟩
    refine ⟨h1, fun i hi k hk => ?_⟩
    rw [List.getElem?_eq_getElem hi] at hk; cases hk
    refine ⟨h2 _ (List.getElem_mem hi), fun j hj k' hk' => ?_⟩
    rw [List.getElem?_eq_getElem (by omega)] at hk'; cases hk'
    exact h3 j i (by omega) hi hj
theorem find_map {L : List DKey} {id : Int} : (L.map fun k => (k.id, (Value.agg k.cells.toArray))).find? (fun p => decide (p.1 = id)) = (findK L id).map fun k => (k.id, .agg k.cells.toArray) := by
  unfold findK
  rw [List.find?_map]
  rfl
theorem findK_iff {L : List DKey} (hd : Dist L) {id : Int} {k : DKey} : findK L id = some k ↔ k ∈ L ∧ k.id = id := by
  induction L with
  | nil => simp [findK]
  | cons x L ih =>
    unfold Dist at hd
    rw [List.pairwise_cons] at hd
    have ih' := ih hd.2
    unfold findK at ih' ⊢
    by_cases hx : x.id = id
    · rw [List.find?_cons_of_pos (by simpa using hx)]
      simp only [Option.some.injEq, List.mem_cons]
      constructor
      · rintro rfl; exact ⟨.inl rfl, hx⟩
      · rintro ⟨rfl | hk, h2⟩
        · rfl
        · exact (hd.1 k hk (by rw [hx, h2])).elim
    · rw [List.find?_cons_of_neg (by simpa using hx), ih']
      constructor
      · rintro ⟨h1, h2⟩; exact ⟨List.mem_cons_of_mem _ h1, h2⟩
      · rintro ⟨h1, h2⟩
        rcases List.mem_cons.1 h1 with rfl | h1
        · exact (hx h2).elim
        · exact ⟨h1, h2⟩
theorem Dist.perm {L L' : List DKey} (hp : L.Perm L') (h : Dist L) : Dist L' := (hp.pairwise_iff (R := fun x y : DKey => x.id ≠ y.id) fun h => h.symm).1 h
theorem findK_perm {L L' : List DKey} (hp : L.Perm L') (hd : Dist L) (id : Int) : findK L id = findK L' id := by
  refine Option.ext fun k => ?_
  rw [findK_iff hd, findK_iff (hd.perm hp), hp.mem_iff]
theorem strict_of {L : List DKey} (hd : Dist L) (hs : L.Pairwise fun x y => x.id ≤ y.id) : L.Pairwise fun x y => x.id < y.id := by
  refine (List.Pairwise.and hd hs).imp fun {x y} h => ?_
  obtain ⟨h1, h2⟩ := h
  omega

structure NewI (w0 W : World) (b m : Nat) (kv : Value) (keys : List DKey) (i : Nat) : Prop where
  c0 : W.cell? ⟨b, 0, none⟩ = some kv
  c1 : W.cell? ⟨b, 1, none⟩ = some (.map (some m))
  row : OwnR w0.heap.size 84 6 RKey W kv keys
  mp : MapI W m ((keys.take i).map fun k => (k.id, .agg k.cells.toArray))
  hb : w0.heap.size ≤ b
  hm : w0.heap.size ≤ m
  ne : m ≠ b
  own : ∀ g, kv.ownBlock = some g → g ≠ m ∧ g ≠ b
  g : Grow w0 W
theorem NewI.grow {w0 W W' : World} {b m i : Nat} {kv : Value} {keys : List DKey} (h : NewI w0 W b m kv keys i) (hg : Grow W W') : NewI w0 W' b m kv keys i :=
  ⟨hg.cell h.c0 fun h => h, hg.cell h.c1 fun h => h, OwnR.mod h.row hg (fun _ _ h => h) fun _ _ _ h => h, h.mp.mod hg fun h => h, h.hb, h.hm, h.ne, h.own, h.g.trans hg⟩

open Classical in
theorem new_key_ok {S : Nat → Prop} {kv : Value} {keys : List DKey} {w : World} (h : RKeys S w kv keys) :
    callK Tryz.prog 14 [kv] (fun v' w' => Grow w w' ∧ ((MayKeys keys ∧ ∃ (sv : Value) (ks : List DKey), v' = .tuple #[sv, .int .i64 0] ∧ ks.Perm keys ∧ ks.Pairwise (fun x y => x.id < y.id) ∧ SchR (fun b => w.heap.size ≤ b) w' sv ks) ∨
      (¬ MayKeys keys ∧ v' = .tuple #[.pointer none, .int .i64 3]))) w := by
  apply S14_ok
  unfold S14
  obtain ⟨a, c, rfl, hmx⟩ := h.shape
  simp only [maxLen] at hmx
  rw [lenK_i, gtK_i]
  refine condK_p (fun h6 => ⟨Mod.refl _ _, .inr ⟨by rintro ⟨h, _⟩; omega, rfl⟩⟩) fun h6 => ?_
  refine callK_mono (clone_key h (by omega)) ?_
  rintro v1 w1 ⟨o1, g1⟩
  refine runK_i (v := .map (some w1.heap.size)) (w' := w1.alloc (.map #[] 0)) rfl ?_
  have g2 : Grow w1 (w1.alloc (.map #[] 0)) := Mod.alloc _ _ _
  have hmp : MapI (w1.alloc (.map #[] 0)) w1.heap.size [] := MapI.make w1
  have hz2 : (w1.alloc (.map #[] 0)).heap.size = w1.heap.size + 1 := by simp
  generalize w1.alloc (.map #[] 0) = w2 at g2 hmp hz2 ⊢
  obtain ⟨ra, rc, rfl, _, _, _, _⟩ := o1.shape
  refine ⟨#[.slice ra keys.length rc, .map (some w1.heap.size)], by kernel_rfl, ?_⟩
  refine boxn_i (vs := [.slice ra keys.length rc, .map (some w1.heap.size)]) fun b w3 hb hz3 g3 hc3 _ => ?_
  have z1 := g1.size
  have z2 := g2.size
  have hown : ∀ g, (Value.slice ra keys.length rc).ownBlock = some g → g < w1.heap.size := fun g hg => (OwnR.ownB o1 g hg).2
  have I0 : NewI w w3 b w1.heap.size (.slice ra keys.length rc) keys 0 :=
    ⟨by have := hc3 0 _ rfl; rwa [addr0] at this, by have := hc3 1 _ rfl; rwa [addr0] at this, OwnR.mod o1 (g2.trans g3) (fun _ _ h => h) fun _ _ _ h => h, by simpa using hmp.mod g3 fun h => h, by omega, by omega, by omega, fun g hg => by have := hown g hg; omega, (g1.trans g2).trans g3⟩
  generalize Value.slice ra keys.length rc = rv at I0 hown ⊢
  clear hc3 hmp o1
  generalize w1.heap.size = m at *
  rw [lenK_i]
  refine LoopK_i (fun vs W => ∃ i : Nat, i ≤ keys.length ∧ vs = [.int .i64 i] ∧ NewI w W b m rv keys i ∧ MayN keys i) (fun vs _ => keys.length - iOf vs 0) ⟨0, Nat.zero_le _, rfl, I0, fun i hi => by omega⟩ ?_
  rintro vs W ⟨i, hi, rfl, I, hmay⟩ _
  rw [nth_z, List.headD_cons, ltK_i]
  refine condK_p (fun hlt => ?_) fun hge => ?_
  · have hlt' : i < keys.length := by omega
    have hki : keys[i]? = some keys[i] := List.getElem?_eq_getElem hlt'
    obtain ⟨p, r, rfl, _, hr, hc, rfl⟩ := (h.grow I.g (by decide) fun _ _ h => h).get hlt'
    refine ixK_n hlt' (ldnK_i hr (fun j u hu => by rw [Addr.add_add]; exact hc j u hu) ?_)
    refine newst_n (vs := keys[i].cells) rfl rfl (RKey.one (w := w) (x := keys[i]) rfl) fun b6 W1 hb6 hz6 g6 hc6 _ => ?_
    have I1 := I.grow g6
    have bad : ∀ W', Grow W1 W' → ¬ MayKeys keys → (fun v' w' => Grow w w' ∧ ((MayKeys keys ∧ ∃ (sv : Value) (ks : List DKey), v' = .tuple #[sv, .int .i64 0] ∧ ks.Perm keys ∧ ks.Pairwise (fun x y => x.id < y.id) ∧ SchR (fun b => w.heap.size ≤ b) w' sv ks) ∨
      (¬ MayKeys keys ∧ v' = .tuple #[.pointer none, .int .i64 3]))) (Value.tuple #[.pointer none, .int .i64 3]) W' := fun W' g hn => ⟨I1.g.trans g, .inr ⟨hn, rfl⟩⟩
    refine JoinK_i (fun _ W2 => Grow W1 W2 ∧ findK (keys.take i) keys[i].id = none ∧ KeyOK keys[i]) ?_ ?_
    · rintro _ W2 ⟨gW2, hno, hok⟩ _
      have I2 := I1.grow gW2
      refine drawC_i (fun k y => k = 7 ∧ y = m) ?_
      have gd : Grow W2 W2.drew := Mod.drew _ _
      have I3 := I2.grow gd
      have c6 : ∀ j u, keys[i].cells[j]? = some u → W2.drew.cell? ((⟨b6, 0, none⟩ : Addr).add j) = some u := fun j u hu => (gW2.trans gd).cell (hc6 j u hu) fun h => h
      refine nilckK_s ?_
      rw [faK_i]
      refine sld1_i ⟨by rw [addr0]; exact I3.c1, fun j hj e => by obtain ⟨rfl, _⟩ := e; exact absurd hj (by decide)⟩ ?_
      rw [faK_i]
      refine sld1_i ⟨c6 0 _ rfl, fun j hj e => by obtain ⟨rfl, _⟩ := e; exact absurd hj (by decide)⟩ ?_
      refine sldn_i (vs := keys[i].cells) rfl (fun j u hu => ⟨c6 j u hu, fun j hj e => by obtain ⟨rfl, _⟩ := e; exact absurd hj (by decide)⟩) ?_
      obtain ⟨W4, hrun, hmp4, m4⟩ := map_update Tryz.underlying85 Tryz.underlying3 I3.mp keys[i].id (.agg keys[i].cells.toArray) (by rw [find_map, hno]; rfl)
      refine runK_i (v := undef) (w' := W4) (by simp only [Sem.run_bind, hrun, Result.andThen_ok, Sem.run_pure]) ⟨m4.mono fun y _ e => ⟨rfl, e⟩, ?_⟩
      rw [addK_i, loop_step (by omega)]
      refine ⟨⟨i + 1, hlt', rfl, ⟨m4.cell I3.c0 (fun e => I3.ne e.symm), m4.cell I3.c1 (fun e => I3.ne e.symm), OwnR.mod I3.row m4 (fun g hg e => (I3.own g hg).1 e) fun _ _ _ h => h, ?_, I3.hb, I3.hm, I3.ne, I3.own, I3.g.next m4 fun x hx e => by have := I3.hm; omega⟩, fun q hq k hk => ?_⟩, by rw [iOf0, iOf0]; omega⟩
      · rw [List.take_add_one, hki, List.map_append]; exact hmp4
      · by_cases e : q = i
        · subst e
          rw [hki] at hk; cases hk
          refine ⟨hok, fun j hj k' hk' e => ?_⟩
          unfold findK at hno
          rw [List.find?_eq_none] at hno
          exact hno k' (List.mem_of_getElem? (by rw [List.getElem?_take, if_pos hj]; exact hk')) (by simpa using e)
        · exact hmay q (by omega) k hk
    · refine JoinK_i (fun vs W2 => Grow W1 W2 ∧ vs = [.bool (findK (keys.take i) keys[i].id).isSome]) ?_ ?_
      · rintro _ W2 ⟨gW2, rfl⟩ _
        rw [nth_z, List.headD_cons]
        cases hf : findK (keys.take i) keys[i].id with
        | some k' =>
          refine condK_t (bad _ gW2 fun hM => ?_)
          have h1 := List.find?_some hf
          have h2 := List.mem_of_find?_eq_some hf
          obtain ⟨j, hj, e⟩ := List.getElem_of_mem h2
          rw [List.length_take] at hj
          rw [List.getElem_take] at e
          exact (hM.2 i hlt' _ hki).2 j (by omega) k' (by rw [List.getElem?_eq_getElem (by omega), e]) (by simpa using h1)
        | none =>
          refine condK_f (ldnK_i (vs := keys[i].cells) rfl (fun j u hu => gW2.cell (hc6 j u hu) fun h => h) ?_)
          refine callK_mono may1_ok ?_
          rintro _ W3 ⟨rfl, g3'⟩
          rw [notK_i]
          refine condK_neg (fun hok => ⟨gW2.trans g3', rfl, hok⟩) fun hbad => bad _ (gW2.trans g3') fun hM => hbad (hM.2 i hlt' _ hki).1
      · refine drawC_i (fun k y => k = 11 ∧ W1.heap.size ≤ y) ?_
        have gd : Grow W1 W1.drew := Mod.drew _ _
        have Id := I1.grow gd
        refine nilckK_s ?_
        rw [faK_i]
        refine sld1_i ⟨by rw [addr0]; exact Id.c1, fun j hj e => by obtain ⟨rfl, _⟩ := e; exact absurd hj (by decide)⟩ ?_
        rw [faK_i]
        refine sld1_i ⟨gd.cell (hc6 0 _ rfl) fun h => h, fun j hj e => by obtain ⟨rfl, _⟩ := e; exact absurd hj (by decide)⟩ ?_
        have look : ∀ W', Grow W1.drew W' → (Instr.lookup 85 (.map (some m)) (.int .i64 keys[i].id) true).run Tryz.prog W' = .ok (.tuple #[.agg (((findK (keys.take i) keys[i].id)).getD DKey.zero).cells.toArray, .bool (findK (keys.take i) keys[i].id).isSome]) W' := fun W' g' => by
          have := map_lookup Tryz.underlying85 Tryz.underlying3 (zero_key W') (Id.mp.mod g' fun h => h) keys[i].id
          rw [this, find_map]
          cases findK (keys.take i) keys[i].id <;> rfl
        generalize (findK (keys.take i) keys[i].id).getD DKey.zero = kz at look
        have one := RKey.one (w := w) (x := kz) rfl
        refine ⟨?_, ?_⟩
        · refine runK_i (look _ (Mod.refl _ _)) ⟨Mod.refl _ _, ?_⟩
          refine extK_i (vs := [_, _]) (by rfl) (extK_i (vs := [_, _]) (by rfl) ?_)
          refine newz_i fun b7 W5 hb7 hz7 g7 _ hl7 => ⟨g7.mono fun _ _ h => h.elim, ?_⟩
          refine stn_over rfl one hl7 fun W6 m6 _ _ => ⟨m6.mono fun y _ e => ⟨rfl, by have := gd.size; omega⟩, ?_, rfl⟩
          exact (gd.trans g7).next m6 fun x hx e => by have := gd.size; omega
        · refine newz_i fun b7 W5 hb7 hz7 g7 _ hl7 => ⟨g7.mono fun _ _ h => h.elim, ?_⟩
          refine runK_i (look _ g7) ⟨Mod.refl _ _, ?_⟩
          refine extK_i (vs := [_, _]) (by rfl) (extK_i (vs := [_, _]) (by rfl) ?_)
          refine stn_over rfl one hl7 fun W6 m6 _ _ => ⟨m6.mono fun y _ e => ⟨rfl, by have := gd.size; omega⟩, ?_, rfl⟩
          exact (gd.trans g7).next m6 fun x hx e => by have := gd.size; omega
  · have : i = keys.length := by omega
    subst this
    refine nilckK_s ?_
    rw [faK_i]
    refine ld1K_i (by rw [addr0]; exact I.c0) ?_
    refine callK_mono (sortk_ok I.row (by omega)) ?_
    rintro _ W2 ⟨ks, hp, hs, o2, m2⟩
    have hM : MayKeys keys := ⟨by omega, hmay⟩
    obtain ⟨_, _, hd⟩ := mayk_iff.1 hM
    have hd' := hd.perm hp.symm
    refine ⟨I.g.next m2 fun x hx e => by have := (OwnR.ownB I.row x e).1; omega, .inl ⟨hM, _, ks, rfl, hp, strict_of hd' hs, b, m, rv, _, rfl, I.hb, I.hm, m2.cell I.c0 fun e => (I.own _ e).2 rfl, m2.cell I.c1 fun e => (I.own _ e).2 rfl, (OwnR.sl o2).sub (fun _ _ h => h.1) (by decide) fun _ _ h => h, I.mp.mod m2 fun e => (I.own _ e).1 rfl, fun id => ?_⟩⟩
    rw [List.take_length, find_map, findK_perm hp hd']
    cases findK keys id <;> rfl
end Go.Proofs.YtlbaopamhkmepaaGreatDoor
