/- The program's data as Lean data: runes, changes, ops. What the model's comparing says of them. No conditions. By a program of ours: of each function below the predicate that its code comes to, and that it is sound. No conditions. Copying and comparing rows, for any kind of element; at runes, patches, ops. No conditions but the sizes. Contracts: ops one by one: form, length, what they take and make, how much they have. No conditions. Contracts: the document's runes of bytes, and whether a value may be. No conditions but the size of a text. Pushing one element; contracts: the document's reading of runes. Conditions: the sizes. Contracts: the document's values, keys, sets and patches that may be. Conditions: the size of a text. Contracts: the document's sets and patches that may be; keys that may be a schema's. Conditions: the sizes of texts. Contracts: keys that may be a schema's; how much a delta has; deltas that may be; what is tame. Conditions: the sizes. The plain law of normal forms: the program's maker and the document's form agree, and what holds of a form. No program in sight. Contracts: deltas that may be; what is tame; whether deltas are alike. Conditions: the sizes. Contracts: a delta in memory of its own. Conditions: the sizes. Contracts: slices.Grow of nothing, slices.Concat of two rows of ops. Conditions: the sizes. The maker of normal forms in memory; contracts: New, gap, Delete. Conditions: the sizes. Contract: the maker is told an insert. Conditions: the sizes; what is told lies apart from the maker. -/
import Derived.Test.YtlbaopamhkmepaaGreatDoorZHistoryBrackets1
import Derived.Laws.IdiomStrings
import Derived.Lib.AppendZeros
namespace Go.Proofs.YtlbaopamhkmepaaGreatDoor
open Go Go.K

structure Chg where
  key : Int
  gone : Bool
  val : AVal
  deriving DecidableEq
def Chg.cells (a : Chg) : List Value := .int .i64 a.key :: .bool a.gone :: a.val.cells
abbrev RChg : World → List Value → Chg → Prop := fun _ r x => r = x.cells
abbrev RRune : World → List Value → Int → Prop := fun _ r x => r = [.int .i32 x]
/-- runes, patches in memory -/
abbrev RRun (S : Nat → Prop) (w : World) (v : Value) (l : List Int) : Prop := SlR S 1 RRune w v l
abbrev RPat (S : Nat → Prop) (w : World) (v : Value) (l : List Chg) : Prop := SlR S 6 RChg w v l
theorem RRune.one {w : World} {r : List Value} {x : Int} (h : RRune w r x) : ∀ u ∈ r, u.oneCell' = true := by
  subst h; intro u hu; simp at hu; subst hu; rfl
theorem RChg.one {w : World} {r : List Value} {x : Chg} (h : RChg w r x) : ∀ u ∈ r, u.oneCell' = true := by
  intro u hu
  subst h
  simp only [Chg.cells, AVal.cells, List.mem_cons, List.not_mem_nil, or_false] at hu
  rcases hu with rfl | rfl | rfl | rfl | rfl | rfl <;> rfl
theorem elem_rune : ElemOK Tryz.prog 35 21 1 4 := ⟨Tryz.t21, .int .i32 0, by kernel_rfl, by kernel_rfl, by kernel_rfl, by kernel_rfl, by kernel_rfl, by rfl, by decide⟩
theorem elem_chg : ElemOK Tryz.prog 37 111 6 56 := ⟨Tryz.t111, .agg #[.int .i64 0, .bool false, .int .u8 0, .int .i64 0, .int .u64 0, .string ⟨#[]⟩], by kernel_rfl, by kernel_rfl, by kernel_rfl, by kernel_rfl, by kernel_rfl, by rfl, by decide⟩

theorem eqIn_val (n : Nat) (x y : AVal) (w : World) :
    (Op.equalIn (n + 2) 107 (.agg x.cells.toArray) (.agg y.cells.toArray)).run Tryz.prog w = .ok (decide (x = y)) w := by
  have hV : Tryz.prog.underlying 107 = some (.struct (Tryz.prog.fieldsOf 107)) := by kernel_rfl
  have u2 := Tryz.underlying5
  have u3 := Tryz.underlying2
  have u4 := Tryz.underlying34
  have u5 := Tryz.underlying9
  have a3 := Tryz.isAgg5
  have a4 := Tryz.isAgg2
  have a5 := Tryz.isAgg34
  have a6 := Tryz.isAgg9
  rw [run_equalIn_agg w (n + 1) _ _ _ hV Tryz.stoodInHeld107]
  simp only [Program.fieldsOf, Tryz.underlying107, AVal.cells]
  have e1 : ∀ a b : Int, (Op.equalIn (n + 1) 5 (.int .u8 a) (.int .u8 b)).run Tryz.prog w = .ok (a == b) w := fun a b => run_equalIn_int w n _ _ _ a b u2
  have e2 : ∀ a b : Int, (Op.equalIn (n + 1) 2 (.int .i64 a) (.int .i64 b)).run Tryz.prog w = .ok (a == b) w := fun a b => run_equalIn_int w n _ _ _ a b u3
  have e3 : ∀ a b : Int, (Op.equalIn (n + 1) 34 (.int .u64 a) (.int .u64 b)).run Tryz.prog w = .ok (a == b) w := fun a b => run_equalIn_int w n _ _ _ a b u4
  have e4 : ∀ a b : ByteArray, (Op.equalIn (n + 1) 9 (.string a) (.string b)).run Tryz.prog w = .ok (a.toList == b.toList) w := fun a b => run_equalIn_string w n _ a b u5
  have q : decide (x = y) = (x.kind == y.kind && (x.n == y.n && (x.f == y.f && decide (x.s = y.s)))) := by
    cases x; cases y
    rw [Bool.eq_iff_iff]
    simp [AVal.mk.injEq]
  rw [q]
  simp [Op.eqFields, part, a3, a4, a5, a6, e1, e2, e3, e4, toList_beq]
  by_cases h1 : x.kind = y.kind <;> by_cases h2 : x.n = y.n <;> by_cases h3 : x.f = y.f <;> by_cases h4 : x.s = y.s <;> simp [h1, h2, h3, h4]
theorem eqIn_chg (a b : Chg) (w : World) :
    (Op.equalIn 10000 111 (.agg a.cells.toArray) (.agg b.cells.toArray)).run Tryz.prog w = .ok (decide (a = b)) w := by
  have hS : Tryz.prog.underlying 111 = some (.struct (Tryz.prog.fieldsOf 111)) := by kernel_rfl
  rw [show (10000 : Nat) = 9999 + 1 from rfl, run_equalIn_agg w 9999 _ _ _ hS Tryz.stoodInHeld111]
  simp only [Program.fieldsOf, Tryz.underlying111, Chg.cells, AVal.cells]
  have a1 := Tryz.isAgg3
  have a2 := Tryz.isAgg107
  have a3 := Tryz.isAgg4
  have z2 : ∀ w, (sizeOf 107).run Tryz.prog w = .ok 4 w := fun w => by simp only [sizeOf, Sem.run_bind, Tryz.typeInfo107, Result.andThen_ok, Sem.run_pure]; rfl
  have e1 : ∀ a b : Int, (Op.equalIn 9999 3 (.int .i64 a) (.int .i64 b)).run Tryz.prog w = .ok (a == b) w := fun a b => run_equalIn_int w 9998 _ _ _ a b Tryz.underlying3
  have e2 : ∀ a b : Bool, (Op.equalIn 9999 4 (.bool a) (.bool b)).run Tryz.prog w = .ok (a == b) w := fun a b => run_equalIn_bool w 9998 _ a b Tryz.underlying4
  have e3 : (Op.equalIn 9999 107 (.agg #[.int .u8 a.val.kind, .int .i64 a.val.n, .int .u64 a.val.f, .string a.val.s]) (.agg #[.int .u8 b.val.kind, .int .i64 b.val.n, .int .u64 b.val.f, .string b.val.s])).run Tryz.prog w = .ok (decide (a.val = b.val)) w := eqIn_val 9997 a.val b.val w
  have x1 : ∀ k l q r s t : Value, (#[k, l, q, r, s, t] : Array Value).extract 2 6 = #[q, r, s, t] := fun _ _ _ _ _ _ => rfl
  have q : decide (a = b) = (a.key == b.key && (a.gone == b.gone && decide (a.val = b.val))) := by
    cases a; cases b
    rw [Bool.eq_iff_iff]
    simp [Chg.mk.injEq]
  rw [q]
  simp [Op.eqFields, part, a1, a2, a3, z2, e1, e2, e3, x1]
  by_cases h1 : a.key = b.key <;> by_cases h2 : a.gone = b.gone <;> by_cases h3 : a.val = b.val <;> simp [h1, h2, h3]
theorem run_ne_chg (xo yo : Operand) (a b : Chg) (w : World) :
    (binS .neq 111 xo yo (.agg a.cells.toArray) (.agg b.cells.toArray)).run Tryz.prog w = .ok (.bool (!decide (a = b))) w := by
  simp only [binS, Sem.run_bind, run_eqGuard_agg w .neq _ xo yo _ _ Tryz.eqGuardType111, Result.andThen_ok]
  rw [run_neq_struct, eqIn_chg]; rfl
theorem run_eq_val (xo yo : Operand) (a b : AVal) (w : World) :
    (binS .eql 107 xo yo (.agg a.cells.toArray) (.agg b.cells.toArray)).run Tryz.prog w = .ok (.bool (decide (a = b))) w := by
  simp only [binS, Sem.run_bind, run_eqGuard_agg w .eql _ xo yo _ _ Tryz.eqGuardType107, Result.andThen_ok]
  rw [run_eql_struct, eqIn_val 9998]; rfl
theorem run_ne_val (xo yo : Operand) (a b : AVal) (w : World) :
    (binS .neq 107 xo yo (.agg a.cells.toArray) (.agg b.cells.toArray)).run Tryz.prog w = .ok (.bool (!decide (a = b))) w := by
  simp only [binS, Sem.run_bind, run_eqGuard_agg w .neq _ xo yo _ _ Tryz.eqGuardType107, Result.andThen_ok]
  rw [run_neq_struct, eqIn_val 9998]; rfl

/-! ### ops -/
structure Dop where
  kind : Int
  n : Int
  runes : List Int
  set : List Attr
  patch : List Chg
  deriving DecidableEq
/-- an op's five cells, its lists in blocks of D -/
def RDop (D : Nat → Prop) (w : World) (r : List Value) (o : Dop) : Prop := ∃ rv sv pv, r = [.int .u8 o.kind, .int .i64 o.n, rv, sv, pv] ∧ RRun D w rv o.runes ∧ RSet D w sv o.set ∧ RPat D w pv o.patch
theorem RDop.one {D : Nat → Prop} {w : World} {r : List Value} {o : Dop} (h : RDop D w r o) : ∀ u ∈ r, u.oneCell' = true := by
  obtain ⟨rv, sv, pv, rfl, h1, h2, h3⟩ := h
  obtain ⟨a1, c1, rfl, _⟩ := h1.shape
  obtain ⟨a2, c2, rfl, _⟩ := h2.shape
  obtain ⟨a3, c3, rfl, _⟩ := h3.shape
  intro u hu
  simp only [List.mem_cons, List.not_mem_nil, or_false] at hu
  rcases hu with rfl | rfl | rfl | rfl | rfl <;> rfl
theorem RDop.mod {D D' M : Nat → Prop} {w w' : World} {r : List Value} {o : Dop} (h : RDop D w r o) (hm : Mod M w w') (hD : ∀ b, b < w.heap.size → D b → ¬ M b) (hD' : ∀ b, b < w.heap.size → D b → D' b) : RDop D' w' r o := by
  obtain ⟨rv, sv, pv, rfl, h1, h2, h3⟩ := h
  exact ⟨rv, sv, pv, rfl, h1.mono hD' (fun b hb hd => hm.same b hb (hD b hb hd)) (by decide) fun _ _ h => h, h2.mono hD' (fun b hb hd => hm.same b hb (hD b hb hd)) (by decide) fun _ _ h => h, h3.mono hD' (fun b hb hd => hm.same b hb (hD b hb hd)) (by decide) fun _ _ h => h⟩
theorem elem_dop : ElemOK Tryz.prog 31 39 5 88 := ⟨Tryz.t39, .agg #[.int .u8 0, .int .i64 0, .slice none 0 0, .slice none 0 0, .slice none 0 0], by kernel_rfl, by kernel_rfl, by kernel_rfl, by kernel_rfl, by kernel_rfl, by rfl, by decide⟩
/-- ops in memory: their row in S, what they hold in D -/
abbrev RDops (S D : Nat → Prop) (w : World) (v : Value) (l : List Dop) : Prop := SlR S 5 (RDop D) w v l
theorem RDops.grow {S D : Nat → Prop} {w w' : World} {v : Value} {l : List Dop} (h : RDops S D w v l) (hg : Grow w w') : RDops S D w' v l :=
  SlR.grow h hg (by decide) fun _ _ hx => hx.mod hg (fun _ _ _ h => h) fun _ _ h => h
theorem RDops.mod {S D M : Nat → Prop} {w w' : World} {v : Value} {l : List Dop} (h : RDops S D w v l) (hm : Mod M w w') (hS : ∀ b, b < w.heap.size → S b → ¬ M b) (hD : ∀ b, b < w.heap.size → D b → ¬ M b) : RDops S D w' v l :=
  SlR.mono h (fun _ _ h => h) (fun b hb hs => hm.same b hb (hS b hb hs)) (by decide) fun _ _ hx => hx.mod hm hD fun _ _ h => h
/-- an op's lists in rows of their own, which lie in D -/
def ODop (D : Nat → Prop) (w : World) (r : List Value) (o : Dop) : Prop := ∃ rv sv pv, r = [.int .u8 o.kind, .int .i64 o.n, rv, sv, pv] ∧
  (OwnR 0 21 1 RRune w rv o.runes ∧ ∀ g, rv.ownBlock = some g → D g) ∧ (OSet 0 w sv o.set ∧ ∀ g, sv.ownBlock = some g → D g) ∧ (OwnR 0 111 6 RChg w pv o.patch ∧ ∀ g, pv.ownBlock = some g → D g)
theorem own_rd {α : Type} {e k : Nat} {R : World → List Value → α → Prop} {D : Nat → Prop} {w : World} {v : Value} {l : List α} (hk : 0 < k) (h : OwnR 0 e k R w v l ∧ ∀ g, v.ownBlock = some g → D g) : SlR D k R w v l :=
  SlR.sub (OwnR.sl h.1) (fun g _ hg => h.2 g hg.2) hk fun _ _ h => h
theorem own_mod {α : Type} {e k : Nat} {R : World → List Value → α → Prop} {D D' M : Nat → Prop} {w w' : World} {v : Value} {l : List α} (h : OwnR 0 e k R w v l ∧ ∀ g, v.ownBlock = some g → D g) (hm : Mod M w w') (hD : ∀ b, b < w.heap.size → D b → ¬ M b) (hD' : ∀ b, b < w.heap.size → D b → D' b)
    (hR : ∀ r x, R w r x → R w' r x) : OwnR 0 e k R w' v l ∧ ∀ g, v.ownBlock = some g → D' g :=
  ⟨OwnR.mod h.1 hm (fun g hg => hD g (OwnR.ownB h.1 g hg).2 (h.2 g hg)) fun r x _ hx => hR r x hx, fun g hg => hD' g (OwnR.ownB h.1 g hg).2 (h.2 g hg)⟩
theorem ODop.rd {D : Nat → Prop} {w : World} {r : List Value} {o : Dop} (h : ODop D w r o) : RDop D w r o := by
  obtain ⟨rv, sv, pv, rfl, h1, h2, h3⟩ := h
  exact ⟨rv, sv, pv, rfl, own_rd (by decide) h1, own_rd (by decide) h2, own_rd (by decide) h3⟩
theorem ODop.one {D : Nat → Prop} {w : World} {r : List Value} {o : Dop} (h : ODop D w r o) : ∀ u ∈ r, u.oneCell' = true := h.rd.one
theorem ODop.mod {D D' M : Nat → Prop} {w w' : World} {r : List Value} {o : Dop} (h : ODop D w r o) (hm : Mod M w w') (hD : ∀ b, b < w.heap.size → D b → ¬ M b) (hD' : ∀ b, b < w.heap.size → D b → D' b) : ODop D' w' r o := by
  obtain ⟨rv, sv, pv, rfl, h1, h2, h3⟩ := h
  exact ⟨rv, sv, pv, rfl, own_mod h1 hm hD hD' fun _ _ h => h, own_mod h2 hm hD hD' fun _ _ h => h, own_mod h3 hm hD hD' fun _ _ h => h⟩
/-- ops in memory of their own from B on, what they hold too; none of that lies in the row -/
def ODops (B : Nat) (w : World) (v : Value) (l : List Dop) : Prop := OwnR B 39 5 (ODop fun b => B ≤ b ∧ v.ownBlock ≠ some b) w v l
theorem ODops.sl {B : Nat} {w : World} {v : Value} {l : List Dop} (h : ODops B w v l) : RDops (fun b => B ≤ b ∧ v.ownBlock = some b) (fun b => B ≤ b ∧ v.ownBlock ≠ some b) w v l :=
  SlR.sub (OwnR.sl h) (fun _ _ h => h) (by decide) fun _ _ h => h.rd
theorem ODops.grow {B : Nat} {w w' : World} {v : Value} {l : List Dop} {M : Nat → Prop} (h : ODops B w v l) (hm : Mod M w w') (hM : ∀ b, b < w.heap.size → B ≤ b → ¬ M b) : ODops B w' v l :=
  OwnR.mod h hm (fun g hg => hM g (OwnR.ownB h g hg).2 (OwnR.ownB h g hg).1) fun r x _ hx => hx.mod hm (fun b hb hd => hM b hb hd.1) fun _ _ h => h
theorem ODops.reads {B : Nat} {w : World} {v : Value} {l : List Dop} (h : ODops B w v l) : RDops (fun b => B ≤ b ∧ b < w.heap.size) (fun b => B ≤ b ∧ b < w.heap.size) w v l :=
  SlR.sub (ODops.sl h) (fun b hb h => ⟨h.1, hb⟩) (by decide) fun r x hx => hx.mod (Mod.refl (fun _ => False) _) (fun _ _ _ h => h) fun b hb h => ⟨h.1, hb⟩
/-! ### keys -/
structure DKey where
  id : Int
  block : Bool
  kind : Int
  after : Bool
  before : Bool
  group : Int
  deriving DecidableEq
def DKey.cells (k : DKey) : List Value := [.int .i64 k.id, .bool k.block, .int .u8 k.kind, .bool k.after, .bool k.before, .int .i64 k.group]
abbrev RKey : World → List Value → DKey → Prop := fun _ r x => r = x.cells
abbrev RKeys (S : Nat → Prop) (w : World) (v : Value) (l : List DKey) : Prop := SlR S 6 RKey w v l
theorem RKey.one {w : World} {r : List Value} {x : DKey} (h : RKey w r x) : ∀ u ∈ r, u.oneCell' = true := by
  intro u hu
  subst h
  simp only [DKey.cells, List.mem_cons, List.not_mem_nil, or_false] at hu
  rcases hu with rfl | rfl | rfl | rfl | rfl | rfl <;> rfl
/-- how much there is in an attribute, a change, an op -/
def mAttr (a : Attr) : Nat := a.val.s.size + 1
def mChg (a : Chg) : Nat := a.val.s.size + 1
def mSet (l : List Attr) : Nat := (l.map mAttr).sum
def mPat (l : List Chg) : Nat := (l.map mChg).sum
def mDop (o : Dop) : Nat := 1 + o.runes.length + mSet o.set + mPat o.patch
def mDops (l : List Dop) : Nat := (l.map mDop).sum
end Go.Proofs.YtlbaopamhkmepaaGreatDoor

namespace Go.Proofs.YtlbaopamhkmepaaGreatDoor
open Go Go.K
/-- rubric/rubricref15.Same -/
def S22 (v0 v1 : Value) (K : Cont) (w : World) : Prop :=
  lenK v0 fun t9 =>
  lenK v1 fun t11 =>
  neK .i64 t9 t11 fun t12 =>
  condK t12
  (K (.bool false) w)
  (LoopK [(.int .i64 0)] (fun vs again w1 => ∀ _h : Env,
  lenK v0 fun t15 =>
  ltK .i64 (nth vs 0) t15 fun t16 =>
  condK t16
  (JoinK (fun _vs_1 w2 => ∀ _h_1 : Env,
  addK .i64 (nth vs 0) (.int .i64 1) fun t18 =>
  again [t18] w2) (fun J =>
  JoinK (fun vs_2 w3 => ∀ _h_2 : Env,
  faK 0 (nth vs_2 0) fun t27 =>
  ld1K t27 (fun t28 w4 =>
  faK 0 (nth vs_2 1) fun t29 =>
  ld1K t29 (fun t30 w5 =>
  neK .u8 t28 t30 fun t31 =>
  condK t31
  (K (.bool false) w5)
  (faK 1 (nth vs_2 0) fun t33 =>
  ld1K t33 (fun t34 w6 =>
  faK 1 (nth vs_2 1) fun t35 =>
  ld1K t35 (fun t36 w7 =>
  neK .i64 t34 t36 fun t37 =>
  condK t37
  (K (.bool false) w7)
  (faK 2 (nth vs_2 0) fun t40 =>
  ld1K t40 (fun t41 w8 =>
  faK 2 (nth vs_2 1) fun t42 =>
  ld1K t42 (fun t43 w9 =>
  callK Tryz.prog 53 [t41, t43] (fun t44 w10 =>
  notK t44 fun t45 =>
  condK t45
  (K (.bool false) w10)
  (faK 3 (nth vs_2 0) fun t48 =>
  ld1K t48 (fun t49 w11 =>
  faK 3 (nth vs_2 1) fun t50 =>
  ld1K t50 (fun t51 w12 =>
  callK Tryz.prog 54 [t49, t51] (fun t52 w13 =>
  notK t52 fun t53 =>
  condK t53
  (K (.bool false) w13)
  (faK 4 (nth vs_2 0) fun t56 =>
  ld1K t56 (fun t57 w14 =>
  faK 4 (nth vs_2 1) fun t58 =>
  ld1K t58 (fun t59 w15 =>
  callK Tryz.prog 55 [t57, t59] (fun t60 w16 =>
  notK t60 fun t61 =>
  condK t61
  (K (.bool false) w16)
  (J [] w16)) w15) w14) w13)) w12) w11) w10)) w9) w8) w7)) w6) w5)) w4) w3) (fun J_1 =>
  DrawC [8, 9, 10, 11] [[], [], [0, 1], [0, 1, 2], [], [], [4, 5], [4, 5, 6], [], [], [0, 1, 2, 3, 8, 9], [0, 1, 2, 3, 4, 5, 6, 7, 8, 9, 10]] w1.drew (fun M St =>
  ixK 5 v0 (nth vs 0) fun t21 =>
  sldn (St 3) 5 t21 fun t22 =>
  ixK 5 v1 (nth vs 0) fun t25 =>
  sldn (St 7) 5 t25 fun t26 =>
  (newK 39 [(.int .u8 0), (.int .i64 0), (.slice none 0 0), (.slice none 0 0), (.slice none 0 0)] (fun t6 w17 =>
  Mod (M 8) w1.drew w17 ∧
  newK 39 [(.int .u8 0), (.int .i64 0), (.slice none 0 0), (.slice none 0 0), (.slice none 0 0)] (fun t7 w18 =>
  Mod (M 9) w17 w18 ∧
  stnK 5 t6 t22 (fun w19 =>
  Mod (M 10) w18 w19 ∧
  stnK 5 t7 t26 (fun w20 =>
  Mod (M 11) w19 w20 ∧
  J_1 [t6, t7] w20) w19) w18) w17) w1.drew) ∧
  (newK 39 [(.int .u8 0), (.int .i64 0), (.slice none 0 0), (.slice none 0 0), (.slice none 0 0)] (fun t7_1 w21 =>
  Mod (M 9) w1.drew w21 ∧
  newK 39 [(.int .u8 0), (.int .i64 0), (.slice none 0 0), (.slice none 0 0), (.slice none 0 0)] (fun t6_1 w22 =>
  Mod (M 8) w21 w22 ∧
  stnK 5 t6_1 t22 (fun w23 =>
  Mod (M 10) w22 w23 ∧
  stnK 5 t7_1 t26 (fun w24 =>
  Mod (M 11) w23 w24 ∧
  J_1 [t6_1, t7_1] w24) w23) w22) w21) w1.drew)))))
  (K (.bool true) w1)) w)
theorem S22_eq (v0 v1 : Value) (K : Cont) (w : World) : S22 v0 v1 K w = D Tryz.prog okf 63 (bodyOf Tryz.f22) (.node [] [] .nil (.node [] [] (.node [] [] .nil (.node [] [] (.node [] [] .nil .nil) .nil)) (.node [] [] (.node [] [] .nil (.node [5] [(4, 7), (13, 62)] (.node [] [] (.node [] [] .nil (.node [] [] .nil .nil)) (.cut [] [(4, 4), (6, 7), (19, 62)] (.cut [6, 7] [(6, 7), (19, 26)] (.dt [8, 9, 10, 11] [[], [], [0, 1], [0, 1, 2], [], [], [4, 5], [4, 5, 6], [], [], [0, 1, 2, 3, 8, 9], [0, 1, 2, 3, 4, 5, 6, 7, 8, 9, 10]] [] (.op 0 (.op 1 (.op 2 (.op 3 (.op 4 (.op 5 (.op 6 (.op 7 (.br (.op 8 (.op 9 (.op 10 (.op 11 .nil)))) (.op 9 (.op 8 (.op 10 (.op 11 .nil)))))))))))))) (.node [] [] .nil (.node [] [] (.node [] [] .nil .nil) .nil))) .nil)) .nil)) (.node [] [] .nil .nil)))) (retK Tryz.prog [.tmp 4] K) (nth [v0, v1]) w := by kernel_rfl
theorem S22_ok {v0 v1 : Value} {K : Cont} {w : World} (h : S22 v0 v1 K w) : callK Tryz.prog 22 [v0, v1] K w :=
  callK_of (P := Tryz.prog) (ok := okf) (n := 63) (fn := Tryz.f22) (c := bodyOf Tryz.f22) (rs := [.tmp 4]) (an := (.node [] [] .nil (.node [] [] (.node [] [] .nil (.node [] [] (.node [] [] .nil .nil) .nil)) (.node [] [] (.node [] [] .nil (.node [5] [(4, 7), (13, 62)] (.node [] [] (.node [] [] .nil (.node [] [] .nil .nil)) (.cut [] [(4, 4), (6, 7), (19, 62)] (.cut [6, 7] [(6, 7), (19, 26)] (.dt [8, 9, 10, 11] [[], [], [0, 1], [0, 1, 2], [], [], [4, 5], [4, 5, 6], [], [], [0, 1, 2, 3, 8, 9], [0, 1, 2, 3, 4, 5, 6, 7, 8, 9, 10]] [] (.op 0 (.op 1 (.op 2 (.op 3 (.op 4 (.op 5 (.op 6 (.op 7 (.br (.op 8 (.op 9 (.op 10 (.op 11 .nil)))) (.op 9 (.op 8 (.op 10 (.op 11 .nil)))))))))))))) (.node [] [] .nil (.node [] [] (.node [] [] .nil .nil) .nil))) .nil)) .nil)) (.node [] [] .nil .nil))))) good mixed Tryz.func22 (by kernel_rfl) (by kernel_rfl) (by kernel_rfl) (by kernel_rfl) (Eq.mp (S22_eq v0 v1 K w) h)

/-- rubric/normal.New -/
def S75 (K : Cont) (w : World) : Prop :=
  buildK [(0, 1), (1, 1), (2, 1)] [(.slice none 0 0), (.slice none 0 0), (.int .i64 0)] [] fun t1 =>
  boxnK 180 t1 (fun t2 w1 =>
  K t2 w1) w
theorem S75_eq (K : Cont) (w : World) : S75  K w = D Tryz.prog okf 3 (bodyOf Tryz.f75) (.node [] [] .nil (.node [] [] .nil .nil)) (retK Tryz.prog [.tmp 0] K) (nth []) w := by kernel_rfl
theorem S75_ok {K : Cont} {w : World} (h : S75  K w) : callK Tryz.prog 75 [] K w :=
  callK_of (P := Tryz.prog) (ok := okf) (n := 3) (fn := Tryz.f75) (c := bodyOf Tryz.f75) (rs := [.tmp 0]) (an := (.node [] [] .nil (.node [] [] .nil .nil))) good mixed Tryz.func75 (by kernel_rfl) (by kernel_rfl) (by kernel_rfl) (by kernel_rfl) (Eq.mp (S75_eq  K w) h)

/-- (*rubric/normal.Maker).Retain -/
def S76 (v0 v1 v2 : Value) (K : Cont) (w : World) : Prop :=
  JoinK (fun _vs w1 => ∀ _h : Env,
  DrawC [6, 7, 10] [[], [], [1], [1, 2], [1, 2, 3], [], [5], [1, 2, 3, 4, 5, 6], [0, 1, 2, 3, 4, 5, 6, 7], [0, 1, 2, 3, 4, 5, 6, 7, 8], [0, 1, 2, 3, 4, 5, 6, 7, 8, 9]] w1.drew (fun M St =>
  nilckK v0 fun t15 =>
  faK 0 t15 fun t16 =>
  sld1 (St 4) t16 fun t17 =>
  callK Tryz.prog 127 [v0] (fun t19 w2 =>
  Mod (M 6) w1.drew w2 ∧
  runK Tryz.prog (Builtin.append_ #[31, 31] 31 [t17, t19].toArray) (fun t20 w3 =>
  Mod (M 7) w2 w3 ∧
  nilckK v0 fun t21 =>
  faK 0 t21 fun t22 =>
  st1K t22 t20 (fun w4 =>
  Mod (M 10) w3 w4 ∧
  nilckK v0 fun t25 =>
  faK 1 t25 fun t26 =>
  st1K t26 (.slice none 0 0) (fun w5 =>
  nilckK v0 fun t27 =>
  faK 2 t27 fun t28 =>
  st1K t28 (.int .i64 0) (fun w6 =>
  nilckK v0 fun t30 =>
  faK 0 t30 fun t31 =>
  ld1K t31 (fun t32 w7 =>
  lenK t32 fun t33 =>
  subK .i64 t33 (.int .i64 1) fun t34 =>
  JoinK (fun vs_1 w8 => ∀ _h_1 : Env,
  condK (nth vs_1 0)
  (nilckK v0 fun t61 =>
  faK 0 t61 fun t62 =>
  ld1K t62 (fun t63 w9 =>
  ixK 5 t63 t34 fun t65 =>
  faK 1 t65 fun t66 =>
  ld1K t66 (fun t67 w10 =>
  addK .i64 t67 v1 fun t69 =>
  ixK 5 t63 t34 fun t70 =>
  faK 1 t70 fun t71 =>
  st1K t71 t69 (fun w11 =>
  K (.tuple #[]) w11) w10) w9) w8)
  (DrawC [7, 9, 10, 13] [[], [], [1], [1, 2], [1, 2, 3], [], [], [6], [5, 6, 7], [5, 6, 7, 8], [1, 2, 3, 4, 5, 6, 7, 8, 9], [0, 1, 2, 3, 4, 5, 6, 7, 8, 9, 10], [0, 1, 2, 3, 4, 5, 6, 7, 8, 9, 10, 11], [0, 1, 2, 3, 4, 5, 6, 7, 8, 9, 10, 11, 12]] w8.drew (fun M_1 St_1 =>
  nilckK v0 fun t74 =>
  faK 0 t74 fun t75 =>
  sld1 (St_1 4) t75 fun t76 =>
  callK Tryz.prog 86 [v2] (fun t79 w12 =>
  Mod (M_1 7) w8.drew w12 ∧
  buildK [(0, 1), (1, 1), (2, 1), (3, 1), (4, 1)] [(.int .u8 0), (.int .i64 0), (.slice none 0 0), (.slice none 0 0), (.slice none 0 0)] [(0, (.int .u8 1)), (1, v1), (4, t79)] fun t80 =>
  rowK 39 5 1 [(.int .u8 0), (.int .i64 0), (.slice none 0 0), (.slice none 0 0), (.slice none 0 0)] [(0, t80)] (fun t81 w13 =>
  Mod (M_1 9) w12 w13 ∧
  runK Tryz.prog (Builtin.append_ #[31, 31] 31 [t76, t81].toArray) (fun t82 w14 =>
  Mod (M_1 10) w13 w14 ∧
  nilckK v0 fun t83 =>
  faK 0 t83 fun t84 =>
  st1K t84 t82 (fun w15 =>
  Mod (M_1 13) w14 w15 ∧
  K (.tuple #[]) w15) w14) w13) w12) w8.drew))) (fun J_1 =>
  geK .i64 t34 (.int .i64 0) fun t36 =>
  condK t36
  (nilckK v0 fun t39 =>
  faK 0 t39 fun t40 =>
  ld1K t40 (fun t41 w16 =>
  ixK 5 t41 t34 fun t43 =>
  faK 0 t43 fun t44 =>
  ld1K t44 (fun t45 w17 =>
  eqK .u8 t45 (.int .u8 1) fun t46 =>
  condK t46
  (nilckK v0 fun t50 =>
  faK 0 t50 fun t51 =>
  ld1K t51 (fun t52 w18 =>
  ixK 5 t52 t34 fun t54 =>
  faK 4 t54 fun t55 =>
  ld1K t55 (fun t56 w19 =>
  callK Tryz.prog 126 [t56, v2] (fun t58 w20 =>
  J_1 [t58] w20) w19) w18) w17)
  (J_1 [(.bool false)] w17)) w16) w7)
  (J_1 [(.bool false)] w7))) w6) w5) w4) w3) w2) w1.drew)) (fun J =>
  pnilK v0 fun b8 =>
  condK (.bool b8)
  (K (.tuple #[]) w)
  (ltK .i64 v1 (.int .i64 1) fun t11 =>
  condK t11
  (K (.tuple #[]) w)
  (J [] w)))
theorem S76_eq (v0 v1 v2 : Value) (K : Cont) (w : World) : S76 v0 v1 v2 K w = D Tryz.prog okf 85 (bodyOf Tryz.f76) (.cut [] [(7, 12)] (.node [] [] .nil (.node [] [] .nil .nil)) (.node [] [] (.dc [6, 7, 10] [[], [], [1], [1, 2], [1, 2, 3], [], [5], [1, 2, 3, 4, 5, 6], [0, 1, 2, 3, 4, 5, 6, 7], [0, 1, 2, 3, 4, 5, 6, 7, 8], [0, 1, 2, 3, 4, 5, 6, 7, 8, 9]] [[6, 7]]) (.node [] [] .nil (.node [] [] .nil (.node [] [] (.cut [59] [(35, 59)] .nil (.node [] [] (.node [] [] .nil .nil) .nil)) (.dc [7, 9, 10, 13] [[], [], [1], [1, 2], [1, 2, 3], [], [], [6], [5, 6, 7], [5, 6, 7, 8], [1, 2, 3, 4, 5, 6, 7, 8, 9], [0, 1, 2, 3, 4, 5, 6, 7, 8, 9, 10], [0, 1, 2, 3, 4, 5, 6, 7, 8, 9, 10, 11], [0, 1, 2, 3, 4, 5, 6, 7, 8, 9, 10, 11, 12]] [[7], [7, 9, 10]])))))) (retK Tryz.prog [] K) (nth [v0, v1, v2]) w := by kernel_rfl
theorem S76_ok {v0 v1 v2 : Value} {K : Cont} {w : World} (h : S76 v0 v1 v2 K w) : callK Tryz.prog 76 [v0, v1, v2] K w :=
  callK_of (P := Tryz.prog) (ok := okf) (n := 85) (fn := Tryz.f76) (c := bodyOf Tryz.f76) (rs := []) (an := (.cut [] [(7, 12)] (.node [] [] .nil (.node [] [] .nil .nil)) (.node [] [] (.dc [6, 7, 10] [[], [], [1], [1, 2], [1, 2, 3], [], [5], [1, 2, 3, 4, 5, 6], [0, 1, 2, 3, 4, 5, 6, 7], [0, 1, 2, 3, 4, 5, 6, 7, 8], [0, 1, 2, 3, 4, 5, 6, 7, 8, 9]] [[6, 7]]) (.node [] [] .nil (.node [] [] .nil (.node [] [] (.cut [59] [(35, 59)] .nil (.node [] [] (.node [] [] .nil .nil) .nil)) (.dc [7, 9, 10, 13] [[], [], [1], [1, 2], [1, 2, 3], [], [], [6], [5, 6, 7], [5, 6, 7, 8], [1, 2, 3, 4, 5, 6, 7, 8, 9], [0, 1, 2, 3, 4, 5, 6, 7, 8, 9, 10], [0, 1, 2, 3, 4, 5, 6, 7, 8, 9, 10, 11], [0, 1, 2, 3, 4, 5, 6, 7, 8, 9, 10, 11, 12]] [[7], [7, 9, 10]]))))))) good mixed Tryz.func76 (by kernel_rfl) (by kernel_rfl) (by kernel_rfl) (by kernel_rfl) (Eq.mp (S76_eq v0 v1 v2 K w) h)

/-- (*rubric/normal.Maker).Insert -/
def S77 (v0 v1 v2 : Value) (K : Cont) (w : World) : Prop :=
  JoinK (fun _vs w1 => ∀ _h : Env,
  nilckK v0 fun t15 =>
  faK 1 t15 fun t16 =>
  ld1K t16 (fun t17 w2 =>
  lenK t17 fun t18 =>
  subK .i64 t18 (.int .i64 1) fun t19 =>
  JoinK (fun vs_1 w3 => ∀ _h_1 : Env,
  condK (nth vs_1 0)
  (DrawC [14, 17] [[], [0], [0, 1], [0, 1, 2], [], [], [5], [5, 6], [5, 6, 7], [], [5, 6, 7, 8, 9], [5, 6, 7, 8, 9, 10], [5, 6, 7, 8, 9, 10, 11], [], [5, 6, 7, 8, 9, 10, 11, 12, 13], [0, 1, 2, 3, 4, 5, 6, 7, 8, 9, 10, 11, 12, 13, 14], [0, 1, 2, 3, 4, 5, 6, 7, 8, 9, 10, 11, 12, 13, 14, 15], [0, 1, 2, 3, 4, 5, 6, 7, 8, 9, 10, 11, 12, 13, 14, 15, 16]] w3.drew (fun M St =>
  nilckK v0 fun t35 =>
  faK 1 t35 fun t36 =>
  sld1 (St 3) t36 fun t37 =>
  nilckK v0 fun t40 =>
  faK 1 t40 fun t41 =>
  sld1 (St 8) t41 fun t42 =>
  ixK 5 t42 t19 fun t44 =>
  faK 2 t44 fun t45 =>
  sld1 (St 12) t45 fun t46 =>
  runK Tryz.prog (Builtin.append_ #[35, 35] 35 [t46, v1].toArray) (fun t48 w4 =>
  Mod (M 14) w3.drew w4 ∧
  ixK 5 t37 t19 fun t49 =>
  faK 2 t49 fun t50 =>
  st1K t50 t48 (fun w5 =>
  Mod (M 17) w4 w5 ∧
  K (.tuple #[]) w5) w4) w3.drew))
  (DrawC [6, 8, 10, 11, 14] [[], [], [1], [1, 2], [1, 2, 3], [], [5], [], [5, 6, 7], [5, 6, 7, 8], [5, 6, 7, 8, 9], [1, 2, 3, 4, 5, 6, 7, 8, 9, 10], [0, 1, 2, 3, 4, 5, 6, 7, 8, 9, 10, 11], [0, 1, 2, 3, 4, 5, 6, 7, 8, 9, 10, 11, 12], [0, 1, 2, 3, 4, 5, 6, 7, 8, 9, 10, 11, 12, 13]] w3.drew (fun M_1 St_1 =>
  nilckK v0 fun t53 =>
  faK 1 t53 fun t54 =>
  sld1 (St_1 4) t54 fun t55 =>
  callK Tryz.prog 84 [v1] (fun t57 w6 =>
  Mod (M_1 6) w3.drew w6 ∧
  callK Tryz.prog 85 [v2] (fun t59 w7 =>
  Mod (M_1 8) w6 w7 ∧
  buildK [(0, 1), (1, 1), (2, 1), (3, 1), (4, 1)] [(.int .u8 0), (.int .i64 0), (.slice none 0 0), (.slice none 0 0), (.slice none 0 0)] [(0, (.int .u8 2)), (2, t57), (3, t59)] fun t60 =>
  rowK 39 5 1 [(.int .u8 0), (.int .i64 0), (.slice none 0 0), (.slice none 0 0), (.slice none 0 0)] [(0, t60)] (fun t61 w8 =>
  Mod (M_1 10) w7 w8 ∧
  runK Tryz.prog (Builtin.append_ #[31, 31] 31 [t55, t61].toArray) (fun t62 w9 =>
  Mod (M_1 11) w8 w9 ∧
  nilckK v0 fun t63 =>
  faK 1 t63 fun t64 =>
  st1K t64 t62 (fun w10 =>
  Mod (M_1 14) w9 w10 ∧
  K (.tuple #[]) w10) w9) w8) w7) w6) w3.drew))) (fun J_1 =>
  geK .i64 t19 (.int .i64 0) fun t21 =>
  condK t21
  (nilckK v0 fun t24 =>
  faK 1 t24 fun t25 =>
  ld1K t25 (fun t26 w11 =>
  ixK 5 t26 t19 fun t28 =>
  faK 3 t28 fun t29 =>
  ld1K t29 (fun t30 w12 =>
  callK Tryz.prog 125 [t30, v2] (fun t32 w13 =>
  J_1 [t32] w13) w12) w11) w2)
  (J_1 [(.bool false)] w2))) w1) (fun J =>
  pnilK v0 fun b8 =>
  condK (.bool b8)
  (K (.tuple #[]) w)
  (lenK v1 fun t11 =>
  eqK .i64 t11 (.int .i64 0) fun t12 =>
  condK t12
  (K (.tuple #[]) w)
  (J [] w)))
theorem S77_eq (v0 v1 v2 : Value) (K : Cont) (w : World) : S77 v0 v1 v2 K w = D Tryz.prog okf 65 (bodyOf Tryz.f77) (.cut [] [(7, 13)] (.node [] [] .nil (.node [] [] .nil .nil)) (.node [] [] .nil (.node [] [] (.cut [33] [(20, 33)] .nil (.node [] [] (.node [] [] (.dc [14, 17] [[], [0], [0, 1], [0, 1, 2], [], [], [5], [5, 6], [5, 6, 7], [], [5, 6, 7, 8, 9], [5, 6, 7, 8, 9, 10], [5, 6, 7, 8, 9, 10, 11], [], [5, 6, 7, 8, 9, 10, 11, 12, 13], [0, 1, 2, 3, 4, 5, 6, 7, 8, 9, 10, 11, 12, 13, 14], [0, 1, 2, 3, 4, 5, 6, 7, 8, 9, 10, 11, 12, 13, 14, 15], [0, 1, 2, 3, 4, 5, 6, 7, 8, 9, 10, 11, 12, 13, 14, 15, 16]] [[14]]) .nil) .nil)) (.dc [6, 8, 10, 11, 14] [[], [], [1], [1, 2], [1, 2, 3], [], [5], [], [5, 6, 7], [5, 6, 7, 8], [5, 6, 7, 8, 9], [1, 2, 3, 4, 5, 6, 7, 8, 9, 10], [0, 1, 2, 3, 4, 5, 6, 7, 8, 9, 10, 11], [0, 1, 2, 3, 4, 5, 6, 7, 8, 9, 10, 11, 12], [0, 1, 2, 3, 4, 5, 6, 7, 8, 9, 10, 11, 12, 13]] [[6, 8], [6, 8, 10, 11]])))) (retK Tryz.prog [] K) (nth [v0, v1, v2]) w := by kernel_rfl
theorem S77_ok {v0 v1 v2 : Value} {K : Cont} {w : World} (h : S77 v0 v1 v2 K w) : callK Tryz.prog 77 [v0, v1, v2] K w :=
  callK_of (P := Tryz.prog) (ok := okf) (n := 65) (fn := Tryz.f77) (c := bodyOf Tryz.f77) (rs := []) (an := (.cut [] [(7, 13)] (.node [] [] .nil (.node [] [] .nil .nil)) (.node [] [] .nil (.node [] [] (.cut [33] [(20, 33)] .nil (.node [] [] (.node [] [] (.dc [14, 17] [[], [0], [0, 1], [0, 1, 2], [], [], [5], [5, 6], [5, 6, 7], [], [5, 6, 7, 8, 9], [5, 6, 7, 8, 9, 10], [5, 6, 7, 8, 9, 10, 11], [], [5, 6, 7, 8, 9, 10, 11, 12, 13], [0, 1, 2, 3, 4, 5, 6, 7, 8, 9, 10, 11, 12, 13, 14], [0, 1, 2, 3, 4, 5, 6, 7, 8, 9, 10, 11, 12, 13, 14, 15], [0, 1, 2, 3, 4, 5, 6, 7, 8, 9, 10, 11, 12, 13, 14, 15, 16]] [[14]]) .nil) .nil)) (.dc [6, 8, 10, 11, 14] [[], [], [1], [1, 2], [1, 2, 3], [], [5], [], [5, 6, 7], [5, 6, 7, 8], [5, 6, 7, 8, 9], [1, 2, 3, 4, 5, 6, 7, 8, 9, 10], [0, 1, 2, 3, 4, 5, 6, 7, 8, 9, 10, 11], [0, 1, 2, 3, 4, 5, 6, 7, 8, 9, 10, 11, 12], [0, 1, 2, 3, 4, 5, 6, 7, 8, 9, 10, 11, 12, 13]] [[6, 8], [6, 8, 10, 11]]))))) good mixed Tryz.func77 (by kernel_rfl) (by kernel_rfl) (by kernel_rfl) (by kernel_rfl) (Eq.mp (S77_eq v0 v1 v2 K w) h)

/-- (*rubric/normal.Maker).Delete -/
def S78 (v0 v1 : Value) (K : Cont) (w : World) : Prop :=
  pnilK v0 fun b5 =>
  condK (.bool (!b5))
  (nilckK v0 fun t7 =>
  faK 2 t7 fun t8 =>
  ld1K t8 (fun t9 w1 =>
  maxK .i64 v1 (.int .i64 0) fun t11 =>
  addK .i64 t9 t11 fun t12 =>
  nilckK v0 fun t13 =>
  faK 2 t13 fun t14 =>
  st1K t14 t12 (fun w2 =>
  K (.tuple #[]) w2) w1) w)
  (K (.tuple #[]) w)
theorem S78_eq (v0 v1 : Value) (K : Cont) (w : World) : S78 v0 v1 K w = D Tryz.prog okf 15 (bodyOf Tryz.f78) (.node [] [] .nil (.node [] [] .nil .nil)) (retK Tryz.prog [] K) (nth [v0, v1]) w := by kernel_rfl
theorem S78_ok {v0 v1 : Value} {K : Cont} {w : World} (h : S78 v0 v1 K w) : callK Tryz.prog 78 [v0, v1] K w :=
  callK_of (P := Tryz.prog) (ok := okf) (n := 15) (fn := Tryz.f78) (c := bodyOf Tryz.f78) (rs := []) (an := (.node [] [] .nil (.node [] [] .nil .nil))) good mixed Tryz.func78 (by kernel_rfl) (by kernel_rfl) (by kernel_rfl) (by kernel_rfl) (Eq.mp (S78_eq v0 v1 K w) h)

/-- (*rubric/normal.Maker).Ops -/
def S79 (v0 : Value) (K : Cont) (w : World) : Prop :=
  pnilK v0 fun b6 =>
  condK (.bool b6)
  (K (.slice none 0 0) w)
  (DrawC [5, 6, 7] [[], [0], [0, 1], [0, 1, 2], [], [4], [0, 1, 2, 3, 4, 5], [0, 1, 2, 3, 4, 5, 6], [0, 1, 2, 3, 4, 5, 6, 7]] w.drew (fun M St =>
  nilckK v0 fun t8 =>
  faK 0 t8 fun t9 =>
  sld1 (St 3) t9 fun t10 =>
  callK Tryz.prog 127 [v0] (fun t12 w1 =>
  Mod (M 5) w.drew w1 ∧
  rowK 31 1 2 [(.slice none 0 0)] [(0, t10), (1, t12)] (fun t13 w2 =>
  Mod (M 6) w1 w2 ∧
  callK Tryz.prog 128 [t13] (fun t14 w3 =>
  Mod (M 7) w2 w3 ∧
  JoinK (fun vs w4 => ∀ _h : Env,
  callK Tryz.prog 49 [(nth vs 0)] (fun t41 w5 =>
  K t41 w5) w4) (fun J =>
  lenK t14 fun t16 =>
  subK .i64 t16 (.int .i64 1) fun t17 =>
  geK .i64 t17 (.int .i64 0) fun t19 =>
  condK t19
  (ixK 5 t14 t17 fun t23 =>
  faK 0 t23 fun t24 =>
  ld1K t24 (fun t25 w6 =>
  eqK .u8 t25 (.int .u8 1) fun t26 =>
  condK t26
  (ixK 5 t14 t17 fun t31 =>
  faK 4 t31 fun t32 =>
  ld1K t32 (fun t33 w7 =>
  lenK t33 fun t34 =>
  eqK .i64 t34 (.int .i64 0) fun t35 =>
  condK t35
  (runK Tryz.prog (Instr.sliceAt 31 t14 none (some t17) none) (fun t39 w8 =>
  J [t39] w8) w7)
  (J [t14] w7)) w6)
  (J [t14] w6)) w3)
  (J [t14] w3))) w2) w1) w.drew))
theorem S79_eq (v0 : Value) (K : Cont) (w : World) : S79 v0 K w = D Tryz.prog okf 42 (bodyOf Tryz.f79) (.node [] [] .nil (.node [] [] (.node [] [] .nil (.node [] [] (.node [] [] .nil .nil) .nil)) (.node [] [] (.dc [5, 6, 7] [[], [0], [0, 1], [0, 1, 2], [], [4], [0, 1, 2, 3, 4, 5], [0, 1, 2, 3, 4, 5, 6], [0, 1, 2, 3, 4, 5, 6, 7]] []) (.cut [3] [(3, 4), (15, 39)] (.node [] [] .nil (.node [] [] .nil (.node [] [] .nil .nil))) (.node [] [] .nil .nil))))) (retK Tryz.prog [.tmp 2] K) (nth [v0]) w := by kernel_rfl
theorem S79_ok {v0 : Value} {K : Cont} {w : World} (h : S79 v0 K w) : callK Tryz.prog 79 [v0] K w :=
  callK_of (P := Tryz.prog) (ok := okf) (n := 42) (fn := Tryz.f79) (c := bodyOf Tryz.f79) (rs := [.tmp 2]) (an := (.node [] [] .nil (.node [] [] (.node [] [] .nil (.node [] [] (.node [] [] .nil .nil) .nil)) (.node [] [] (.dc [5, 6, 7] [[], [0], [0, 1], [0, 1, 2], [], [4], [0, 1, 2, 3, 4, 5], [0, 1, 2, 3, 4, 5, 6], [0, 1, 2, 3, 4, 5, 6, 7]] []) (.cut [3] [(3, 4), (15, 39)] (.node [] [] .nil (.node [] [] .nil (.node [] [] .nil .nil))) (.node [] [] .nil .nil)))))) good mixed Tryz.func79 (by kernel_rfl) (by kernel_rfl) (by kernel_rfl) (by kernel_rfl) (Eq.mp (S79_eq v0 K w) h)

/-- rubric/rubricref01.Same -/
def S53 (v0 v1 : Value) (K : Cont) (w : World) : Prop :=
  lenK v0 fun t7 =>
  lenK v1 fun t9 =>
  neK .i64 t7 t9 fun t10 =>
  condK t10
  (K (.bool false) w)
  (LoopK [(.int .i64 0)] (fun vs again w1 => ∀ _h : Env,
  lenK v0 fun t13 =>
  ltK .i64 (nth vs 0) t13 fun t14 =>
  condK t14
  (DrawK w1 (fun C =>
  ixK 1 v0 (nth vs 0) fun t19 =>
  qld1K C t19 fun t20 =>
  ixK 1 v1 (nth vs 0) fun t23 =>
  qld1K C t23 fun t24 =>
  neK .i32 t20 t24 fun t25 =>
  ∀ w2 : World, C w2 →
  condK t25
  (K (.bool false) w2)
  (addK .i64 (nth vs 0) (.int .i64 1) fun t16 =>
  again [t16] w2)))
  (K (.bool true) w1)) w)
theorem S53_eq (v0 v1 : Value) (K : Cont) (w : World) : S53 v0 v1 K w = D Tryz.prog okf 26 (bodyOf Tryz.f53) (.node [] [] .nil (.node [] [] (.node [] [] .nil (.node [] [] (.node [] [] .nil .nil) .nil)) (.node [] [] (.node [] [] .nil (.node [5] [(4, 5), (11, 25)] (.node [] [] (.node [] [] .nil (.node [] [] .nil .nil)) (.node [] [] (.node [] [] .draw (.node [] [] (.node [] [] .nil .nil) .nil)) .nil)) .nil)) (.node [] [] .nil .nil)))) (retK Tryz.prog [.tmp 4] K) (nth [v0, v1]) w := by kernel_rfl
theorem S53_ok {v0 v1 : Value} {K : Cont} {w : World} (h : S53 v0 v1 K w) : callK Tryz.prog 53 [v0, v1] K w :=
  callK_of (P := Tryz.prog) (ok := okf) (n := 26) (fn := Tryz.f53) (c := bodyOf Tryz.f53) (rs := [.tmp 4]) (an := (.node [] [] .nil (.node [] [] (.node [] [] .nil (.node [] [] (.node [] [] .nil .nil) .nil)) (.node [] [] (.node [] [] .nil (.node [5] [(4, 5), (11, 25)] (.node [] [] (.node [] [] .nil (.node [] [] .nil .nil)) (.node [] [] (.node [] [] .draw (.node [] [] (.node [] [] .nil .nil) .nil)) .nil)) .nil)) (.node [] [] .nil .nil))))) good mixed Tryz.func53 (by kernel_rfl) (by kernel_rfl) (by kernel_rfl) (by kernel_rfl) (Eq.mp (S53_eq v0 v1 K w) h)

/-- rubric/rubricref06.Same -/
def S55 (v0 v1 : Value) (K : Cont) (w : World) : Prop :=
  lenK v0 fun t7 =>
  lenK v1 fun t9 =>
  neK .i64 t7 t9 fun t10 =>
  condK t10
  (K (.bool false) w)
  (LoopK [(.int .i64 0)] (fun vs again w1 => ∀ _h : Env,
  lenK v0 fun t13 =>
  ltK .i64 (nth vs 0) t13 fun t14 =>
  condK t14
  (DrawK w1 (fun C =>
  ixK 6 v0 (nth vs 0) fun t19 =>
  qldnK C 6 t19 fun t20 =>
  ixK 6 v1 (nth vs 0) fun t23 =>
  qldnK C 6 t23 fun t24 =>
  qrunK Tryz.prog C (binS .neq 111 (.tmp 20) (.tmp 24) t20 t24) fun t25 =>
  ∀ w2 : World, C w2 →
  condK t25
  (K (.bool false) w2)
  (addK .i64 (nth vs 0) (.int .i64 1) fun t16 =>
  again [t16] w2)))
  (K (.bool true) w1)) w)
theorem S55_eq (v0 v1 : Value) (K : Cont) (w : World) : S55 v0 v1 K w = D Tryz.prog okf 26 (bodyOf Tryz.f55) (.node [] [] .nil (.node [] [] (.node [] [] .nil (.node [] [] (.node [] [] .nil .nil) .nil)) (.node [] [] (.node [] [] .nil (.node [5] [(4, 5), (11, 25)] (.node [] [] (.node [] [] .nil (.node [] [] .nil .nil)) (.node [] [] (.node [] [] .draw (.node [] [] (.node [] [] .nil .nil) .nil)) .nil)) .nil)) (.node [] [] .nil .nil)))) (retK Tryz.prog [.tmp 4] K) (nth [v0, v1]) w := by kernel_rfl
theorem S55_ok {v0 v1 : Value} {K : Cont} {w : World} (h : S55 v0 v1 K w) : callK Tryz.prog 55 [v0, v1] K w :=
  callK_of (P := Tryz.prog) (ok := okf) (n := 26) (fn := Tryz.f55) (c := bodyOf Tryz.f55) (rs := [.tmp 4]) (an := (.node [] [] .nil (.node [] [] (.node [] [] .nil (.node [] [] (.node [] [] .nil .nil) .nil)) (.node [] [] (.node [] [] .nil (.node [5] [(4, 5), (11, 25)] (.node [] [] (.node [] [] .nil (.node [] [] .nil .nil)) (.node [] [] (.node [] [] .draw (.node [] [] (.node [] [] .nil .nil) .nil)) .nil)) .nil)) (.node [] [] .nil .nil))))) good mixed Tryz.func55 (by kernel_rfl) (by kernel_rfl) (by kernel_rfl) (by kernel_rfl) (Eq.mp (S55_eq v0 v1 K w) h)

/-- (*rubric/normal.Maker).gap -/
def S127 (v0 : Value) (K : Cont) (w : World) : Prop :=
  nilckK v0 fun t5 =>
  faK 1 t5 fun t6 =>
  ld1K t6 (fun t7 w1 =>
  callK Tryz.prog 83 [t7] (fun t8 w2 =>
  nilckK v0 fun t10 =>
  faK 2 t10 fun t11 =>
  ld1K t11 (fun t12 w3 =>
  gtK .i64 t12 (.int .i64 0) fun t13 =>
  condK t13
  (nilckK v0 fun t16 =>
  faK 2 t16 fun t17 =>
  ld1K t17 (fun t18 w4 =>
  buildK [(0, 1), (1, 1), (2, 1), (3, 1), (4, 1)] [(.int .u8 0), (.int .i64 0), (.slice none 0 0), (.slice none 0 0), (.slice none 0 0)] [(0, (.int .u8 3)), (1, t18)] fun t19 =>
  rowK 39 5 1 [(.int .u8 0), (.int .i64 0), (.slice none 0 0), (.slice none 0 0), (.slice none 0 0)] [(0, t19)] (fun t20 w5 =>
  runK Tryz.prog (Builtin.append_ #[31, 31] 31 [t8, t20].toArray) (fun t21 w6 =>
  K t21 w6) w5) w4) w3)
  (K t8 w3)) w2) w1) w
theorem S127_eq (v0 : Value) (K : Cont) (w : World) : S127 v0 K w = D Tryz.prog okf 23 (bodyOf Tryz.f127) (.node [] [] .nil (.node [] [] .nil (.node [] [] (.node [] [] .nil (.node [] [] .nil .nil)) (.node [] [] .nil .nil)))) (retK Tryz.prog [.tmp 2] K) (nth [v0]) w := by kernel_rfl
theorem S127_ok {v0 : Value} {K : Cont} {w : World} (h : S127 v0 K w) : callK Tryz.prog 127 [v0] K w :=
  callK_of (P := Tryz.prog) (ok := okf) (n := 23) (fn := Tryz.f127) (c := bodyOf Tryz.f127) (rs := [.tmp 2]) (an := (.node [] [] .nil (.node [] [] .nil (.node [] [] (.node [] [] .nil (.node [] [] .nil .nil)) (.node [] [] .nil .nil))))) good mixed Tryz.func127 (by kernel_rfl) (by kernel_rfl) (by kernel_rfl) (by kernel_rfl) (Eq.mp (S127_eq v0 K w) h)

/-- rubric/patch.Same -/
def S126 (v0 v1 : Value) (K : Cont) (w : World) : Prop :=
  callK Tryz.prog 177 [v0, v1] (fun t7 w1 =>
  K t7 w1) w
theorem S126_eq (v0 v1 : Value) (K : Cont) (w : World) : S126 v0 v1 K w = D Tryz.prog okf 8 (bodyOf Tryz.f126) (.node [] [] .nil (.node [] [] .nil .nil)) (retK Tryz.prog [.tmp 4] K) (nth [v0, v1]) w := by kernel_rfl
theorem S126_ok {v0 v1 : Value} {K : Cont} {w : World} (h : S126 v0 v1 K w) : callK Tryz.prog 126 [v0, v1] K w :=
  callK_of (P := Tryz.prog) (ok := okf) (n := 8) (fn := Tryz.f126) (c := bodyOf Tryz.f126) (rs := [.tmp 4]) (an := (.node [] [] .nil (.node [] [] .nil .nil))) good mixed Tryz.func126 (by kernel_rfl) (by kernel_rfl) (by kernel_rfl) (by kernel_rfl) (Eq.mp (S126_eq v0 v1 K w) h)

/-- rubric/patch.Copy -/
def S86 (v0 : Value) (K : Cont) (w : World) : Prop :=
  callK Tryz.prog 140 [v0] (fun t4 w1 =>
  K t4 w1) w
theorem S86_eq (v0 : Value) (K : Cont) (w : World) : S86 v0 K w = D Tryz.prog okf 5 (bodyOf Tryz.f86) (.node [] [] .nil (.node [] [] .nil .nil)) (retK Tryz.prog [.tmp 2] K) (nth [v0]) w := by kernel_rfl
theorem S86_ok {v0 : Value} {K : Cont} {w : World} (h : S86 v0 K w) : callK Tryz.prog 86 [v0] K w :=
  callK_of (P := Tryz.prog) (ok := okf) (n := 5) (fn := Tryz.f86) (c := bodyOf Tryz.f86) (rs := [.tmp 2]) (an := (.node [] [] .nil (.node [] [] .nil .nil))) good mixed Tryz.func86 (by kernel_rfl) (by kernel_rfl) (by kernel_rfl) (by kernel_rfl) (Eq.mp (S86_eq v0 K w) h)

/-- slices.Clone[[]int32,int32] -/
def S84 (v0 : Value) (K : Cont) (w : World) : Prop :=
  snilK v0 fun b4 =>
  condK (.bool b4)
  (K (.slice none 0 0) w)
  (rowK 21 1 0 [] [] (fun t5 w1 =>
  runK Tryz.prog (Builtin.append_ #[35, 35] 35 [t5, v0].toArray) (fun t7 w2 =>
  K t7 w2) w1) w)
theorem S84_eq (v0 : Value) (K : Cont) (w : World) : S84 v0 K w = D Tryz.prog okf 8 (bodyOf Tryz.f84) (.node [] [] .nil (.node [] [] (.node [] [] .nil (.node [] [] (.node [] [] .nil .nil) .nil)) (.node [] [] .nil .nil))) (retK Tryz.prog [.tmp 2] K) (nth [v0]) w := by kernel_rfl
theorem S84_ok {v0 : Value} {K : Cont} {w : World} (h : S84 v0 K w) : callK Tryz.prog 84 [v0] K w :=
  callK_of (P := Tryz.prog) (ok := okf) (n := 8) (fn := Tryz.f84) (c := bodyOf Tryz.f84) (rs := [.tmp 2]) (an := (.node [] [] .nil (.node [] [] (.node [] [] .nil (.node [] [] (.node [] [] .nil .nil) .nil)) (.node [] [] .nil .nil)))) good mixed Tryz.func84 (by kernel_rfl) (by kernel_rfl) (by kernel_rfl) (by kernel_rfl) (Eq.mp (S84_eq v0 K w) h)

/-- slices.Concat[[]rubric/api.Op,rubric/api.Op] -/
def S128 (v0 : Value) (K : Cont) (w : World) : Prop :=
  lenK v0 fun t10 =>
  LoopK [(.int .i64 0), (.int .i64 0)] (fun vs again w1 => ∀ _h : Env,
  ltK .i64 (nth vs 1) t10 fun t12 =>
  condK t12
  (ixK 1 v0 (nth vs 1) fun t13 =>
  ld1K t13 (fun t14 w2 =>
  lenK t14 fun t17 =>
  addK .i64 (nth vs 0) t17 fun t18 =>
  ltK .i64 t18 (.int .i64 0) fun t20 =>
  condK t20
  (runK Tryz.prog (Instr.makeInterface 9 (.string (ByteArray.mk #[108, 101, 110, 32, 111, 117, 116, 32, 111, 102, 32, 114, 97, 110, 103, 101]))) (fun _t21 w3 =>
  False) w2)
  (addK .i64 (nth vs 1) (.int .i64 1) fun t22 =>
  again [t18, t22] w2)) w1)
  (callK Tryz.prog 178 [(.slice none 0 0), (nth vs 0)] (fun t24 w4 =>
  lenK v0 fun t26 =>
  LoopK [t24, (.int .i64 0)] (fun vs_1 again_1 w5 => ∀ _h_1 : Env,
  ltK .i64 (nth vs_1 1) t26 fun t28 =>
  condK t28
  (ixK 1 v0 (nth vs_1 1) fun t29 =>
  ld1K t29 (fun t30 w6 =>
  runK Tryz.prog (Builtin.append_ #[31, 31] 31 [(nth vs_1 0), t30].toArray) (fun t33 w7 =>
  addK .i64 (nth vs_1 1) (.int .i64 1) fun t34 =>
  again_1 [t33, t34] w7) w6) w5)
  (K (nth vs_1 0) w5)) w4) w1)) w
theorem S128_eq (v0 : Value) (K : Cont) (w : World) : S128 v0 K w = D Tryz.prog okf 36 (bodyOf Tryz.f128) (.node [] [] .nil (.node [] [] .nil (.node [] [] (.node [] [] .nil (.node [3, 11] [(3, 3), (5, 5), (11, 22)] (.node [] [] .nil (.node [] [] (.node [] [] .nil .nil) (.node [] [] (.node [] [] .nil (.node [] [] .nil (.node [] [] .nil (.node [] [] .nil .nil)))) .nil))) .nil)) (.node [] [] .nil (.node [] [] (.node [] [] .nil (.node [6, 27] [(6, 6), (8, 8), (27, 34)] (.node [] [] .nil (.node [] [] (.node [] [] .nil .nil) (.node [] [] (.node [] [] .nil .nil) .nil))) .nil)) (.node [] [] .nil .nil)))))) (retK Tryz.prog [.tmp 2] K) (nth [v0]) w := by kernel_rfl
theorem S128_ok {v0 : Value} {K : Cont} {w : World} (h : S128 v0 K w) : callK Tryz.prog 128 [v0] K w :=
  callK_of (P := Tryz.prog) (ok := okf) (n := 36) (fn := Tryz.f128) (c := bodyOf Tryz.f128) (rs := [.tmp 2]) (an := (.node [] [] .nil (.node [] [] .nil (.node [] [] (.node [] [] .nil (.node [3, 11] [(3, 3), (5, 5), (11, 22)] (.node [] [] .nil (.node [] [] (.node [] [] .nil .nil) (.node [] [] (.node [] [] .nil (.node [] [] .nil (.node [] [] .nil (.node [] [] .nil .nil)))) .nil))) .nil)) (.node [] [] .nil (.node [] [] (.node [] [] .nil (.node [6, 27] [(6, 6), (8, 8), (27, 34)] (.node [] [] .nil (.node [] [] (.node [] [] .nil .nil) (.node [] [] (.node [] [] .nil .nil) .nil))) .nil)) (.node [] [] .nil .nil))))))) good mixed Tryz.func128 (by kernel_rfl) (by kernel_rfl) (by kernel_rfl) (by kernel_rfl) (Eq.mp (S128_eq v0 K w) h)

/-- rubric/ops.Copy -/
def S49 (v0 : Value) (K : Cont) (w : World) : Prop :=
  callK Tryz.prog 83 [v0] (fun t6 w1 =>
  lenK t6 fun t8 =>
  LoopK [(.int .i64 0)] (fun vs again w2 => ∀ _h : Env,
  ltK .i64 (nth vs 0) t8 fun t10 =>
  condK t10
  (DrawC [11, 17, 23, 26, 29, 32] [[], [], [], [], [], [], [], [], [6, 7], [6, 7, 8], [6, 7, 8, 9], [6, 7, 8, 9, 10], [], [], [12, 13], [12, 13, 14], [12, 13, 14, 15], [6, 7, 8, 9, 10, 11, 12, 13, 14, 15, 16], [], [], [18, 19], [18, 19, 20], [18, 19, 20, 21], [6, 7, 8, 9, 10, 11, 12, 13, 14, 15, 16, 17, 18, 19, 20, 21, 22], [0, 1, 6, 7, 8, 9, 10, 11, 12, 13, 14, 15, 16, 17, 18, 19, 20, 21, 22, 23], [0, 1, 6, 7, 8, 9, 10, 11, 12, 13, 14, 15, 16, 17, 18, 19, 20, 21, 22, 23, 24], [0, 1, 6, 7, 8, 9, 10, 11, 12, 13, 14, 15, 16, 17, 18, 19, 20, 21, 22, 23, 24, 25], [0, 1, 2, 3, 6, 7, 8, 9, 10, 11, 12, 13, 14, 15, 16, 17, 18, 19, 20, 21, 22, 23, 24, 25, 26], [0, 1, 2, 3, 6, 7, 8, 9, 10, 11, 12, 13, 14, 15, 16, 17, 18, 19, 20, 21, 22, 23, 24, 25, 26, 27], [0, 1, 2, 3, 6, 7, 8, 9, 10, 11, 12, 13, 14, 15, 16, 17, 18, 19, 20, 21, 22, 23, 24, 25, 26, 27, 28], [0, 1, 2, 3, 4, 5, 6, 7, 8, 9, 10, 11, 12, 13, 14, 15, 16, 17, 18, 19, 20, 21, 22, 23, 24, 25, 26, 27, 28, 29], [0, 1, 2, 3, 4, 5, 6, 7, 8, 9, 10, 11, 12, 13, 14, 15, 16, 17, 18, 19, 20, 21, 22, 23, 24, 25, 26, 27, 28, 29, 30], [0, 1, 2, 3, 4, 5, 6, 7, 8, 9, 10, 11, 12, 13, 14, 15, 16, 17, 18, 19, 20, 21, 22, 23, 24, 25, 26, 27, 28, 29, 30, 31]] w2.drew (fun M St =>
  ixK 5 t6 (nth vs 0) fun t20 =>
  faK 2 t20 fun t21 =>
  sld1 (St 10) t21 fun t22 =>
  callK Tryz.prog 84 [t22] (fun t23 w3 =>
  Mod (M 11) w2.drew w3 ∧
  ixK 5 t6 (nth vs 0) fun t26 =>
  faK 3 t26 fun t27 =>
  sld1 (St 16) t27 fun t28 =>
  callK Tryz.prog 85 [t28] (fun t29 w4 =>
  Mod (M 17) w3 w4 ∧
  ixK 5 t6 (nth vs 0) fun t32 =>
  faK 4 t32 fun t33 =>
  sld1 (St 22) t33 fun t34 =>
  callK Tryz.prog 86 [t34] (fun t35 w5 =>
  Mod (M 23) w4 w5 ∧
  ixK 5 t6 (nth vs 0) fun t36 =>
  faK 2 t36 fun t37 =>
  st1K t37 t23 (fun w6 =>
  Mod (M 26) w5 w6 ∧
  ixK 5 t6 (nth vs 0) fun t38 =>
  faK 3 t38 fun t39 =>
  st1K t39 t29 (fun w7 =>
  Mod (M 29) w6 w7 ∧
  ixK 5 t6 (nth vs 0) fun t40 =>
  faK 4 t40 fun t41 =>
  st1K t41 t35 (fun w8 =>
  Mod (M 32) w7 w8 ∧
  addK .i64 (nth vs 0) (.int .i64 1) fun t42 =>
  again [t42] w8) w7) w6) w5) w4) w3) w2.drew))
  (K t6 w2)) w1) w
theorem S49_eq (v0 : Value) (K : Cont) (w : World) : S49 v0 K w = D Tryz.prog okf 44 (bodyOf Tryz.f49) (.node [] [] .nil (.node [] [] .nil (.node [] [] (.node [] [] .nil (.node [9] [(4, 4), (9, 42)] (.node [] [] .nil (.node [] [] (.node [] [] .nil .nil) (.node [] [] (.node [] [] .nil (.dc [11, 17, 23, 26, 29, 32] [[], [], [], [], [], [], [], [], [6, 7], [6, 7, 8], [6, 7, 8, 9], [6, 7, 8, 9, 10], [], [], [12, 13], [12, 13, 14], [12, 13, 14, 15], [6, 7, 8, 9, 10, 11, 12, 13, 14, 15, 16], [], [], [18, 19], [18, 19, 20], [18, 19, 20, 21], [6, 7, 8, 9, 10, 11, 12, 13, 14, 15, 16, 17, 18, 19, 20, 21, 22], [0, 1, 6, 7, 8, 9, 10, 11, 12, 13, 14, 15, 16, 17, 18, 19, 20, 21, 22, 23], [0, 1, 6, 7, 8, 9, 10, 11, 12, 13, 14, 15, 16, 17, 18, 19, 20, 21, 22, 23, 24], [0, 1, 6, 7, 8, 9, 10, 11, 12, 13, 14, 15, 16, 17, 18, 19, 20, 21, 22, 23, 24, 25], [0, 1, 2, 3, 6, 7, 8, 9, 10, 11, 12, 13, 14, 15, 16, 17, 18, 19, 20, 21, 22, 23, 24, 25, 26], [0, 1, 2, 3, 6, 7, 8, 9, 10, 11, 12, 13, 14, 15, 16, 17, 18, 19, 20, 21, 22, 23, 24, 25, 26, 27], [0, 1, 2, 3, 6, 7, 8, 9, 10, 11, 12, 13, 14, 15, 16, 17, 18, 19, 20, 21, 22, 23, 24, 25, 26, 27, 28], [0, 1, 2, 3, 4, 5, 6, 7, 8, 9, 10, 11, 12, 13, 14, 15, 16, 17, 18, 19, 20, 21, 22, 23, 24, 25, 26, 27, 28, 29], [0, 1, 2, 3, 4, 5, 6, 7, 8, 9, 10, 11, 12, 13, 14, 15, 16, 17, 18, 19, 20, 21, 22, 23, 24, 25, 26, 27, 28, 29, 30], [0, 1, 2, 3, 4, 5, 6, 7, 8, 9, 10, 11, 12, 13, 14, 15, 16, 17, 18, 19, 20, 21, 22, 23, 24, 25, 26, 27, 28, 29, 30, 31]] [[11, 17, 23], [11, 17, 23, 26], [11, 17, 23, 26, 29]])) .nil))) .nil)) (.node [] [] .nil .nil)))) (retK Tryz.prog [.tmp 2] K) (nth [v0]) w := by kernel_rfl
theorem S49_ok {v0 : Value} {K : Cont} {w : World} (h : S49 v0 K w) : callK Tryz.prog 49 [v0] K w :=
  callK_of (P := Tryz.prog) (ok := okf) (n := 44) (fn := Tryz.f49) (c := bodyOf Tryz.f49) (rs := [.tmp 2]) (an := (.node [] [] .nil (.node [] [] .nil (.node [] [] (.node [] [] .nil (.node [9] [(4, 4), (9, 42)] (.node [] [] .nil (.node [] [] (.node [] [] .nil .nil) (.node [] [] (.node [] [] .nil (.dc [11, 17, 23, 26, 29, 32] [[], [], [], [], [], [], [], [], [6, 7], [6, 7, 8], [6, 7, 8, 9], [6, 7, 8, 9, 10], [], [], [12, 13], [12, 13, 14], [12, 13, 14, 15], [6, 7, 8, 9, 10, 11, 12, 13, 14, 15, 16], [], [], [18, 19], [18, 19, 20], [18, 19, 20, 21], [6, 7, 8, 9, 10, 11, 12, 13, 14, 15, 16, 17, 18, 19, 20, 21, 22], [0, 1, 6, 7, 8, 9, 10, 11, 12, 13, 14, 15, 16, 17, 18, 19, 20, 21, 22, 23], [0, 1, 6, 7, 8, 9, 10, 11, 12, 13, 14, 15, 16, 17, 18, 19, 20, 21, 22, 23, 24], [0, 1, 6, 7, 8, 9, 10, 11, 12, 13, 14, 15, 16, 17, 18, 19, 20, 21, 22, 23, 24, 25], [0, 1, 2, 3, 6, 7, 8, 9, 10, 11, 12, 13, 14, 15, 16, 17, 18, 19, 20, 21, 22, 23, 24, 25, 26], [0, 1, 2, 3, 6, 7, 8, 9, 10, 11, 12, 13, 14, 15, 16, 17, 18, 19, 20, 21, 22, 23, 24, 25, 26, 27], [0, 1, 2, 3, 6, 7, 8, 9, 10, 11, 12, 13, 14, 15, 16, 17, 18, 19, 20, 21, 22, 23, 24, 25, 26, 27, 28], [0, 1, 2, 3, 4, 5, 6, 7, 8, 9, 10, 11, 12, 13, 14, 15, 16, 17, 18, 19, 20, 21, 22, 23, 24, 25, 26, 27, 28, 29], [0, 1, 2, 3, 4, 5, 6, 7, 8, 9, 10, 11, 12, 13, 14, 15, 16, 17, 18, 19, 20, 21, 22, 23, 24, 25, 26, 27, 28, 29, 30], [0, 1, 2, 3, 4, 5, 6, 7, 8, 9, 10, 11, 12, 13, 14, 15, 16, 17, 18, 19, 20, 21, 22, 23, 24, 25, 26, 27, 28, 29, 30, 31]] [[11, 17, 23], [11, 17, 23, 26], [11, 17, 23, 26, 29]])) .nil))) .nil)) (.node [] [] .nil .nil))))) good mixed Tryz.func49 (by kernel_rfl) (by kernel_rfl) (by kernel_rfl) (by kernel_rfl) (Eq.mp (S49_eq v0 K w) h)

/-- slices.Clone[[]rubric/api.Op,rubric/api.Op] -/
def S83 (v0 : Value) (K : Cont) (w : World) : Prop :=
  snilK v0 fun b4 =>
  condK (.bool b4)
  (K (.slice none 0 0) w)
  (rowK 39 5 0 [] [] (fun t5 w1 =>
  runK Tryz.prog (Builtin.append_ #[31, 31] 31 [t5, v0].toArray) (fun t7 w2 =>
  K t7 w2) w1) w)
theorem S83_eq (v0 : Value) (K : Cont) (w : World) : S83 v0 K w = D Tryz.prog okf 8 (bodyOf Tryz.f83) (.node [] [] .nil (.node [] [] (.node [] [] .nil (.node [] [] (.node [] [] .nil .nil) .nil)) (.node [] [] .nil .nil))) (retK Tryz.prog [.tmp 2] K) (nth [v0]) w := by kernel_rfl
theorem S83_ok {v0 : Value} {K : Cont} {w : World} (h : S83 v0 K w) : callK Tryz.prog 83 [v0] K w :=
  callK_of (P := Tryz.prog) (ok := okf) (n := 8) (fn := Tryz.f83) (c := bodyOf Tryz.f83) (rs := [.tmp 2]) (an := (.node [] [] .nil (.node [] [] (.node [] [] .nil (.node [] [] (.node [] [] .nil .nil) .nil)) (.node [] [] .nil .nil)))) good mixed Tryz.func83 (by kernel_rfl) (by kernel_rfl) (by kernel_rfl) (by kernel_rfl) (Eq.mp (S83_eq v0 K w) h)

/-- slices.Equal[[]rubric/api.Change,rubric/api.Change] -/
def S177 (v0 v1 : Value) (K : Cont) (w : World) : Prop :=
  lenK v0 fun t7 =>
  lenK v1 fun t9 =>
  neK .i64 t7 t9 fun t10 =>
  condK t10
  (K (.bool false) w)
  (lenK v0 fun t12 =>
  LoopK [(.int .i64 0)] (fun vs again w1 => ∀ _h : Env,
  ltK .i64 (nth vs 0) t12 fun t14 =>
  condK t14
  (DrawK w1 (fun C =>
  ixK 6 v0 (nth vs 0) fun t18 =>
  qldnK C 6 t18 fun t19 =>
  ixK 6 v1 (nth vs 0) fun t22 =>
  qldnK C 6 t22 fun t23 =>
  qrunK Tryz.prog C (binS .neq 111 (.tmp 19) (.tmp 23) t19 t23) fun t24 =>
  ∀ w2 : World, C w2 →
  condK t24
  (K (.bool false) w2)
  (addK .i64 (nth vs 0) (.int .i64 1) fun t25 =>
  again [t25] w2)))
  (K (.bool true) w1)) w)
theorem S177_eq (v0 v1 : Value) (K : Cont) (w : World) : S177 v0 v1 K w = D Tryz.prog okf 26 (bodyOf Tryz.f177) (.node [] [] .nil (.node [] [] (.node [] [] .nil (.node [] [] (.node [] [] .nil .nil) .nil)) (.node [] [] (.node [] [] .nil (.node [13] [(4, 5), (13, 25)] (.node [] [] .nil (.node [] [] (.node [] [] .nil .nil) (.node [] [] (.node [] [] .nil (.node [] [] .draw (.node [] [] (.node [] [] .nil .nil) .nil))) .nil))) .nil)) (.node [] [] .nil .nil)))) (retK Tryz.prog [.tmp 4] K) (nth [v0, v1]) w := by kernel_rfl
theorem S177_ok {v0 v1 : Value} {K : Cont} {w : World} (h : S177 v0 v1 K w) : callK Tryz.prog 177 [v0, v1] K w :=
  callK_of (P := Tryz.prog) (ok := okf) (n := 26) (fn := Tryz.f177) (c := bodyOf Tryz.f177) (rs := [.tmp 4]) (an := (.node [] [] .nil (.node [] [] (.node [] [] .nil (.node [] [] (.node [] [] .nil .nil) .nil)) (.node [] [] (.node [] [] .nil (.node [13] [(4, 5), (13, 25)] (.node [] [] .nil (.node [] [] (.node [] [] .nil .nil) (.node [] [] (.node [] [] .nil (.node [] [] .draw (.node [] [] (.node [] [] .nil .nil) .nil))) .nil))) .nil)) (.node [] [] .nil .nil))))) good mixed Tryz.func177 (by kernel_rfl) (by kernel_rfl) (by kernel_rfl) (by kernel_rfl) (Eq.mp (S177_eq v0 v1 K w) h)

/-- slices.Clone[[]rubric/api.Change,rubric/api.Change] -/
def S140 (v0 : Value) (K : Cont) (w : World) : Prop :=
  snilK v0 fun b4 =>
  condK (.bool b4)
  (K (.slice none 0 0) w)
  (rowK 111 6 0 [] [] (fun t5 w1 =>
  runK Tryz.prog (Builtin.append_ #[37, 37] 37 [t5, v0].toArray) (fun t7 w2 =>
  K t7 w2) w1) w)
theorem S140_eq (v0 : Value) (K : Cont) (w : World) : S140 v0 K w = D Tryz.prog okf 8 (bodyOf Tryz.f140) (.node [] [] .nil (.node [] [] (.node [] [] .nil (.node [] [] (.node [] [] .nil .nil) .nil)) (.node [] [] .nil .nil))) (retK Tryz.prog [.tmp 2] K) (nth [v0]) w := by kernel_rfl
theorem S140_ok {v0 : Value} {K : Cont} {w : World} (h : S140 v0 K w) : callK Tryz.prog 140 [v0] K w :=
  callK_of (P := Tryz.prog) (ok := okf) (n := 8) (fn := Tryz.f140) (c := bodyOf Tryz.f140) (rs := [.tmp 2]) (an := (.node [] [] .nil (.node [] [] (.node [] [] .nil (.node [] [] (.node [] [] .nil .nil) .nil)) (.node [] [] .nil .nil)))) good mixed Tryz.func140 (by kernel_rfl) (by kernel_rfl) (by kernel_rfl) (by kernel_rfl) (Eq.mp (S140_eq v0 K w) h)

/-- slices.Grow[[]rubric/api.Op,rubric/api.Op] -/
def S178 (v0 v1 : Value) (K : Cont) (w : World) : Prop :=
  JoinK (fun _vs w1 => ∀ _h : Env,
  runK Tryz.prog (Builtin.cap_ #[31] 3 [v0].toArray) (fun t10 w2 =>
  lenK v0 fun t12 =>
  subK .i64 t10 t12 fun t13 =>
  subK .i64 v1 t13 fun t14 =>
  gtK .i64 t14 (.int .i64 0) fun t16 =>
  condK t16
  (runK Tryz.prog (Builtin.cap_ #[31] 3 [v0].toArray) (fun t19 w3 =>
  runK Tryz.prog (Instr.sliceAt 31 v0 none (some t19) none) (fun t20 w4 =>
  runK Tryz.prog (Builtin.append_ #[31, 3] 31 [t20, t14].toArray) (fun t22 w5 =>
  lenK v0 fun t24 =>
  runK Tryz.prog (Instr.sliceAt 31 t22 none (some t24) none) (fun t25 w6 =>
  K t25 w6) w5) w4) w3) w2)
  (K v0 w2)) w1) (fun J =>
  ltK .i64 v1 (.int .i64 0) fun t6 =>
  condK t6
  (runK Tryz.prog (Instr.makeInterface 9 (.string (ByteArray.mk #[99, 97, 110, 110, 111, 116, 32, 98, 101, 32, 110, 101, 103, 97, 116, 105, 118, 101]))) (fun _t7 w7 =>
  False) w)
  (J [] w))
theorem S178_eq (v0 v1 : Value) (K : Cont) (w : World) : S178 v0 v1 K w = D Tryz.prog okf 27 (bodyOf Tryz.f178) (.node [] [] .nil (.cut [] [(5, 7)] (.node [] [] .nil (.node [] [] .nil .nil)) (.node [] [] (.node [] [] .nil (.node [] [] .nil (.node [] [] .nil .nil))) (.node [] [] .nil .nil)))) (retK Tryz.prog [.tmp 4] K) (nth [v0, v1]) w := by kernel_rfl
theorem S178_ok {v0 v1 : Value} {K : Cont} {w : World} (h : S178 v0 v1 K w) : callK Tryz.prog 178 [v0, v1] K w :=
  callK_of (P := Tryz.prog) (ok := okf) (n := 27) (fn := Tryz.f178) (c := bodyOf Tryz.f178) (rs := [.tmp 4]) (an := (.node [] [] .nil (.cut [] [(5, 7)] (.node [] [] .nil (.node [] [] .nil .nil)) (.node [] [] (.node [] [] .nil (.node [] [] .nil (.node [] [] .nil .nil))) (.node [] [] .nil .nil))))) good mixed Tryz.func178 (by kernel_rfl) (by kernel_rfl) (by kernel_rfl) (by kernel_rfl) (Eq.mp (S178_eq v0 v1 K w) h)

end Go.Proofs.YtlbaopamhkmepaaGreatDoor

namespace Go.K
open Go
theorem clone_g {α : Type} {P : Program} {t e k bytes : Nat} {R : World → List Value → α → Prop} {S : Nat → Prop} {w : World} {v : Value} {l : List α} {K : Cont} (hE : ElemOK P t e k bytes) (h : SlR S k R w v l) (hl : l.length * bytes ≤ 140737488355328)
    (hone : ∀ w r y, R w r y → ∀ u ∈ r, u.oneCell' = true) (hR : ∀ w1 w2 r y, w.heap.size ≤ w1.heap.size → Mod (fun b => w.heap.size ≤ b) w1 w2 → R w1 r y → R w2 r y)
    (hK : ∀ v' w', OwnR w.heap.size e k R w' v' l → Grow w w' → K v' w') :
    snilK v fun b4 => condK (.bool b4) (K (.slice none 0 0) w) (rowK e k 0 [] [] (fun t5 w1 => runK P (Builtin.append_ #[t, t] t [t5, v].toArray) (fun t7 w2 => K t7 w2) w1) w) := by
  obtain ⟨a, c, rfl, hm⟩ := h.shape
  have hk := hE
  obtain ⟨_, _, _, _, _, _, _, _, hk0⟩ := hk
  cases a with
  | none =>
    simp only [KS]
    have : l = [] := by
      cases l with
      | nil => rfl
      | cons x l => obtain ⟨p, r, e, _⟩ := h.get (i := 0) (by simp); cases e
    subst this
    exact hK _ _ OwnR.nil (Mod.refl _ _)
  | some p =>
    simp only [KS]
    refine rowK_empty ?_
    have hg : Grow w (w.alloc (.cells #[] e)) := Mod.alloc _ _ _
    have ho : OwnR w.heap.size e k R (w.alloc (.cells #[] e)) (.slice (some ⟨w.heap.size, 0, none⟩) 0 0) ([] : List α) := OwnR.made (Nat.le_refl _)
    obtain ⟨v', w', h1, h2, h3, h4⟩ := OwnR.append (ty := t) hE ho ((h.old hk0).grow hg hk0 fun r x hx => hR _ _ _ _ (Nat.le_refl _) hg.mod hx) (fun _ _ => hone _ _ _) (by simpa using hl) (by simp) (by simpa using hm) (fun w' hg' r y hy => hR _ _ _ _ hg.size ((Mod.of_grownBy hg').mono fun b _ e => by simp only [Value.ownBlock, Option.some.injEq] at e; omega) hy)
    refine runK_i h1 (hK _ _ ?_ (hg.next (Mod.of_grownBy h3) ?_))
    · refine h2.base fun g hg' => ?_
      rcases h4 g hg' with h | h
      · cases h; exact Nat.le_refl _
      · simp only [World.size_alloc] at h; omega
    · intro b hb e; simp only [Value.ownBlock, Option.some.injEq] at e; omega
theorem condK_neg {p : Prop} [Decidable p] {A B : Prop} (h1 : p → B) (h2 : ¬ p → A) : condK (.bool (!decide p)) A B := by
  by_cases h : p
  · rw [decide_eq_true h]; exact h1 h
  · rw [decide_eq_false h]; exact h2 h
/-- the loop that compares two rows of the same length -/
theorem eq_loop {α : Type} [DecidableEq α] {P : Program} {k : Nat} {R R' : World → List Value → α → Prop} {S S' : Nat → Prop} {w : World} {a b : Option Addr} {ca cb : Nat} {l m : List α} {K : Cont} {bin : Value → Value → Sem Value}
    (ha : SlR S k R w (.slice a l.length ca) l) (hb : SlR S' k R' w (.slice b m.length cb) m) (hlen : l.length = m.length) (hm : l.length ≤ maxLen)
    (hbin : ∀ r r' x y w1, R w r x → R' w r' y → (bin (.agg r.toArray) (.agg r'.toArray)).run P w1 = .ok (.bool (!decide (x = y))) w1)
    (hK : ∀ w', Grow w w' → K (.bool (decide (l = m))) w') :
    LoopK [(.int .i64 0)] (fun vs again w1 => ∀ _ : Env, ltK .i64 (nth vs 0) (.int .i64 l.length) fun t14 => condK t14
      (DrawK w1 (fun C => ixK k (.slice a l.length ca) (nth vs 0) fun t18 => qldnK C k t18 fun t19 => ixK k (.slice b m.length cb) (nth vs 0) fun t22 => qldnK C k t22 fun t23 => qrunK P C (bin t19 t23) fun t24 =>
        ∀ w2 : World, C w2 → condK t24 (K (.bool false) w2) (addK .i64 (nth vs 0) (.int .i64 1) fun t25 => again [t25] w2)))
      (K (.bool true) w1)) w := by
  simp only [maxLen] at hm
  refine LoopK_i (fun vs w' => ∃ k : Nat, k ≤ l.length ∧ vs = [.int .i64 k] ∧ Grow w w' ∧ l.take k = m.take k) (fun vs _ => l.length - iOf vs 0) ⟨0, Nat.zero_le _, rfl, Mod.refl _ _, rfl⟩ ?_
  rintro vs w1 ⟨q, hq, rfl, hg, ht⟩ h
  simp only [KS]
  by_cases hlt : q < l.length
  · rw [if_pos (show (q : Int) < l.length by omega)]
    refine ⟨fun w2 => Grow w1 w2, Mod.drew _ _, ?_⟩
    obtain ⟨p, r, rfl, _, hr, hc, hx⟩ := ha.get hlt
    obtain ⟨p', r', rfl, _, hr', hc', hx'⟩ := hb.get (show q < m.length by omega)
    refine ixK_n hlt (qldnK_i hr (fun w2 h2 j u hu => ?_) ?_)
    · rw [Addr.add_add]; exact h2.cell (hg.cell (hc j u hu) (fun h => h)) (fun h => h)
    refine ixK_n (by omega) (qldnK_i hr' (fun w2 h2 j u hu => ?_) ?_)
    · rw [Addr.add_add]; exact h2.cell (hg.cell (hc' j u hu) (fun h => h)) (fun h => h)
    refine ⟨_, fun w2 _ => hbin _ _ _ _ w2 hx hx', fun w2 h2 => ?_⟩
    simp only [KS]
    by_cases he : l[q] = m[q]
    · rw [if_neg (fun h => h he)]
      refine ⟨⟨q + 1, by omega, by rw [wrap64 (by omega) (by omega)]; rfl, hg.trans h2, ?_⟩, ?_⟩
      · rw [List.take_add_one, List.take_add_one, ht]
        simp [hlt, show q < m.length by omega, he]
      · simp only [iOf, nth, List.headD_cons]; rw [wrap64 (by omega) (by omega)]; omega
    · rw [if_pos he]
      have : decide (l = m) = false := by rw [decide_eq_false_iff_not]; intro e; subst e; exact he rfl
      rw [← this]; exact hK _ (hg.trans h2)
  · rw [if_neg (show ¬ (q : Int) < l.length by omega)]
    have : q = l.length := by omega
    subst this
    rw [List.take_length, hlen, List.take_length] at ht
    have : decide (l = m) = true := by rw [decide_eq_true_eq]; exact ht
    rw [← this]; exact hK _ hg
/-- the same at elements of one cell -/
theorem eq_loop1 {q : IntKind} {R : World → List Value → Int → Prop} {S S' : Nat → Prop} {w : World} {a b : Option Addr} {ca cb : Nat} {l m : List Int} {K : Cont}
    (ha : SlR S 1 R w (.slice a l.length ca) l) (hb : SlR S' 1 R w (.slice b m.length cb) m) (hlen : l.length = m.length) (hm : l.length ≤ maxLen)
    (hRi : ∀ r x, R w r x → r = [.int q x])
    (hK : ∀ w', Grow w w' → K (.bool (decide (l = m))) w') :
    LoopK [(.int .i64 0)] (fun vs again w1 => ∀ _ : Env, ltK .i64 (nth vs 0) (.int .i64 l.length) fun t14 => condK t14
      (DrawK w1 (fun C => ixK 1 (.slice a l.length ca) (nth vs 0) fun t18 => qld1K C t18 fun t19 => ixK 1 (.slice b m.length cb) (nth vs 0) fun t22 => qld1K C t22 fun t23 => neK q t19 t23 fun t24 =>
        ∀ w2 : World, C w2 → condK t24 (K (.bool false) w2) (addK .i64 (nth vs 0) (.int .i64 1) fun t25 => again [t25] w2)))
      (K (.bool true) w1)) w := by
  simp only [maxLen] at hm
  refine LoopK_i (fun vs w' => ∃ k : Nat, k ≤ l.length ∧ vs = [.int .i64 k] ∧ Grow w w' ∧ l.take k = m.take k) (fun vs _ => l.length - iOf vs 0) ⟨0, Nat.zero_le _, rfl, Mod.refl _ _, rfl⟩ ?_
  rintro vs w1 ⟨i, hi, rfl, hg, ht⟩ h
  simp only [KS]
  by_cases hlt : i < l.length
  · rw [if_pos (show (i : Int) < l.length by omega)]
    refine ⟨fun w2 => Grow w1 w2, Mod.drew _ _, ?_⟩
    obtain ⟨p, r, rfl, _, hr, hc, hx⟩ := ha.get hlt
    obtain ⟨p', r', rfl, _, hr', hc', hx'⟩ := hb.get (show i < m.length by omega)
    obtain rfl := hRi _ _ hx
    obtain rfl := hRi _ _ hx'
    refine ixK_n hlt (qld1K_i (v := .int q l[i]) (fun w2 h2 => h2.cell (hg.cell (hc 0 _ rfl) fun h => h) fun h => h) ?_)
    refine ixK_n (by omega) (qld1K_i (v := .int q m[i]) (fun w2 h2 => h2.cell (hg.cell (hc' 0 _ rfl) fun h => h) fun h => h) ?_)
    simp only [KS]
    intro w2 h2
    by_cases he : l[i] = m[i]
    · rw [if_neg (fun h => h he)]
      refine ⟨⟨i + 1, by omega, by rw [wrap64 (by omega) (by omega)]; rfl, hg.trans h2, ?_⟩, ?_⟩
      · rw [List.take_add_one, List.take_add_one, ht]
        simp [hlt, show i < m.length by omega, he]
      · simp only [iOf, nth, List.headD_cons]; rw [wrap64 (by omega) (by omega)]; omega
    · rw [if_pos he]
      have : decide (l = m) = false := by rw [decide_eq_false_iff_not]; intro e; subst e; exact he rfl
      rw [← this]; exact hK _ (hg.trans h2)
  · rw [if_neg (show ¬ (i : Int) < l.length by omega)]
    have : i = l.length := by omega
    subst this
    rw [List.take_length, hlen, List.take_length] at ht
    have : decide (l = m) = true := by rw [decide_eq_true_eq]; exact ht
    rw [← this]; exact hK _ hg
end Go.K
namespace Go.Proofs.YtlbaopamhkmepaaGreatDoor
open Go Go.K
theorem clone_run {S : Nat → Prop} {v : Value} {l : List Int} {w : World} (h : SlR S 1 RRune w v l) (hl : l.length * 4 ≤ 140737488355328) :
    callK Tryz.prog 84 [v] (fun v' w' => OwnR w.heap.size 21 1 RRune w' v' l ∧ Grow w w') w := by
  apply S84_ok
  unfold S84
  exact clone_g elem_rune h hl (fun _ _ _ => RRune.one) (fun _ _ _ _ _ _ h => h) fun v' w' h1 h2 => And.intro h1 h2
theorem clone_pat {S : Nat → Prop} {v : Value} {l : List Chg} {w : World} (h : SlR S 6 RChg w v l) (hl : l.length * 56 ≤ 140737488355328) :
    callK Tryz.prog 140 [v] (fun v' w' => OwnR w.heap.size 111 6 RChg w' v' l ∧ Grow w w') w := by
  apply S140_ok
  unfold S140
  exact clone_g elem_chg h hl (fun _ _ _ => RChg.one) (fun _ _ _ _ _ _ h => h) fun v' w' h1 h2 => And.intro h1 h2
theorem RDops.old {S D : Nat → Prop} {w : World} {v : Value} {l : List Dop} (h : RDops S D w v l) : RDops (fun b => S b ∧ b < w.heap.size) (fun b => D b ∧ b < w.heap.size) w v l :=
  SlR.sub h (fun b hb h => ⟨h, hb⟩) (by decide) fun r x hx => hx.mod (Mod.refl (fun _ => False) _) (fun _ _ _ h => h) fun b hb h => ⟨h, hb⟩
/-- a row of ops of its own; what they hold is what was held -/
theorem clone_dops {S D : Nat → Prop} {v : Value} {l : List Dop} {w : World} (h : RDops S D w v l) (hl : l.length * 88 ≤ 140737488355328) :
    callK Tryz.prog 83 [v] (fun v' w' => OwnR w.heap.size 39 5 (RDop fun b => D b ∧ b < w.heap.size) w' v' l ∧ Grow w w') w := by
  apply S83_ok
  unfold S83
  exact clone_g elem_dop h.old hl (fun _ _ _ => RDop.one) (fun w1 w2 r y hz hm hy => hy.mod hm (fun b _ hd hb => by omega) fun _ _ h => h) fun v' w' h1 h2 => And.intro h1 h2
theorem copy_pat {S : Nat → Prop} {v : Value} {l : List Chg} {w : World} (h : RPat S w v l) (hl : l.length * 56 ≤ 140737488355328) :
    callK Tryz.prog 86 [v] (fun v' w' => OwnR w.heap.size 111 6 RChg w' v' l ∧ Grow w w') w := by
  apply S86_ok
  exact clone_pat h hl
theorem rsame_run {S S' : Nat → Prop} {a b : Value} {l m : List Int} {w : World} (ha : SlR S 1 RRune w a l) (hb : SlR S' 1 RRune w b m) :
    callK Tryz.prog 53 [a, b] (fun v w' => v = .bool (decide (l = m)) ∧ Grow w w') w := by
  apply S53_ok
  unfold S53
  obtain ⟨pa, ca, rfl, hla⟩ := ha.shape
  obtain ⟨pb, cb, rfl, hlb⟩ := hb.shape
  simp only [lenK_i]
  rw [neK_i]
  refine condK_neg (fun hlen => ?_) fun hlen => ?_
  · exact eq_loop1 (K := fun v w' => v = .bool (decide (l = m)) ∧ Grow w w') ha hb (by omega) hla (fun _ _ h => h) fun _ hg => ⟨rfl, hg⟩
  · refine ⟨?_, Mod.refl _ _⟩
    congr 1; symm
    rw [decide_eq_false_iff_not]
    intro e; exact hlen (by rw [e])
theorem eq_pat {S S' : Nat → Prop} {a b : Value} {l m : List Chg} {w : World} (ha : SlR S 6 RChg w a l) (hb : SlR S' 6 RChg w b m) :
    callK Tryz.prog 177 [a, b] (fun v w' => v = .bool (decide (l = m)) ∧ Grow w w') w := by
  apply S177_ok
  unfold S177
  obtain ⟨pa, ca, rfl, hla⟩ := ha.shape
  obtain ⟨pb, cb, rfl, hlb⟩ := hb.shape
  simp only [lenK_i]
  rw [neK_i]
  refine condK_neg (fun hlen => ?_) fun hlen => ?_
  · exact eq_loop (K := fun v w' => v = .bool (decide (l = m)) ∧ Grow w w') (bin := fun x y => binS .neq 111 _ _ x y) ha hb (by omega) hla (fun r r' x y w1 hx hy => by subst hx; subst hy; exact run_ne_chg _ _ _ _ w1) fun _ hg => ⟨rfl, hg⟩
  · refine ⟨?_, Mod.refl _ _⟩
    congr 1; symm
    rw [decide_eq_false_iff_not]
    intro e; exact hlen (by rw [e])
theorem rsame_pat {S S' : Nat → Prop} {a b : Value} {l m : List Chg} {w : World} (ha : SlR S 6 RChg w a l) (hb : SlR S' 6 RChg w b m) :
    callK Tryz.prog 55 [a, b] (fun v w' => v = .bool (decide (l = m)) ∧ Grow w w') w := by
  apply S55_ok
  unfold S55
  obtain ⟨pa, ca, rfl, hla⟩ := ha.shape
  obtain ⟨pb, cb, rfl, hlb⟩ := hb.shape
  simp only [lenK_i]
  rw [neK_i]
  refine condK_neg (fun hlen => ?_) fun hlen => ?_
  · exact eq_loop (K := fun v w' => v = .bool (decide (l = m)) ∧ Grow w w') (bin := fun x y => binS .neq 111 _ _ x y) ha hb (by omega) hla (fun r r' x y w1 hx hy => by subst hx; subst hy; exact run_ne_chg _ _ _ _ w1) fun _ hg => ⟨rfl, hg⟩
  · refine ⟨?_, Mod.refl _ _⟩
    congr 1; symm
    rw [decide_eq_false_iff_not]
    intro e; exact hlen (by rw [e])
theorem same_pat {S S' : Nat → Prop} {a b : Value} {l m : List Chg} {w : World} (ha : RPat S w a l) (hb : RPat S' w b m) :
    callK Tryz.prog 126 [a, b] (fun v w' => v = .bool (decide (l = m)) ∧ Grow w w') w := by
  apply S126_ok
  exact eq_pat ha hb
end Go.Proofs.YtlbaopamhkmepaaGreatDoor

namespace Go.K
open Go
/-- a struct that is handed over, laid in a box -/
theorem boxn_i {t : TypeId} {vs : List Value} {K : Cont} {w : World} (h : ∀ b w1, b = w.heap.size → w1.heap.size = w.heap.size + 1 → Grow w w1 → (∀ j v, vs[j]? = some v → w1.cell? ((⟨b, 0, none⟩ : Addr).add j) = some v) → (∀ j, j < vs.length → Live w1 ((⟨b, 0, none⟩ : Addr).add j)) → K (.pointer (some ⟨b, 0, none⟩)) w1) : boxnK t (.agg vs.toArray) K w := by
  refine ⟨vs, rfl, ?_⟩
  refine h w.heap.size _ rfl (by simp) (Mod.alloc _ _ _) (fun j v hv => cell_box hv) fun j hj => ?_
  have hadd : (⟨w.heap.size, 0, none⟩ : Addr).add j = ⟨w.heap.size, j, none⟩ := by unfold Addr.add; split <;> simp_all
  rw [hadd]
  refine ⟨?_, World.frozen?_alloc_new ..⟩
  rw [World.cell?_alloc_new]; simp [hj]
/-- one that is laid anew and filled -/
theorem newst_i {t : TypeId} {zs vs : List Value} {K : Value → World → Prop} {w : World} (hl : zs.length = vs.length) (h1 : ∀ v ∈ vs, v.oneCell' = true) (h : ∀ b w1, b = w.heap.size → w1.heap.size = w.heap.size + 1 → Grow w w1 → (∀ j v, vs[j]? = some v → w1.cell? ((⟨b, 0, none⟩ : Addr).add j) = some v) → (∀ j, j < vs.length → Live w1 ((⟨b, 0, none⟩ : Addr).add j)) → K (.pointer (some ⟨b, 0, none⟩)) w1) :
    newK t zs (fun t5 w3 => stnK vs.length t5 (.agg vs.toArray) (fun w4 => K t5 w4) w3) w := by
  refine newK_i (stnew hl h1 ?_)
  obtain ⟨vs', e, h2⟩ := boxn_i (t := t) (K := K) (w := w) h
  have : vs = vs' := by
    have := congrArg Value.cells e
    simpa [Value.cells] using this
  subst this
  exact h2
theorem newst_n {t : TypeId} {n : Nat} {zs vs : List Value} {K : Value → World → Prop} {w : World} (hn : vs.length = n) (hl : zs.length = n) (h1 : ∀ v ∈ vs, v.oneCell' = true) (h : ∀ b w1, b = w.heap.size → w1.heap.size = w.heap.size + 1 → Grow w w1 → (∀ j v, vs[j]? = some v → w1.cell? ((⟨b, 0, none⟩ : Addr).add j) = some v) → (∀ j, j < vs.length → Live w1 ((⟨b, 0, none⟩ : Addr).add j)) → K (.pointer (some ⟨b, 0, none⟩)) w1) :
    newK t zs (fun t5 w3 => stnK n t5 (.agg vs.toArray) (fun w4 => K t5 w4) w3) w := by
  subst hn; exact newst_i hl h1 h
theorem callyK_f {P : Program} {ok : Nat → Bool} {g : Nat} {args : List Value} {K : Cont} {w : World} (hok : ok g = true) (h : callK P g args K w) : callyK P ok (.func (.func g) #[] #[]) args K w := .inl ⟨g, [], [], rfl, hok, by simpa using h⟩
theorem sld1_i {St : Addr → Value → Prop} {a : Addr} {v : Value} {k : Value → Prop} (h : St a v) (hk : k v) : sld1 St (.pointer (some a)) k := ⟨a, v, rfl, h, hk⟩
theorem sldn_i {St : Addr → Value → Prop} {m : Nat} {a : Addr} {vs : List Value} {k : Value → Prop} (hl : vs.length = m) (h : ∀ j v, vs[j]? = some v → St (a.add j) v) (hk : k (.agg vs.toArray)) : sldn St m (.pointer (some a)) k := ⟨a, vs, rfl, hl, h, hk⟩
theorem drawK_i {w : World} {F : (World → Prop) → Prop} (C : World → Prop) (h0 : C w.drew) (h : F C) : DrawK w F := ⟨C, h0, h⟩
theorem drawC_i {eff : List Nat} {AN : List (List Nat)} {w0 : World} {F : (Nat → Nat → Prop) → (Nat → Addr → Value → Prop) → Prop} (M : Nat → Nat → Prop) (h : F M (StI eff AN M w0)) : DrawC eff AN w0 F := ⟨M, h⟩
/-- a struct's cells written over -/
theorem setL_over {b : Nat} : ∀ (vs : List Value) (i : Nat) (W : World), (∀ j, i ≤ j → j < i + vs.length → Live W ((⟨b, 0, none⟩ : Addr).add j)) →
    Mod (fun x => x = b) W (setL W ⟨b, 0, none⟩ i vs) ∧ (∀ j u, vs[j]? = some u → (setL W ⟨b, 0, none⟩ i vs).cell? ((⟨b, 0, none⟩ : Addr).add (i + j)) = some u) ∧ (∀ j, j < i → (setL W ⟨b, 0, none⟩ i vs).cell? ((⟨b, 0, none⟩ : Addr).add j) = W.cell? ((⟨b, 0, none⟩ : Addr).add j)) ∧ (∀ a, Live W a → Live (setL W ⟨b, 0, none⟩ i vs) a) := by
  intro vs
  induction vs with
  | nil => intro i W _; exact ⟨Mod.refl _ _, fun j u hu => by simp at hu, fun _ _ => rfl, fun _ h => h⟩
  | cons x vs ih =>
    intro i W hl
    simp only [setL]
    obtain ⟨i1, i2, i3, i4⟩ := ih (i + 1) (W.setCell ((⟨b, 0, none⟩ : Addr).add i) x) (fun j h1 h2 => (hl j (by omega) (by simp; omega)).set _ _)
    refine ⟨(Mod.setCell _ _ _ (by rw [addr0])).trans i1, fun j u hu => ?_, fun j hj => ?_, fun a ha => i4 a (ha.set _ _)⟩
    · cases j with
      | zero =>
        simp at hu; subst hu
        obtain ⟨u', hu'⟩ := Option.isSome_iff_exists.1 (hl i (Nat.le_refl _) (by simp)).1
        exact (i3 i (by omega)).trans (World.cell?_setCell_same _ _ _ hu')
      | succ j =>
        have := i2 j u (by simpa using hu)
        rw [show i + (j + 1) = i + 1 + j by omega]; exact this
    · rw [i3 j (by omega), World.cell?_setCell_other _ _ _ _ (by rw [addr0, addr0]; intro e; simp only [Addr.mk.injEq] at e; omega)]
theorem stn_over {b n : Nat} {vs : List Value} {K : World → Prop} {W : World} (hn : vs.length = n) (h1 : ∀ v ∈ vs, v.oneCell' = true) (hl : ∀ j, j < n → Live W ((⟨b, 0, none⟩ : Addr).add j))
    (hK : ∀ W', Mod (fun x => x = b) W W' → (∀ j u, vs[j]? = some u → W'.cell? ((⟨b, 0, none⟩ : Addr).add j) = some u) → (∀ a, Live W a → Live W' a) → K W') : stnK n (.pointer (some ⟨b, 0, none⟩)) (.agg vs.toArray) K W := by
  obtain ⟨q1, q2, _, q4⟩ := setL_over (b := b) vs 0 W (fun j _ hj => hl j (by omega))
  exact ⟨_, vs, rfl, rfl, hn, h1, fun j hj => hl j hj, hK _ q1 (fun j u hu => by have := q2 j u hu; rwa [Nat.zero_add] at this) q4⟩
/-- a box that is laid anew, with what its type's zero has -/
theorem newz_i {t : TypeId} {zs : List Value} {K : Cont} {w : World} (h : ∀ b w1, b = w.heap.size → w1.heap.size = w.heap.size + 1 → Grow w w1 → (∀ j v, zs[j]? = some v → w1.cell? ((⟨b, 0, none⟩ : Addr).add j) = some v) → (∀ j, j < zs.length → Live w1 ((⟨b, 0, none⟩ : Addr).add j)) → K (.pointer (some ⟨b, 0, none⟩)) w1) : newK t zs K w := by
  refine newK_i ?_
  obtain ⟨vs', e, h2⟩ := boxn_i (t := t) (vs := zs) (K := K) (w := w) h
  have : zs = vs' := by have := congrArg Value.cells e; simpa [Value.cells] using this
  subst this
  exact h2
theorem wrap_range (x : Int) : -9223372036854775808 ≤ IntKind.i64.wrap x ∧ IntKind.i64.wrap x ≤ 9223372036854775807 := by
  have e1 : (2 : Int) ^ IntKind.i64.bits = 18446744073709551616 := by decide
  have e2 : (2 : Int) ^ (IntKind.i64.bits - 1) = 9223372036854775808 := by decide
  simp only [IntKind.wrap, e1, e2, IntKind.signed, Bool.true_and, decide_eq_true_eq]
  split <;> omega
theorem loop_step {n : Nat} (h : (n : Int) + 1 ≤ 9223372036854775807) : Value.int .i64 (IntKind.i64.wrap ((n : Int) + 1)) = .int .i64 ((n + 1 : Nat) : Int) := by
  rw [wrap64 (by omega) (by omega)]; rfl
theorem iOf0 {q : IntKind} {n : Int} {r : List Value} : iOf (.int q n :: r) 0 = n.toNat := rfl
theorem iOf1 {a : Value} {q : IntKind} {n : Int} {r : List Value} : iOf (a :: .int q n :: r) 1 = n.toNat := rfl
end Go.K
namespace Go.Proofs.YtlbaopamhkmepaaGreatDoor
open Go Go.K

def MayR (r : Int) : Prop := 0 ≤ r ∧ r < 55296 ∨ 57344 ≤ r ∧ r ≤ 1114111
instance (r : Int) : Decidable (MayR r) := by unfold MayR; infer_instance
/-- an op's right form, runes and all -/
def FormO (o : Dop) : Prop := (o.kind = 1 ∧ o.runes = [] ∧ o.set = [] ∧ 1 ≤ o.n ∧ o.n ≤ 536870912) ∨ (o.kind = 3 ∧ o.runes = [] ∧ o.set = [] ∧ o.patch = [] ∧ 1 ≤ o.n ∧ o.n ≤ 536870912) ∨
  (o.kind = 2 ∧ (∀ r ∈ o.runes, MayR r) ∧ o.n = 0 ∧ o.patch = [] ∧ 1 ≤ o.runes.length ∧ o.runes.length ≤ 536870912)
instance (o : Dop) : Decidable (FormO o) := by unfold FormO; infer_instance
theorem len0 {α : Type} {l : List α} : ((l.length : Int) = 0) ↔ l = [] := by
  constructor
  · intro h; exact List.eq_nil_of_length_eq_zero (by omega)
  · rintro rfl; rfl
theorem FormO.form1 {o : Dop} (h : FormO o) : (o.kind = 1 ∧ o.runes = [] ∧ o.set = [] ∧ 1 ≤ o.n ∧ o.n ≤ 536870912) ∨ (o.kind = 3 ∧ o.runes = [] ∧ o.set = [] ∧ o.patch = [] ∧ 1 ≤ o.n ∧ o.n ≤ 536870912) ∨ (o.kind = 2 ∧ o.n = 0 ∧ o.patch = [] ∧ o.runes ≠ []) := by
  rcases h with h | h | h
  · exact .inl h
  · exact .inr (.inl h)
  · refine .inr (.inr ⟨h.1, h.2.2.1, h.2.2.2.1, fun e => ?_⟩)
    have := h.2.2.2.2.1
    rw [e] at this; simp at this

/-- an op's length -/
def lenO (o : Dop) : Int := if o.kind = 2 then o.runes.length else o.n
/-- sums, as the program reckons them -/
def sumW (f : Dop → Int) (x : List Dop) : Int := x.foldl (fun s o => IntKind.i64.wrap (s + f o)) 0
theorem sumW_take {f : Dop → Int} {x : List Dop} {k : Nat} (h : k < x.length) : sumW f (x.take (k + 1)) = IntKind.i64.wrap (sumW f (x.take k) + f x[k]) := by
  rw [List.take_add_one, List.getElem?_eq_getElem h]
  simp only [sumW, List.foldl_append, Option.toList, List.foldl_cons, List.foldl_nil]
def takesF (o : Dop) : Int := if o.kind = 2 then 0 else o.n
def makesF (o : Dop) : Int := if o.kind = 3 then 0 else lenO o
end Go.Proofs.YtlbaopamhkmepaaGreatDoor

namespace Go.K
open Go
/-- a slice from a place on -/
theorem slice_lo {α : Type} {P : Program} {t e k : Nat} {i : TypeInfo} {R : World → List Value → α → Prop} {S : Nat → Prop} {w : World} {a : Option Addr} {n c : Nat} {l : List α} {j : Nat} {K : Cont} (ht : P.underlying t = some (.slice e)) (hi : P.info? e = some i) (hk : i.size = k)
    (h : SlR S k R w (.slice a n c) l) (hj : j ≤ l.length) (hK : ∀ v', SlR S k R w v' (l.drop j) → K v' w) : runK P (Instr.sliceAt t (.slice a n c) (some (.int .i64 j)) none none) K w := by
  obtain ⟨a', c', e1, h1, h2, h3⟩ := h
  cases e1
  have hel : P.elem t = e := by simp [Program.elem, ht]
  refine ⟨sliced a j l.length c k, w, ?_, hK _ ?_⟩
  · rw [run_sliceAt_slice _ _ _ _ _ _ (by rw [hel]; exact ht), run_slice_l _ _ _ _ _ (by rw [hel]; exact ht) _ _ (by omega) (by omega), hel]
    simp [sizeOf, typeInfo, hi, hk]
  · unfold sliced
    refine ⟨_, _, by rw [List.length_drop], by rw [List.length_drop]; omega, by omega, fun q x hx => ?_⟩
    rw [List.getElem?_drop] at hx
    obtain ⟨p, r, rfl, hS, hr, hc, hR⟩ := h3 _ x hx
    have hlt := (List.getElem?_eq_some_iff.1 hx).1
    rw [if_neg (by omega)]
    refine ⟨p.add (j * k), r, rfl, by rw [add_block]; exact hS, hr, fun m u hu => ?_, hR⟩
    rw [Addr.add_add, ← Nat.add_assoc, ← Nat.add_mul]
    exact hc m u hu
/-- a slice up to a place -/
theorem slice_hi {α : Type} {P : Program} {t e k : Nat} {i : TypeInfo} {R : World → List Value → α → Prop} {S : Nat → Prop} {w : World} {a : Option Addr} {n c : Nat} {l : List α} {j : Nat} {K : Cont} (ht : P.underlying t = some (.slice e)) (hi : P.info? e = some i) (hk : i.size = k)
    (h : SlR S k R w (.slice a n c) l) (hj : j ≤ l.length) (hK : ∀ v', SlR S k R w v' (l.take j) → K v' w) : runK P (Instr.sliceAt t (.slice a n c) none (some (.int .i64 j)) none) K w := by
  obtain ⟨a', c', e1, h1, h2, h3⟩ := h
  cases e1
  have hel : P.elem t = e := by simp [Program.elem, ht]
  refine ⟨sliced a 0 j c k, w, ?_, hK _ ?_⟩
  · rw [run_sliceAt_slice _ _ _ _ _ _ (by rw [hel]; exact ht), run_slice_h _ _ _ _ _ (by rw [hel]; exact ht) _ _ (by omega) (by omega), hel]
    simp [sizeOf, typeInfo, hi, hk]
  · unfold sliced
    have hl : (l.take j).length = j := by simp; omega
    refine ⟨_, _, by rw [hl, Nat.sub_zero], by rw [hl]; omega, by omega, fun q x hx => ?_⟩
    rw [List.getElem?_take] at hx
    split at hx
    · obtain ⟨p, r, rfl, hS, hr, hc, hR⟩ := h3 _ x hx
      rw [if_neg (by omega)]
      refine ⟨p.add (0 * k), r, rfl, by rw [add_block]; exact hS, hr, fun m u hu => ?_, hR⟩
      rw [Addr.add_add, Nat.zero_mul, Nat.zero_add]
      exact hc m u hu
    · cases hx
end Go.K
namespace Go.Proofs.YtlbaopamhkmepaaGreatDoor
open Go Go.K
abbrev RByte : World → List Value → Int → Prop := fun _ r x => r = [.int .u8 x]
abbrev RBytes (S : Nat → Prop) (w : World) (v : Value) (l : List Int) : Prop := SlR S 1 RByte w v l
def bytesL (s : ByteArray) : List Int := s.data.toList.map fun b => (b.toNat : Int)
/-- how many bytes a rune has -/
def oneLen (r : Int) : Nat := if r < 128 then 1 else if r < 2048 then 2 else if r < 65536 then 3 else 4
theorem rowK_i {e k len : Nat} {zero : List Value} {parts : List (Nat × Value)} {cs : List Value} {K : Cont} {w : World} (hf : Instr.fill (fun i => some (i * k, k)) ((Array.range (len * k)).map (zero.toArray[· % zero.toArray.size]!)) parts = some cs.toArray) (h : K (.slice (some ⟨w.heap.size, 0, none⟩) len len) (w.alloc (.cells cs.toArray e))) : rowK e k len zero parts K w := ⟨_, hf, h⟩
/-- the rune that bytes begin with, as the document reckons it -/
def nextHead (b0 : Int) : Option (Nat × Int) :=
  if 240 ≤ b0 then some (4, IntKind.i32.wrap (IntKind.i32.wrap b0 - 240)) else if 224 ≤ b0 then some (3, IntKind.i32.wrap (IntKind.i32.wrap b0 - 224)) else if 192 ≤ b0 then some (2, IntKind.i32.wrap (IntKind.i32.wrap b0 - 192))
  else if 128 ≤ b0 then none else some (1, IntKind.i32.wrap b0)
def contB (b : List Int) : Nat → Nat → Int → Option Int
  | 0, _, r => some r
  | k + 1, i, r => match b[i]? with
    | some c => if c < 128 ∨ 191 < c then none else contB b k (i + 1) (IntKind.i32.wrap (IntKind.i32.wrap (IntKind.i32.wrap (r * 64) + IntKind.i32.wrap c) - 128))
    | none => none
def nextB (b : List Int) : Int × Nat := match nextHead (b.headD 0) with
  | none => (0, 0)
  | some (n, r) => if b.length < n then (0, 0) else match contB b (n - 1) 1 r with
    | none => (0, 0)
    | some r => if MayR r ∧ oneLen r = n then (r, n) else (0, 0)
theorem nextHead_n {b0 r : Int} {n : Nat} (h : nextHead b0 = some (n, r)) : 1 ≤ n ∧ n ≤ 4 := by
  unfold nextHead at h
  split at h
  · cases h; omega
  split at h
  · cases h; omega
  split at h
  · cases h; omega
  split at h
  · cases h
  · cases h; omega
theorem nextB_len (b : List Int) : (nextB b).2 ≤ b.length ∧ (nextB b).2 ≤ 4 := by
  unfold nextB
  split
  · exact ⟨Nat.zero_le _, Nat.zero_le _⟩
  · rename_i n r h
    have := nextHead_n h
    split
    · exact ⟨Nat.zero_le _, Nat.zero_le _⟩
    · split
      · exact ⟨Nat.zero_le _, Nat.zero_le _⟩
      · split <;> simp only <;> omega
end Go.Proofs.YtlbaopamhkmepaaGreatDoor

namespace Go.K
open Go
theorem push_g2 {α : Type} {P : Program} {t e k bytes B : Nat} {R : World → List Value → α → Prop} {w : World} {v : Value} {l : List α} {x : α} {zero : List Value} {parts : List (Nat × Value)} {cs : List Value} {K : Cont} (hE : ElemOK P t e k bytes) (h : OwnR B e k R w v l) (hB : B ≤ w.heap.size)
    (hf : Instr.fill (fun i => some (i * k, k)) ((Array.range (1 * k)).map (zero.toArray[· % zero.toArray.size]!)) parts = some cs.toArray) (hcs : cs.length = k) (hx : R w cs x) (hone : ∀ w r y, R w r y → ∀ u ∈ r, u.oneCell' = true)
    (hR : ∀ w1 w2 r y, w.heap.size ≤ w1.heap.size → Mod (fun b => v.ownBlock = some b ∨ w.heap.size ≤ b) w1 w2 → R w1 r y → R w2 r y) (hlen : (l.length + 1) * bytes ≤ 140737488355328) (hlm : l.length + 1 ≤ maxLen)
    {Q1 : World → Prop} {Q2 : World → World → Prop} (hQ1 : ∀ w1, Grow w w1 → Q1 w1)
    (hK : ∀ w1 v' w', OwnR B e k R w' v' (l ++ [x]) → Mod (fun b => v.ownBlock = some b) w1 w' → Mod (fun b => v.ownBlock = some b) w w' → (∀ g, v'.ownBlock = some g → v.ownBlock = some g ∨ w.heap.size ≤ g) → Q2 w1 w' ∧ K v' w') :
    rowK e k 1 zero parts (fun s w1 => Q1 w1 ∧ runK P (Builtin.append_ #[t, t] t [v, s].toArray) (fun v' w' => Q2 w1 w' ∧ K v' w') w1) w := by
  refine ⟨_, hf, ?_⟩
  have hg : Grow w (w.alloc (.cells cs.toArray e)) := Mod.alloc _ _ _
  have hc : ∀ j u, cs[j]? = some u → (w.alloc (.cells cs.toArray e)).cell? ((⟨w.heap.size, 0, none⟩ : Addr).add j) = some u := fun j u hu => cell_box hu
  have hz : (w.alloc (.cells cs.toArray e)).heap.size = w.heap.size + 1 := by simp
  generalize w.alloc (.cells cs.toArray e) = w1 at hg hc hz ⊢
  have h' : OwnR B e k R w1 v l := OwnR.mod h hg (fun _ _ h => h) fun r y _ hy => hR _ _ _ _ (Nat.le_refl _) hg.mod hy
  have hs : SlR (fun _ => True) k R w1 (.slice (some ⟨w.heap.size, 0, none⟩) 1 1) [x] := by
    refine ⟨_, 1, rfl, Nat.le_refl _, by simp [maxLen], fun i y hy => ?_⟩
    have hi : i = 0 := by have := (List.getElem?_eq_some_iff.1 hy).1; simp at this; exact this
    subst hi
    simp at hy; subst hy
    exact ⟨_, cs, rfl, trivial, hcs, fun j u hu => by rw [Nat.zero_mul, Nat.zero_add]; exact hc j u hu, hR _ _ _ _ (Nat.le_refl _) hg.mod hx⟩
  obtain ⟨v', w', h1, h2, h3, h4⟩ := OwnR.append (ty := t) hE h' hs (fun _ _ => hone _ _ _) (by simpa using hlen) (by omega) (by simpa using hlm) (fun w2 hg' r y hy => hR _ _ _ _ (by omega) ((Mod.of_grownBy hg').mono fun b _ e => .inl e) hy)
  refine ⟨hQ1 _ hg, runK_i h1 (hK w1 v' w' h2 (Mod.of_grownBy h3) (hg.mod.next (Mod.of_grownBy h3) fun _ _ h => h) fun g hg' => ?_)⟩
  rcases h4 g hg' with h | h
  · exact .inl h
  · exact .inr (by omega)
theorem push_g {α : Type} {P : Program} {t e k bytes B : Nat} {R : World → List Value → α → Prop} {w : World} {v : Value} {l : List α} {x : α} {zero : List Value} {parts : List (Nat × Value)} {cs : List Value} {K : Cont} (hE : ElemOK P t e k bytes) (h : OwnR B e k R w v l) (hB : B ≤ w.heap.size)
    (hf : Instr.fill (fun i => some (i * k, k)) ((Array.range (1 * k)).map (zero.toArray[· % zero.toArray.size]!)) parts = some cs.toArray) (hcs : cs.length = k) (hx : R w cs x) (hone : ∀ w r y, R w r y → ∀ u ∈ r, u.oneCell' = true)
    (hR : ∀ w1 w2 r y, w.heap.size ≤ w1.heap.size → Mod (fun b => v.ownBlock = some b ∨ w.heap.size ≤ b) w1 w2 → R w1 r y → R w2 r y) (hlen : (l.length + 1) * bytes ≤ 140737488355328) (hlm : l.length + 1 ≤ maxLen)
    (hK : ∀ v' w', OwnR B e k R w' v' (l ++ [x]) → Mod (fun b => v.ownBlock = some b) w w' → (∀ g, v'.ownBlock = some g → v.ownBlock = some g ∨ w.heap.size ≤ g) → K v' w') :
    rowK e k 1 zero parts (fun s w1 => runK P (Builtin.append_ #[t, t] t [v, s].toArray) K w1) w := by
  obtain ⟨c, h1, _, v', w', h2, _, h3⟩ := push_g2 (t := t) (K := K) (Q1 := fun _ => True) (Q2 := fun _ _ => True) hE h hB hf hcs hx hone hR hlen hlm (fun _ _ => trivial) fun w1 v' w' k1 _ k2 k3 => ⟨trivial, hK v' w' k1 k2 k3⟩
  exact ⟨c, h1, v', w', h2, h3⟩
/-- adding behind, told of the world in which the function began -/
theorem push_n {α : Type} {P : Program} {t e k bytes : Nat} {R : World → List Value → α → Prop} {w0 w : World} {v : Value} {l : List α} {x : α} {zero : List Value} {parts : List (Nat × Value)} {cs : List Value} {K : Cont} (hE : ElemOK P t e k bytes) (h : OwnR w0.heap.size e k R w v l) (hg : Grow w0 w)
    (hf : Instr.fill (fun i => some (i * k, k)) ((Array.range (1 * k)).map (zero.toArray[· % zero.toArray.size]!)) parts = some cs.toArray) (hcs : cs.length = k) (hx : R w cs x) (hone : ∀ w r y, R w r y → ∀ u ∈ r, u.oneCell' = true)
    (hR : ∀ w1 w2 r y, w.heap.size ≤ w1.heap.size → Mod (fun b => v.ownBlock = some b ∨ w.heap.size ≤ b) w1 w2 → R w1 r y → R w2 r y) (hlen : (l.length + 1) * bytes ≤ 140737488355328) (hlm : l.length + 1 ≤ maxLen)
    (hK : ∀ v' w', OwnR w0.heap.size e k R w' v' (l ++ [x]) → Grow w0 w' → K v' w') :
    rowK e k 1 zero parts (fun s w1 => runK P (Builtin.append_ #[t, t] t [v, s].toArray) K w1) w :=
  push_g hE h hg.size hf hcs hx hone hR hlen hlm fun v' w' h1 h2 _ => hK v' w' h1 (hg.next h2 fun b hb e => by have := (OwnR.ownB h b e).1; omega)
end Go.K
namespace Go.Proofs.YtlbaopamhkmepaaGreatDoor
open Go Go.K

def readF : Nat → List Int → Option (List Int)
  | 0, b => if b = [] then some [] else none
  | f + 1, b => if b = [] then some [] else if (nextB b).2 = 0 then none else (readF f (b.drop (nextB b).2)).map ((nextB b).1 :: ·)
def readB (b : List Int) : Option (List Int) := readF b.length b
theorem readF_fuel : ∀ (f g : Nat) (b : List Int), b.length ≤ f → b.length ≤ g → readF f b = readF g b := by
  intro f
  induction f with
  | zero =>
    intro g b hf hg
    have : b = [] := List.eq_nil_of_length_eq_zero (by omega)
    subst this
    cases g <;> simp [readF]
  | succ f ih =>
    intro g b hf hg
    cases g with
    | zero =>
      have : b = [] := List.eq_nil_of_length_eq_zero (by omega)
      subst this
      simp [readF]
    | succ g =>
      simp only [readF]
      split
      · rfl
      · split
        · rfl
        · rw [ih g _ (by simp; omega) (by simp; omega)]
theorem readB_cons {b : List Int} (hb : b ≠ []) : readB b = if (nextB b).2 = 0 then none else (readB (b.drop (nextB b).2)).map ((nextB b).1 :: ·) := by
  unfold readB
  obtain ⟨n, hn⟩ : ∃ n, b.length = n + 1 := ⟨b.length - 1, by have := List.length_pos_iff.2 hb; omega⟩
  rw [hn]
  simp only [readF, if_neg hb]
  split
  · rfl
  · rw [readF_fuel n _ _ (by simp; omega) (Nat.le_refl _)]
end Go.Proofs.YtlbaopamhkmepaaGreatDoor

namespace Go.Proofs.YtlbaopamhkmepaaGreatDoor
open Go Go.K

theorem cell_allocF (W : World) (c : Array Value) (t : TypeId) (fr : Nat × Nat) (i : Nat) : (W.alloc (.cells c t fr)).cell? ⟨W.heap.size, i, none⟩ = c[i]? := by
  have h : (W.alloc (.cells c t fr)).heap[W.heap.size]? = some (.cells c t fr) := heap_alloc_new W _
  unfold World.cell?
  simp only [h]
  rfl
theorem strbytes {s : ByteArray} {K : Cont} {w : World} (hs : s.size * 4 ≤ 140737488355328) (hK : ∀ v w', Grow w w' → RBytes (fun _ => True) w' v (bytesL s) → K v w') : runK Tryz.prog (convert 9 70 (.string s)) K w := by
  refine ⟨_, _, run_bytes_of_string w _ _ 5 s (by kernel_rfl) (by kernel_rfl) (by kernel_rfl), hK _ _ ((Mod.drew (fun _ => False) w).trans (Mod.alloc _ _ _)) ?_⟩
  have hl : (bytesL s).length = s.size := by simp [bytesL]
  have hm : s.size ≤ maxLen := by simp only [maxLen]; omega
  refine ⟨_, _, by rw [hl], by rw [hl]; exact grownCap_ge _ _ _ _, grownCap_le_maxLen _ _ _ _ hm, fun i x hx => ⟨_, [.int .u8 x], rfl, trivial, rfl, fun j u hu => ?_, rfl⟩⟩
  have hj : j = 0 := by have := (List.getElem?_eq_some_iff.1 hu).1; simp at this; exact this
  subst hj
  simp at hu; subst hu
  rw [addr0, Nat.mul_one, Nat.add_zero]
  have hi := (List.getElem?_eq_some_iff.1 hx).1
  rw [hl] at hi
  have hx' : x = ((s.data[i]'hi).toNat : Int) := by
    simp only [bytesL, List.getElem?_map, Array.getElem?_toList] at hx
    rw [Array.getElem?_eq_getElem hi] at hx
    simpa using hx.symm
  subst hx'
  have hs2 : i < s.data.size := hi
  refine (cell_allocF w.drew _ _ _ i).trans ?_
  simp [bytesRow, Array.getElem?_append, hi]
/-- bits that say that it is no number -/
def NoNum (f : Int) : Prop := 9218868437227405312 < f.tmod 9223372036854775808
instance (f : Int) : Decidable (NoNum f) := by unfold NoNum; infer_instance
def noS : ByteArray := ByteArray.mk #[]
/-- a value that may be -/
def ValOK (v : AVal) : Prop := (v.kind = 1 ∧ v = ⟨1, v.n, 0, noS⟩ ∧ (v.n = 0 ∨ v.n = 1)) ∨ (v.kind = 2 ∧ v = ⟨2, v.n, 0, noS⟩) ∨ (v.kind = 3 ∧ v = ⟨3, 0, v.f, noS⟩ ∧ (¬ NoNum v.f ∨ v.f = 9221120237041090560)) ∨
  (v.kind = 4 ∧ v = ⟨4, 0, 0, v.s⟩ ∧ v.s.size ≤ 64 ∧ (readB (bytesL v.s)).isSome = true)
instance (v : AVal) : Decidable (ValOK v) := by unfold ValOK; infer_instance
theorem AVal.one (v : AVal) : ∀ u ∈ v.cells, u.oneCell' = true := by
  intro u hu
  simp only [AVal.cells, List.mem_cons, List.not_mem_nil, or_false] at hu
  rcases hu with rfl | rfl | rfl | rfl <;> rfl
/-! ### keys -/
def DKey.zero : DKey := ⟨0, false, 0, false, false, 0⟩
def findK (keys : List DKey) (id : Int) : Option DKey := keys.find? fun k => decide (k.id = id)
def FitsK (keys : List DKey) (id : Int) (v : AVal) : Prop := ∃ k, findK keys id = some k ∧ ValOK v ∧ v.kind = k.kind
end Go.Proofs.YtlbaopamhkmepaaGreatDoor

namespace Go.Proofs.YtlbaopamhkmepaaGreatDoor
open Go Go.K

/-- keys that rise, up to a place -/
def RisN {α : Type} (key : α → Int) (l : List α) (n : Nat) : Prop := ∀ i, 1 ≤ i → i < n → ∀ a b, l[i - 1]? = some a → l[i]? = some b → key a < key b
abbrev RisA (l : List Attr) : Prop := RisN Attr.key l l.length
abbrev RisC (l : List Chg) : Prop := RisN Chg.key l l.length
/-- why a set may not be -/
def SetBad (l : List Attr) : Prop := ¬ RisA l ∨ 64 < l.length ∨ ∃ a ∈ l, ¬ ValOK a.val
def SetNoKey (keys : List DKey) (l : List Attr) : Prop := ∃ a ∈ l, ¬ FitsK keys a.key a.val
open Classical in
noncomputable def maySet (keys : List DKey) (l : List Attr) : Int := if SetBad l then 3 else if SetNoKey keys l then 4 else 0
def AVal.zero : AVal := ⟨0, 0, 0, noS⟩
def PatBad (p : List Chg) : Prop := ¬ RisC p ∨ 64 < p.length ∨ ∃ c ∈ p, (c.gone = true ∧ c.val ≠ AVal.zero) ∨ (c.gone = false ∧ ¬ ValOK c.val)
def PatNoKey (keys : List DKey) (p : List Chg) : Prop := ∃ c ∈ p, findK keys c.key = none ∨ (c.gone = false ∧ ¬ FitsK keys c.key c.val)
open Classical in
noncomputable def mayPat (keys : List DKey) (p : List Chg) : Int := if PatBad p then 3 else if PatNoKey keys p then 4 else 0
end Go.Proofs.YtlbaopamhkmepaaGreatDoor

namespace Go.Proofs.YtlbaopamhkmepaaGreatDoor
open Go Go.K

def KeyOK (k : DKey) : Prop := 1 ≤ k.id ∧ k.id ≤ 1000 ∧ 1 ≤ k.kind ∧ k.kind ≤ 4 ∧ 0 ≤ k.group ∧ k.group ≤ 8 ∧ (k.block = false → k.group = 0) ∧ (k.block = true → k.before = false)
def MayN (keys : List DKey) (n : Nat) : Prop := ∀ i, i < n → ∀ k, keys[i]? = some k → KeyOK k ∧ ∀ j, j < i → ∀ k', keys[j]? = some k' → k'.id ≠ k.id
def MayKeys (keys : List DKey) : Prop := keys.length ≤ 64 ∧ MayN keys keys.length
def szA (l : List Attr) : Nat := (l.map fun a => a.val.s.size).sum
def szC (l : List Chg) : Nat := (l.map fun a => a.val.s.size).sum
theorem mSet_eq (l : List Attr) : mSet l = l.length + szA l := by
  induction l with
  | nil => rfl
  | cons a l ih => simp only [mSet, szA, List.map_cons, List.sum_cons, List.length_cons, mAttr] at ih ⊢; omega
theorem mPat_eq (l : List Chg) : mPat l = l.length + szC l := by
  induction l with
  | nil => rfl
  | cons a l ih => simp only [mPat, szC, List.map_cons, List.sum_cons, List.length_cons, mChg] at ih ⊢; omega
theorem mDops_mem {l : List Dop} {o : Dop} (h : o ∈ l) : mDop o ≤ mDops l := by
  induction l with
  | nil => simp at h
  | cons a l ih =>
    have e : mDops (a :: l) = mDop a + mDops l := by simp [mDops]
    rcases List.mem_cons.1 h with rfl | h
    · omega
    · have := ih h; omega
theorem mDops_len (l : List Dop) : l.length ≤ mDops l := by
  induction l with
  | nil => exact Nat.zero_le _
  | cons a l ih => simp only [mDops, List.map_cons, List.sum_cons, List.length_cons, mDop] at ih ⊢; omega
theorem mDops_le (l : List Dop) (k : Nat) : mDops (l.take k) ≤ mDops l := by
  have : mDops l = mDops (l.take k) + mDops (l.drop k) := by
    conv => lhs; rw [← List.take_append_drop k l]
    simp only [mDops, List.map_append, List.sum_append]
  omega
end Go.Proofs.YtlbaopamhkmepaaGreatDoor

namespace Go.Proofs.YtlbaopamhkmepaaGreatDoor
open Go Go.K

structure MkS where
  done : List Dop
  ins : List Dop
  gone : Int
def MkS.z : MkS := ⟨[], [], 0⟩
def gapL (ins : List Dop) (gone : Int) : List Dop := if 0 < gone then ins ++ [⟨3, gone, [], [], []⟩] else ins
def putS (d : List Dop) (n : Int) (p : List Chg) : List Dop :=
  match d.getLast? with
  | some o => if o.kind = 1 ∧ o.patch = p then d.set (d.length - 1) ⟨o.kind, IntKind.i64.wrap (o.n + n), o.runes, o.set, o.patch⟩ else d ++ [⟨1, n, [], [], p⟩]
  | none => d ++ [⟨1, n, [], [], p⟩]
def retS (s : MkS) (n : Int) (p : List Chg) : MkS := if n < 1 then s else ⟨putS (s.done ++ gapL s.ins s.gone) n p, [], 0⟩
def addI (ins : List Dop) (rs : List Int) (set : List Attr) : List Dop :=
  match ins.getLast? with
  | some o => if o.set = set then ins.set (ins.length - 1) ⟨o.kind, o.n, o.runes ++ rs, o.set, o.patch⟩ else ins ++ [⟨2, 0, rs, set, []⟩]
  | none => ins ++ [⟨2, 0, rs, set, []⟩]
def insS (s : MkS) (rs : List Int) (set : List Attr) : MkS := if rs = [] then s else ⟨s.done, addI s.ins rs set, s.gone⟩
def delS (s : MkS) (n : Int) : MkS := ⟨s.done, s.ins, IntKind.i64.wrap (s.gone + maxI n 0)⟩
def stepS (s : MkS) (o : Dop) : MkS := if o.kind = 1 then retS s o.n o.patch else if o.kind = 2 then insS s o.runes o.set else delS s o.n
def trimL (l : List Dop) : List Dop := match l.getLast? with | some o => if o.kind = 1 ∧ o.patch = [] then l.dropLast else l | none => l
def opsS (s : MkS) : List Dop := trimL (s.done ++ gapL s.ins s.gone)
def runS (x : List Dop) : MkS := x.foldl stepS MkS.z
def normB (x : List Dop) : List Dop := opsS (runS x)

/-! ### the document's -/
/-- an op's right form -/
def Form1 (o : Dop) : Prop := (o.kind = 1 ∧ o.runes = [] ∧ o.set = [] ∧ 1 ≤ o.n ∧ o.n ≤ 536870912) ∨ (o.kind = 3 ∧ o.runes = [] ∧ o.set = [] ∧ o.patch = [] ∧ 1 ≤ o.n ∧ o.n ≤ 536870912) ∨ (o.kind = 2 ∧ o.n = 0 ∧ o.patch = [] ∧ o.runes ≠ [])
/-! ### what is canonical -/
inductive InsC : List Dop → Prop
  | nil : InsC []
  | snoc (i : List Dop) (rs : List Int) (set : List Attr) (h : InsC i) (hr : rs ≠ []) (hs : ∀ q, i.getLast? = some q → q.set ≠ set) : InsC (i ++ [⟨2, 0, rs, set, []⟩])
inductive DoneC : List Dop → Prop
  | nil : DoneC []
  | snoc (d ins : List Dop) (gone n : Int) (p : List Chg) (h : DoneC d) (hi : InsC ins) (hg : 0 ≤ gone) (hb : gone ≤ 4611686018427387904) (hn : 1 ≤ n) (hp : ins = [] → gone = 0 → ∀ q, d.getLast? = some q → q.patch ≠ p) : DoneC (d ++ gapL ins gone ++ [⟨1, n, [], [], p⟩])
theorem InsC.add {ins : List Dop} (h : InsC ins) {rs : List Int} (hr : rs ≠ []) (set : List Attr) : InsC (addI ins rs set) := by
  cases h with
  | nil => exact InsC.snoc [] rs set .nil hr fun q hq => by simp at hq
  | snoc i rs' set' h hr' hs =>
    unfold addI
    simp only [List.getLast?_append, List.getLast?_singleton, Option.some_or]
    by_cases e : set' = set
    · rw [if_pos e]
      have : (i ++ [(⟨2, 0, rs', set', []⟩ : Dop)]).set ((i ++ [(⟨2, 0, rs', set', []⟩ : Dop)]).length - 1) ⟨2, 0, rs' ++ rs, set', []⟩ = i ++ [⟨2, 0, rs' ++ rs, set', []⟩] := by simp
      rw [this]
      exact InsC.snoc i _ set' h (by simp [hr']) hs
    · rw [if_neg e]
      exact InsC.snoc _ rs set (InsC.snoc i rs' set' h hr' hs) hr fun q hq => by
        simp only [List.getLast?_append, List.getLast?_singleton, Option.some_or, Option.some.injEq] at hq
        subst hq; exact e
theorem InsC.kinds {ins : List Dop} (h : InsC ins) : ∀ o ∈ ins, o.kind = 2 := by
  induction h with
  | nil => intro o ho; simp at ho
  | snoc i rs set h hr hs ih =>
    intro o ho
    rcases List.mem_append.1 ho with ho | ho
    · exact ih o ho
    · simp at ho; subst ho; rfl
theorem InsC.run {ins : List Dop} (h : InsC ins) (d : List Dop) (g : Int) : ins.foldl stepS ⟨d, [], g⟩ = ⟨d, ins, g⟩ := by
  induction h with
  | nil => rfl
  | snoc i rs set h hr hs ih =>
    rw [List.foldl_append, ih]
    simp only [List.foldl_cons, List.foldl_nil, stepS, show ¬ (2 : Int) = 1 by decide, if_true, if_false, insS, if_neg hr, addI]
    cases e : i.getLast? with
    | none => rfl
    | some q => simp only; rw [if_neg (hs q e)]
theorem gapL_last {ins : List Dop} {gone : Int} (h : InsC ins) : ∀ o, (gapL ins gone).getLast? = some o → o.kind ≠ 1 := by
  intro o ho
  unfold gapL at ho
  split at ho
  · simp only [List.getLast?_append, List.getLast?_singleton, Option.some_or, Option.some.injEq] at ho
    subst ho; intro h; cases h
  · have := h.kinds o (List.mem_of_getLast? ho)
    omega
theorem gapL_nil {ins : List Dop} {gone : Int} (h0 : 0 ≤ gone) (h : gapL ins gone = []) : ins = [] ∧ gone = 0 := by
  unfold gapL at h
  split at h
  · simp at h
  · exact ⟨h, by omega⟩
theorem last_app {d g : List Dop} : (d ++ g).getLast? = match g.getLast? with | some o => some o | none => d.getLast? := by
  rw [List.getLast?_append]; cases g.getLast? <;> rfl
theorem gap_run {ins : List Dop} (h : InsC ins) (d : List Dop) {g : Int} (hg : 0 ≤ g) (hb : g ≤ 4611686018427387904) : (gapL ins g).foldl stepS ⟨d, [], 0⟩ = ⟨d, ins, g⟩ := by
  unfold gapL
  split
  · rw [List.foldl_append, h.run]
    simp only [List.foldl_cons, List.foldl_nil, stepS, show ¬ (3 : Int) = 1 by decide, show ¬ (3 : Int) = 2 by decide, if_false, delS]
    have : maxI g 0 = g := by unfold maxI; rw [if_neg (by omega)]
    rw [this, wrap64 (by omega) (by omega)]
    congr 1; omega
  · rw [h.run]; congr 1; omega
theorem put_new {d g : List Dop} {n : Int} {p : List Chg} (h1 : ∀ o, g.getLast? = some o → o.kind ≠ 1) (h2 : g = [] → ∀ q, d.getLast? = some q → q.patch ≠ p) : putS (d ++ g) n p = d ++ g ++ [⟨1, n, [], [], p⟩] := by
  unfold putS
  rw [last_app]
  cases e : g.getLast? with
  | some o => simp only; rw [if_neg (fun h => h1 o e h.1)]
  | none =>
    have : g = [] := List.getLast?_eq_none_iff.1 e
    subst this
    simp only [List.append_nil]
    cases e2 : d.getLast? with
    | none => rfl
    | some q => simp only; rw [if_neg (fun h => h2 rfl q e2 h.2)]
theorem DoneC.run {d : List Dop} (h : DoneC d) : d.foldl stepS MkS.z = ⟨d, [], 0⟩ := by
  induction h with
  | nil => rfl
  | snoc d ins gone n p h hi hg hb hn hp ih =>
    rw [List.foldl_append, List.foldl_append, ih, gap_run hi d hg hb]
    simp only [List.foldl_cons, List.foldl_nil, stepS, if_true, retS, if_neg (show ¬ n < 1 by omega)]
    rw [put_new (gapL_last hi) fun e => hp (gapL_nil hg e).1 (gapL_nil hg e).2]
def sumN (l : List Dop) : Int := (l.map (·.n)).sum
theorem sumN_app (l m : List Dop) : sumN (l ++ m) = sumN l + sumN m := by simp [sumN]
theorem sumN_one (o : Dop) : sumN [o] = o.n := by simp [sumN]
theorem InsC.sum {ins : List Dop} (h : InsC ins) : sumN ins = 0 := by
  induction h with
  | nil => rfl
  | snoc i rs set h hr hs ih => rw [sumN_app, sumN_one, ih]; rfl
theorem gapL_sum {ins : List Dop} {g : Int} (h : InsC ins) (hg : 0 ≤ g) : sumN (gapL ins g) = g := by
  unfold gapL; split
  · rw [sumN_app, sumN_one, h.sum]; simp
  · rw [h.sum]; omega
theorem DoneC.nn {d : List Dop} (h : DoneC d) : 0 ≤ sumN d := by
  induction h with
  | nil => simp [sumN]
  | snoc d ins gone n p h hi hg hb hn hp ih => rw [sumN_app, sumN_app, sumN_one, gapL_sum hi hg]; simp only; omega
structure Canon (s : MkS) (t : Int) : Prop where
  done : DoneC s.done
  ins : InsC s.ins
  gone : 0 ≤ s.gone
  sum : sumN s.done + s.gone = t
theorem Canon.step {s : MkS} {t : Int} (h : Canon s t) {o : Dop} (ho : Form1 o) (ht : t + o.n ≤ 4611686018427387904) : Canon (stepS s o) (t + o.n) := by
  obtain ⟨done, ins, gone⟩ := s
  obtain ⟨h1, h2, h3, h4⟩ := h
  simp only at h1 h2 h3 h4
  obtain ⟨k, n, rs, set, p⟩ := o
  have hnn := h1.nn
  rcases ho with ⟨e1, e2, e3, e4, e5⟩ | ⟨e1, e2, e3, e4, e5, e6⟩ | ⟨e1, e2, e3, e4⟩
  · simp only at e1 e2 e3 e4 e5 ht
    subst e1
    simp only [stepS, if_true, retS, if_neg (show ¬ n < 1 by omega)]
    have key : DoneC (putS (done ++ gapL ins gone) n p) ∧ sumN (putS (done ++ gapL ins gone) n p) = t + n := by
      by_cases hgap : gapL ins gone = []
      · obtain ⟨e8, e9⟩ := gapL_nil h3 hgap
        subst e8; subst e9
        rw [hgap, List.append_nil]
        cases h1 with
        | nil => exact ⟨DoneC.snoc [] [] 0 n p .nil .nil (by omega) (by omega) e4 fun _ _ q hq => by simp at hq, by simp only [putS, List.getLast?_nil, sumN_app, sumN_one] at h4 ⊢; omega⟩
        | snoc d ins gone n' p' h hi hg hb hn hp =>
          unfold putS
          rw [List.getLast?_append, List.getLast?_singleton, Option.some_or]
          simp only [true_and]
          rw [sumN_app, sumN_app, sumN_one, gapL_sum hi hg] at h4
          simp only at h4
          have hdn := h.nn
          by_cases e : p' = p
          · rw [if_pos e]
            have e10 : (d ++ gapL ins gone ++ [(⟨1, n', [], [], p'⟩ : Dop)]).set ((d ++ gapL ins gone ++ [(⟨1, n', [], [], p'⟩ : Dop)]).length - 1) ⟨1, IntKind.i64.wrap (n' + n), [], [], p'⟩ = d ++ gapL ins gone ++ [⟨1, IntKind.i64.wrap (n' + n), [], [], p'⟩] := by
              rw [List.set_append_right _ _ (by simp)]; simp
            rw [e10, wrap64 (by omega) (by omega)]
            refine ⟨DoneC.snoc d ins gone (n' + n) p' h hi hg hb (by omega) hp, ?_⟩
            rw [sumN_app, sumN_app, sumN_one, gapL_sum hi hg]; simp only; omega
          · rw [if_neg e]
            have := DoneC.snoc (d ++ gapL ins gone ++ [⟨1, n', [], [], p'⟩]) [] 0 n p (DoneC.snoc d ins gone n' p' h hi hg hb hn hp) .nil (by omega) (by omega) e4 fun _ _ q hq => by
              rw [List.getLast?_append, List.getLast?_singleton, Option.some_or] at hq; cases hq; exact e
            simp only [gapL, show ¬ (0 : Int) < 0 by decide, if_false, List.append_nil] at this
            refine ⟨this, ?_⟩
            simp only [sumN_app, sumN_one, gapL_sum hi hg]; omega
      · rw [put_new (gapL_last h2) fun e => (hgap e).elim]
        refine ⟨DoneC.snoc done ins gone n p h1 h2 h3 (by omega) e4 fun e8 e9 => (hgap (by subst e8; subst e9; rfl)).elim, ?_⟩
        rw [sumN_app, sumN_app, sumN_one, gapL_sum h2 h3]; simp only; omega
    exact ⟨key.1, .nil, by simp, by simp only; omega⟩
  · simp only at e1 e2 e3 e4 e5 e6 ht
    subst e1
    simp only [stepS, show ¬ (3 : Int) = 1 by decide, show ¬ (3 : Int) = 2 by decide, if_false, delS]
    have : maxI n 0 = n := by unfold maxI; rw [if_neg (by omega)]
    rw [this, wrap64 (by omega) (by omega)]
    exact ⟨h1, h2, by simp only; omega, by simp only; omega⟩
  · simp only at e1 e2 e3 e4 ht
    subst e1; subst e2
    simp only [stepS, show ¬ (2 : Int) = 1 by decide, if_true, if_false, insS, if_neg e4]
    exact ⟨h1, h2.add e4 set, h3, by simp only; omega⟩
theorem Form1.nn {o : Dop} (h : Form1 o) : 0 ≤ o.n ∧ o.n ≤ 536870912 := by
  rcases h with ⟨_, _, _, h, h'⟩ | ⟨_, _, _, _, h, h'⟩ | ⟨_, h, _⟩ <;> omega
theorem DoneC.last {d : List Dop} (h : DoneC d) : ∀ q, d.getLast? = some q → q.kind = 1 := by
  cases h with
  | nil => intro q hq; simp at hq
  | snoc d ins gone n p h hi hg hb hn hp =>
    intro q hq
    rw [List.getLast?_append, List.getLast?_singleton, Option.some_or] at hq; cases hq; rfl
end Go.Proofs.YtlbaopamhkmepaaGreatDoor

namespace Go.Proofs.YtlbaopamhkmepaaGreatDoor
open Go Go.K

def OpsBad (keys : List DKey) (x : List Dop) : Prop := (∃ o ∈ x, ¬ FormO o ∨ maySet keys o.set = 3 ∨ mayPat keys o.patch = 3) ∨ 536870912 < sumW takesF x ∨ 536870912 < sumW makesF x
def OpsNoKey (keys : List DKey) (x : List Dop) : Prop := ∃ o ∈ x, maySet keys o.set ≠ 0 ∨ mayPat keys o.patch ≠ 0
open Classical in
noncomputable def mayOps (keys : List DKey) (x : List Dop) : Int := if OpsBad keys x then 3 else if OpsNoKey keys x then 4 else 0
def TameX (keys : List DKey) (x : List Dop) : Prop := keys.length ≤ 64 ∧ mDops x ≤ 20000 ∧ MayKeys keys ∧ mayOps keys x = 0
theorem TameX.forms {keys : List DKey} {x : List Dop} (h : TameX keys x) : ∀ o ∈ x, FormO o := by
  intro o ho
  have := h.2.2.2
  unfold mayOps at this
  split at this
  · cases this
  · rename_i hb
    cases Classical.em (FormO o) with
    | inl h => exact h
    | inr h => exact (hb (.inl ⟨o, ho, .inl h⟩)).elim
theorem FormO.f1 {o : Dop} (h : FormO o) : Form1 o := by
  rcases h.form1 with h | h | h
  · exact .inl h
  · exact .inr (.inl h)
  · exact .inr (.inr h)
theorem TameX.form1 {keys : List DKey} {x : List Dop} (h : TameX keys x) : ∀ o ∈ x, Form1 o := fun o ho => (h.forms o ho).f1

/-! ### ops.Same -/
end Go.Proofs.YtlbaopamhkmepaaGreatDoor

namespace Go.K
open Go
theorem OwnR.conv {α : Type} {B e k : Nat} {R0 R : World → List Value → α → Prop} {w : World} {g n c : Nat} {l : List α} (h : OwnR B e k R0 w (.slice (some ⟨g, 0, none⟩) n c) l)
    (hR : ∀ i (hi : i < l.length) (r : List Value), r.length = k → (∀ u ∈ r, u.oneCell' = true) → (∀ q u, r[q]? = some u → w.cell? ⟨g, i * k + q, none⟩ = some u) → R w r l[i]) : OwnR B e k R w (.slice (some ⟨g, 0, none⟩) n c) l := by
  obtain ⟨rows, h1, h2, h3, h4⟩ := h
  have hrl : ∀ r ∈ rows, r.length = k := fun r hr => (h3 r hr).1
  have hn : n = l.length := by
    rcases h1.2 with ⟨h', _⟩ | ⟨g', cap', cur, h', _⟩
    · simp at h'
    · simp only [Value.slice.injEq] at h'; exact h'.2.1
  subst hn
  refine ⟨rows, h1, h2, h3, fun i r x hr hx => ?_⟩
  have hi : i < l.length := (List.getElem?_eq_some_iff.1 hx).1
  have hx' : x = l[i] := by rw [List.getElem?_eq_getElem hi] at hx; exact (Option.some.inj hx).symm
  subst hx'
  have hm := List.mem_of_getElem? hr
  refine hR i hi r (hrl r hm) (h3 r hm).2 fun q u hu => ?_
  have hq : q < k := by rw [← hrl r hm]; exact (List.getElem?_eq_some_iff.1 hu).1
  have hlt : i * k + q < l.length * k := by
    have : (i + 1) * k ≤ l.length * k := Nat.mul_le_mul_right _ hi
    rw [Nat.add_mul] at this; omega
  have := h1.cellAt _ hlt
  rw [flat_get rows i q r hrl hr hq] at this
  rw [← hu]; exact this
theorem OwnR.any {α : Type} {B e k : Nat} {R0 : World → List Value → α → Prop} {w : World} {v : Value} {l : List α} (h : OwnR B e k R0 w v l) : OwnR B e k (fun _ _ _ => True) w v l := by
  obtain ⟨rows, h1, h2, h3, _⟩ := h
  exact ⟨rows, h1, h2, h3, fun _ _ _ _ _ => trivial⟩
theorem OwnR.setAny {α : Type} {B e k : Nat} {w : World} {g n c : Nat} {l : List α} (h : OwnR B e k (fun _ _ _ => True) w (.slice (some ⟨g, 0, none⟩) n c) l) {i j : Nat} (hi : i < l.length) (hj : j < k) {u : Value} (hu : u.oneCell' = true) :
    OwnR B e k (fun _ _ _ => True) (w.setCell ⟨g, i * k + j, none⟩ u) (.slice (some ⟨g, 0, none⟩) n c) l := by
  have hs := (OwnR.store (R' := fun _ _ _ => True) (x' := l[i]) h hi hj hu (fun _ _ _ _ => trivial) fun _ _ => trivial).2.2.1
  have e : l.set i l[i] = l := List.set_getElem_self hi
  rw [e] at hs
  have hadd : (⟨g, 0, none⟩ : Addr).add (i * k + j) = ⟨g, i * k + j, none⟩ := by unfold Addr.add; split <;> simp_all
  rw [hadd] at hs
  exact hs
theorem setA (W : World) (g o : Nat) (u : Value) : Mod (fun b => b = g) W (W.setCell ⟨g, o, none⟩ u) := Mod.setCell _ _ _ rfl
theorem OwnR.cellsOf {α : Type} {B e k : Nat} {R : World → List Value → α → Prop} {w : World} {g n c : Nat} {l : List α} (h : OwnR B e k R w (.slice (some ⟨g, 0, none⟩) n c) l) {i : Nat} (hi : i < l.length) :
    ∃ r, r.length = k ∧ (∀ q u, r[q]? = some u → w.cell? ⟨g, i * k + q, none⟩ = some u) ∧ R w r l[i] ∧ ∀ q, q < k → Live w ⟨g, i * k + q, none⟩ := by
  obtain ⟨p, r, e1, _, hr, hc, hR⟩ := (OwnR.sl h).get hi
  cases e1
  have hadd : ∀ q, (⟨g, 0, none⟩ : Addr).add (i * k + q) = ⟨g, i * k + q, none⟩ := fun q => by unfold Addr.add; split <;> simp_all
  refine ⟨r, hr, fun q u hu => by rw [← hadd]; exact hc q u hu, hR, fun q hq => ?_⟩
  obtain ⟨g', e2, _, hl⟩ := OwnR.live h hi hq
  cases e2
  rw [hadd] at hl; exact hl
end Go.K
namespace Go.Proofs.YtlbaopamhkmepaaGreatDoor
open Go Go.K

/-- the cells of an op at a place of a row -/
def OpAt (W : World) (g j : Nat) (o : Dop) (rv sv pv : Value) : Prop := ∀ q u, [Value.int .u8 o.kind, .int .i64 o.n, rv, sv, pv][q]? = some u → W.cell? ⟨g, j * 5 + q, none⟩ = some u
theorem OpAt.cong {W W' : World} {g j : Nat} {o : Dop} {rv sv pv : Value} (h : OpAt W g j o rv sv pv) (hW : ∀ q, q < 5 → W'.cell? ⟨g, j * 5 + q, none⟩ = W.cell? ⟨g, j * 5 + q, none⟩) : OpAt W' g j o rv sv pv := by
  intro q u hu
  have := (List.getElem?_eq_some_iff.1 hu).1
  simp only [List.length_cons, List.length_nil] at this
  rw [hW q (by omega)]; exact h q u hu
theorem copy_dops {S D : Nat → Prop} {v : Value} {x : List Dop} {w : World} (h : RDops S D w v x) (hb : mDops x ≤ 1099511627776) :
    callK Tryz.prog 49 [v] (fun v' w' => ODops w.heap.size w' v' x ∧ Grow w w') w := by
  apply S49_ok
  unfold S49
  have hxl := mDops_len x
  refine callK_mono (clone_dops h (by omega)) ?_
  rintro v1 w1 ⟨o1, g1⟩
  obtain ⟨a1, c1, rfl, hc1, hcm, hp, hn⟩ := OwnR.shape o1
  simp only [maxLen] at hcm
  rw [lenK_i]
  cases a1 with
  | none =>
    have := hn rfl
    subst this
    refine LoopK_i (fun vs w2 => vs = [.int .i64 0] ∧ w2 = w1) (fun _ _ => 0) ⟨rfl, rfl⟩ ?_
    rintro vs _ ⟨rfl, rfl⟩ _
    rename World => w1
    rw [nth_z, List.headD_cons, ltK_i]
    exact condK_p (fun h => by simp at h) fun _ => ⟨OwnR.mod o1 (Mod.refl (fun _ => False) _) (fun _ _ h => h) fun r y hy => by simp at hy, g1⟩
  | some p1 =>
    obtain ⟨g, rfl, hg1, hg2, _⟩ := hp _ rfl
    have hsz : ∀ o ∈ x, o.runes.length * 4 ≤ 140737488355328 ∧ o.set.length * 48 ≤ 140737488355328 ∧ o.patch.length * 56 ≤ 140737488355328 := by
      intro o ho
      have := mDops_mem ho
      simp only [mDop, mSet_eq, mPat_eq] at this
      omega
    -- what the row has, i ops done
    let F : Nat → Prop := fun b => w.heap.size ≤ b ∧ b ≠ g
    let D0 : Nat → Prop := fun b => D b ∧ b < w.heap.size
    let Inv : Nat → World → Prop := fun i W => OwnR w.heap.size 39 5 (fun _ _ _ => True) W (.slice (some ⟨g, 0, none⟩) x.length c1) x ∧ Mod (fun b => b = g) w1 W ∧
      ∀ j (hj : j < x.length), ∃ rv sv pv, OpAt W g j x[j] rv sv pv ∧ (j < i → ODop F W [.int .u8 x[j].kind, .int .i64 x[j].n, rv, sv, pv] x[j]) ∧ (i ≤ j → RDop D0 W [.int .u8 x[j].kind, .int .i64 x[j].n, rv, sv, pv] x[j])
    have inv0 : Inv 0 w1 := by
      refine ⟨o1.any, Mod.refl _ _, fun j hj => ?_⟩
      obtain ⟨r, hr, hcl, ho, _⟩ := OwnR.cellsOf o1 hj
      obtain ⟨rv, sv, pv, rfl, q1, q2, q3⟩ := ho
      exact ⟨rv, sv, pv, hcl, fun h => by omega, fun _ => ⟨rv, sv, pv, rfl, q1, q2, q3⟩⟩
    have hz1 := g1.size
    refine LoopK_i (fun vs W => ∃ i : Nat, i ≤ x.length ∧ vs = [.int .i64 i] ∧ Inv i W) (fun vs _ => x.length - iOf vs 0) ⟨0, Nat.zero_le _, rfl, inv0⟩ ?_
    rintro vs w2 ⟨i, hi, rfl, hinv⟩ _
    rw [nth_z, List.headD_cons, ltK_i]
    refine condK_p (fun hlt => ?_) fun hge => ?_
    · have hlt' : i < x.length := by omega
      obtain ⟨oA, mA, rows⟩ := hinv
      have hz2 := mA.size
      obtain ⟨rv, sv, pv, hat, _, hrd⟩ := rows i hlt'
      obtain ⟨_, _, _, e, q1, q2, q3⟩ := hrd (Nat.le_refl _)
      simp only [List.cons.injEq, and_true, true_and] at e
      obtain ⟨rfl, rfl, rfl⟩ := e
      have hmem : x[i] ∈ x := by simp
      obtain ⟨z1, z2, z3⟩ := hsz _ hmem
      have gd : Grow w2 w2.drew := Mod.drew _ _
      refine drawC_i (fun k b => (k = 26 ∨ k = 29 ∨ k = 32) ∧ b = g) ?_
      -- the loads are of cells that the stores turn, which wait for them
      have ld : ∀ q u, [Value.int .u8 x[i].kind, .int .i64 x[i].n, rv, sv, pv][q]? = some u → w2.drew.cell? ((⟨g, 0, none⟩ : Addr).add (i * 5 + q)) = some u := fun q u hu => by rw [addr0]; exact hat q u hu
      have lv : ∀ q, q < 5 → Live w2 ⟨g, i * 5 + q, none⟩ := by
        obtain ⟨_, _, _, _, hl⟩ := OwnR.cellsOf oA hlt'
        exact hl
      refine ixK_n hlt' ?_
      rw [faK_i, Addr.add_add]
      refine sld1_i ⟨ld 2 _ rfl, fun j hj h => by rcases h with ⟨rfl | rfl | rfl, _⟩ <;> exact absurd hj (by decide)⟩ ?_
      refine callK_mono (clone_run (q1.grow gd (by decide) fun _ _ h => h) z1) ?_
      rintro t1 w3 ⟨n1, g3⟩
      refine ⟨Grow.mod g3, ?_⟩
      have g23 := gd.trans g3
      refine ixK_n hlt' ?_
      rw [faK_i, Addr.add_add]
      refine sld1_i ⟨ld 3 _ rfl, fun j hj h => by rcases h with ⟨rfl | rfl | rfl, _⟩ <;> exact absurd hj (by decide)⟩ ?_
      refine callK_mono (copy_set (q2.grow g23 (by decide) fun _ _ h => h) z2) ?_
      rintro t2 w4 ⟨n2, g4⟩
      refine ⟨Grow.mod g4, ?_⟩
      have g24 := g23.trans g4
      refine ixK_n hlt' ?_
      rw [faK_i, Addr.add_add]
      refine sld1_i ⟨ld 4 _ rfl, fun j hj h => by rcases h with ⟨rfl | rfl | rfl, _⟩ <;> exact absurd hj (by decide)⟩ ?_
      refine callK_mono (copy_pat (q3.grow g24 (by decide) fun _ _ h => h) z3) ?_
      rintro t3 w5 ⟨n3, g5⟩
      refine ⟨Grow.mod g5, ?_⟩
      have g25 := g24.trans g5
      have hz5 := g25.size
      have zd : w2.drew.heap.size = w2.heap.size := rfl
      have hz3 := g3.size
      have hz4 := g4.size
      have lv5 : ∀ q, q < 5 → Live w5 ⟨g, i * 5 + q, none⟩ := fun q hq => (lv q hq).mod g25 fun h => h
      have n1' : OwnR 0 21 1 RRune w5 t1 x[i].runes := OwnR.base (OwnR.mod n1 (g4.trans g5) (fun _ _ h => h) fun _ _ _ h => h) fun _ _ => Nat.zero_le _
      have n2' : OSet 0 w5 t2 x[i].set := OwnR.base (OwnR.mod n2 g5 (fun _ _ h => h) fun _ _ _ h => h) fun _ _ => Nat.zero_le _
      have n3' : OwnR 0 111 6 RChg w5 t3 x[i].patch := OwnR.base n3 fun _ _ => Nat.zero_le _
      have b1 : ∀ b, t1.ownBlock = some b → F b := fun b hb => by have := (OwnR.ownB n1 b hb).1; exact ⟨by omega, by omega⟩
      have b2 : ∀ b, t2.ownBlock = some b → F b := fun b hb => by have := (OwnR.ownB n2 b hb).1; exact ⟨by omega, by omega⟩
      have b3 : ∀ b, t3.ownBlock = some b → F b := fun b hb => by have := (OwnR.ownB n3 b hb).1; exact ⟨by omega, by omega⟩
      have oA5 : OwnR w.heap.size 39 5 (fun _ _ _ => True) w5 (.slice (some ⟨g, 0, none⟩) x.length c1) x := OwnR.mod oA g25 (fun _ _ h => h) fun _ _ _ _ => trivial
      have ht1 := OwnR.one n1'
      have ht2 := OwnR.one n2'
      have ht3 := OwnR.one n3'
      refine ixK_n hlt' ?_
      rw [faK_i, Addr.add_add, addr0]
      refine (lv5 2 (by decide)).st ht1.1 ht1.2 ⟨Mod.setCell _ _ _ ⟨.inl rfl, rfl⟩, ?_⟩
      refine ixK_n hlt' ?_
      rw [faK_i, Addr.add_add, addr0]
      refine ((lv5 3 (by decide)).set _ _).st ht2.1 ht2.2 ⟨Mod.setCell _ _ _ ⟨.inr (.inl rfl), rfl⟩, ?_⟩
      refine ixK_n hlt' ?_
      rw [faK_i, Addr.add_add, addr0]
      refine (((lv5 4 (by decide)).set _ _).set _ _).st ht3.1 ht3.2 ⟨Mod.setCell _ _ _ ⟨.inr (.inr rfl), rfl⟩, ?_⟩
      rw [addK_i, loop_step (by omega)]
      refine ⟨⟨i + 1, hlt', rfl, ?_⟩, by rw [iOf0, iOf0]; omega⟩
      have oA6 := OwnR.setAny (OwnR.setAny (OwnR.setAny oA5 hlt' (show 2 < 5 by decide) ht1.1) hlt' (show 3 < 5 by decide) ht2.1) hlt' (show 4 < 5 by decide) ht3.1
      have m56 : Mod (fun b => b = g) w5 (((w5.setCell ⟨g, i * 5 + 2, none⟩ t1).setCell ⟨g, i * 5 + 3, none⟩ t2).setCell ⟨g, i * 5 + 4, none⟩ t3) := ((setA _ _ _ _).trans (setA _ _ _ _)).trans (setA _ _ _ _)
      have oth : ∀ j q, q < 5 → (j ≠ i ∨ q < 2) → (((w5.setCell ⟨g, i * 5 + 2, none⟩ t1).setCell ⟨g, i * 5 + 3, none⟩ t2).setCell ⟨g, i * 5 + 4, none⟩ t3).cell? ⟨g, j * 5 + q, none⟩ = w5.cell? ⟨g, j * 5 + q, none⟩ := by
        intro j q hq hj
        have ne : ∀ q', q' < 5 → 2 ≤ q' → (⟨g, i * 5 + q', none⟩ : Addr) ≠ ⟨g, j * 5 + q, none⟩ := by
          intro q' h1 h2 e
          simp only [Addr.mk.injEq, and_true, true_and] at e
          omega
        rw [World.cell?_setCell_other _ _ _ _ (ne 4 (by omega) (by omega)), World.cell?_setCell_other _ _ _ _ (ne 3 (by omega) (by omega)), World.cell?_setCell_other _ _ _ _ (ne 2 (by omega) (by omega))]
      have same : ∀ j q u, w2.cell? ⟨g, j * 5 + q, none⟩ = some u → w5.cell? ⟨g, j * 5 + q, none⟩ = some u := fun j q u hu => g25.cell hu fun h => h
      generalize hW : (((w5.setCell ⟨g, i * 5 + 2, none⟩ t1).setCell ⟨g, i * 5 + 3, none⟩ t2).setCell ⟨g, i * 5 + 4, none⟩ t3) = W at oA6 m56 oth ⊢
      refine ⟨oA6, mA.trans ((Grow.mod g25).trans m56), fun j hj => ?_⟩
      by_cases hji : j = i
      · subst hji
        refine ⟨t1, t2, t3, fun q u hu => ?_, fun _ => ⟨t1, t2, t3, rfl, own_mod ⟨n1', b1⟩ m56 (fun b _ hb e => hb.2 e) (fun _ _ h => h) fun _ _ h => h, own_mod ⟨n2', b2⟩ m56 (fun b _ hb e => hb.2 e) (fun _ _ h => h) fun _ _ h => h, own_mod ⟨n3', b3⟩ m56 (fun b _ hb e => hb.2 e) (fun _ _ h => h) fun _ _ h => h⟩, fun h => by omega⟩
        have hq := (List.getElem?_eq_some_iff.1 hu).1
        simp only [List.length_cons, List.length_nil] at hq
        have ne : ∀ q q', q ≠ q' → (⟨g, j * 5 + q', none⟩ : Addr) ≠ ⟨g, j * 5 + q, none⟩ := by
          intro q q' h e
          simp only [Addr.mk.injEq, and_true, true_and] at e
          omega
        have some5 : ∀ q, q < 5 → ∃ u, w5.cell? ⟨g, j * 5 + q, none⟩ = some u := fun q hq => Option.isSome_iff_exists.1 (lv5 q hq).1
        rw [← hW]
        match q, hq, hu with
        | 0, _, hu => rw [hW, oth j 0 (by omega) (.inr (by omega))]; exact same _ _ _ (hat 0 u hu)
        | 1, _, hu => rw [hW, oth j 1 (by omega) (.inr (by omega))]; exact same _ _ _ (hat 1 u hu)
        | 2, _, hu =>
          simp only [List.getElem?_cons_succ, List.getElem?_cons_zero, Option.some.injEq] at hu; subst hu
          obtain ⟨u', hu'⟩ := some5 2 (by omega)
          rw [World.cell?_setCell_other _ _ _ _ (ne 2 4 (by decide)), World.cell?_setCell_other _ _ _ _ (ne 2 3 (by decide))]
          exact World.cell?_setCell_same _ _ _ hu'
        | 3, _, hu =>
          simp only [List.getElem?_cons_succ, List.getElem?_cons_zero, Option.some.injEq] at hu; subst hu
          obtain ⟨u', hu'⟩ := some5 3 (by omega)
          rw [World.cell?_setCell_other _ _ _ _ (ne 3 4 (by decide))]
          exact World.cell?_setCell_same _ _ _ ((World.cell?_setCell_other _ _ _ _ (ne 3 2 (by decide))).trans hu')
        | 4, _, hu =>
          simp only [List.getElem?_cons_succ, List.getElem?_cons_zero, Option.some.injEq] at hu; subst hu
          obtain ⟨u', hu'⟩ := some5 4 (by omega)
          exact World.cell?_setCell_same _ _ _ ((World.cell?_setCell_other _ _ _ _ (ne 4 3 (by decide))).trans ((World.cell?_setCell_other _ _ _ _ (ne 4 2 (by decide))).trans hu'))
      · obtain ⟨rv', sv', pv', hat', hod', hrd'⟩ := rows j hj
        refine ⟨rv', sv', pv', OpAt.cong (W := w5) (fun q u hu => same _ _ _ (hat' q u hu)) fun q hq => oth j q hq (.inl hji), fun h => ?_, fun h => ?_⟩
        · exact (ODop.mod (hod' (by omega)) (D' := F) g25 (fun _ _ _ h => h) fun _ _ h => h).mod m56 (fun b _ hb e => hb.2 e) fun _ _ h => h
        · exact (RDop.mod (hrd' (by omega)) (D' := D0) g25 (fun _ _ _ h => h) fun _ _ h => h).mod m56 (fun b _ hb e => by have := hb.2; omega) fun _ _ h => h
    · have : i = x.length := by omega
      subst this
      obtain ⟨oA, mA, rows⟩ := hinv
      refine ⟨OwnR.conv oA fun j hj r hr hone hcl => ?_, g1.next mA fun b hb e => by omega⟩
      obtain ⟨rv, sv, pv, hat, hod, _⟩ := rows j hj
      have e : r = [.int .u8 x[j].kind, .int .i64 x[j].n, rv, sv, pv] := by
        refine List.ext_getElem? fun q => ?_
        by_cases hq : q < 5
        · have h1 : r[q]? = some r[q] := List.getElem?_eq_getElem (by omega)
          have h2 : ([Value.int .u8 x[j].kind, .int .i64 x[j].n, rv, sv, pv])[q]? = some ([Value.int .u8 x[j].kind, .int .i64 x[j].n, rv, sv, pv])[q] := List.getElem?_eq_getElem (by simpa using hq)
          have h3 := hcl q _ h1
          rw [hat q _ h2] at h3
          rw [h1, h2, h3]
        · rw [List.getElem?_eq_none (by omega), List.getElem?_eq_none (by simp; omega)]
      subst e
      exact (hod hj).mod (Mod.refl (fun _ => False) _) (fun _ _ _ h => h) fun b _ hb => ⟨hb.1, fun e => hb.2 (by simpa [Value.ownBlock] using e.symm)⟩
end Go.Proofs.YtlbaopamhkmepaaGreatDoor

namespace Go.K
open Go
theorem cap_run {P : Program} {t ty e : TypeId} {a : Option Addr} {n c : Nat} {w : World} (ht : P.underlying t = some (.slice e)) : (Builtin.cap_ #[t] ty #[.slice a n c]).run P w = .ok (.int .i64 c) w := by
  simp [Builtin.cap_, run_underlying ht, goInt]
theorem sliceHi_run {P : Program} {t e k : Nat} {i : TypeInfo} {a : Option Addr} {n c h : Nat} {w : World} (ht : P.underlying t = some (.slice e)) (hi : P.info? e = some i) (hk : i.size = k) (hh : h ≤ c) :
    (Instr.sliceAt t (.slice a n c) none (some (.int .i64 h)) none).run P w = .ok (.slice (if c = 0 then a else a.map (·.add (0 * k))) h c) w := by
  have hel : P.elem t = e := by simp [Program.elem, ht]
  rw [run_sliceAt_slice _ _ _ _ _ _ (by rw [hel]; exact ht), run_slice_h _ _ _ _ _ (by rw [hel]; exact ht) _ _ (by omega) (by omega), hel]
  simp [sizeOf, typeInfo, hi, hk, sliced]
end Go.K
namespace Go.Proofs.YtlbaopamhkmepaaGreatDoor
open Go Go.K

theorem grow_nil {n : Nat} {w : World} (hn : n * 88 ≤ 140737488355328) (R : World → List Value → Dop → Prop) :
    callK Tryz.prog 178 [.slice none 0 0, .int .i64 n] (fun v' w' => OwnR w.heap.size 39 5 R w' v' [] ∧ Grow w w') w := by
  apply S178_ok
  unfold S178
  refine JoinK_i (fun vs w1 => w1 = w) ?_ ?_
  · rintro vs _ rfl _
    rename World => w
    refine runK_i (cap_run (e := 39) (by kernel_rfl)) ?_
    rw [lenK_i, subK_i, subK_i, gtK_i]
    have e0 : IntKind.i64.wrap ((n : Int) - IntKind.i64.wrap (((0 : Nat) : Int) - ((0 : Nat) : Int))) = n := by rw [wrap64 (x := ((0 : Nat) : Int) - ((0 : Nat) : Int)) (by omega) (by omega), wrap64 (by omega) (by omega)]; omega
    rw [e0]
    refine condK_p (fun hp => ?_) fun _ => ⟨OwnR.nil, Mod.refl _ _⟩
    refine runK_i (cap_run (e := 39) (by kernel_rfl)) ?_
    refine runK_i (sliceHi_run (e := 39) (i := Tryz.t39) (k := 5) (h := 0) (by kernel_rfl) (by kernel_rfl) (by kernel_rfl) (Nat.le_refl _)) ?_
    simp only [if_true]
    obtain ⟨i, z, h1, h2, h3, h4, h5, h6, h7⟩ := elem_dop
    have hbz : i.bytes = 88 := h5
    refine runK_i (Go.Lib.run_append_nil_zeros (P := Tryz.prog) w 31 3 31 39 i z .i64 .i64 h1 (by kernel_rfl) h2 h3 n (by omega) (by omega) (by omega) (by rw [hbz]; omega)) ?_
    have hge := grownCap_ge w n 0 39
    have hml := grownCap_le_maxLen w n 0 39 (by simp only [maxLen]; omega)
    have hg : Grow w (w.drew.alloc (.cells (Builtin.zeroCells z.cells n ++ Builtin.zeroCells z.cells (grownCap w n 0 39 - n)) 39)) := (Mod.drew _ _).trans (Mod.alloc _ _ _)
    have hh := heap_alloc_new w.drew (.cells (Builtin.zeroCells z.cells n ++ Builtin.zeroCells z.cells (grownCap w n 0 39 - n)) 39)
    generalize w.drew.alloc (.cells (Builtin.zeroCells z.cells n ++ Builtin.zeroCells z.cells (grownCap w n 0 39 - n)) 39) = w2 at hg hh ⊢
    rw [lenK_i]
    refine runK_i (sliceHi_run (e := 39) (i := Tryz.t39) (k := 5) (h := 0) (by kernel_rfl) (by kernel_rfl) (by kernel_rfl) (Nat.zero_le _)) ⟨?_, hg⟩
    rw [if_neg (by omega)]
    simp only [Option.map_some, addr0, Nat.zero_mul]
    refine ⟨[], ⟨rfl, .inr ⟨_, _, _, rfl, Nat.le_refl _, hh, Nat.zero_le _, hml, ?_, by simp⟩⟩, rfl, by simp, by simp⟩
    simp only [Array.size_append, size_zeroCells, h6, ← Nat.add_mul]
    rw [Nat.add_sub_cancel' hge]
  · rw [ltK_i]
    exact condK_p (fun h => by omega) fun _ => rfl
/-- what a row of two slices reads as -/
theorem concat_dops {S1 D1 S2 D2 : Nat → Prop} {va vb : Value} {l m : List Dop} {p : Addr} {w : World} (ha : RDops S1 D1 w va l) (hb : RDops S2 D2 w vb m) (h0 : w.cell? p = some va) (h1 : w.cell? (p.add 1) = some vb) (hl : (l.length + m.length) * 88 ≤ 140737488355328) :
    callK Tryz.prog 128 [.slice (some p) 2 2] (fun v' w' => OwnR w.heap.size 39 5 (RDop fun b => (D1 b ∨ D2 b) ∧ b < w.heap.size) w' v' (l ++ m) ∧ Grow w w') w := by
  apply S128_ok
  unfold S128
  obtain ⟨a1, c1, rfl, m1⟩ := ha.shape
  obtain ⟨a2, c2, rfl, m2⟩ := hb.shape
  rw [lenK_i]
  have n0 : ((2 : Nat) : Int) = 2 := rfl
  refine LoopK_i (fun vs w1 => ∃ k : Nat, k ≤ 2 ∧ vs = [.int .i64 (if k = 0 then (0 : Nat) else if k = 1 then l.length else l.length + m.length : Nat), .int .i64 k] ∧ w1 = w) (fun vs _ => 2 - iOf vs 1) ⟨0, by omega, rfl, rfl⟩ ?_
  rintro vs _ ⟨k, hk, rfl, rfl⟩ _
  rename World => w
  simp only [nth_s, nth_z, List.headD_cons, List.tail_cons]
  rw [ltK_i]
  refine condK_p (fun hlt => ?_) fun hge => ?_
  · have hk2 : k = 0 ∨ k = 1 := by omega
    rcases hk2 with rfl | rfl
    · refine ixK_n (by decide) ?_
      have e : (p.add (0 * 1)) = p.add 0 := rfl
      rw [e, Addr.add_zero']
      refine ld1K_i h0 ?_
      rw [lenK_i, addK_i, wrap64 (by simp <;> omega) (by simp <;> omega), ltK_i]
      refine condK_p (fun h => by simp at h <;> omega) fun _ => ?_
      rw [addK_i, loop_step (by omega)]
      exact ⟨⟨1, by omega, by simp, rfl⟩, by rw [iOf1, iOf1]; omega⟩
    · refine ixK_n (by decide) ?_
      refine ld1K_i (show w.cell? (p.add (1 * 1)) = _ from h1) ?_
      rw [lenK_i, addK_i, wrap64 (by simp <;> omega) (by simp <;> omega), ltK_i]
      refine condK_p (fun h => by simp at h <;> omega) fun _ => ?_
      rw [addK_i, loop_step (by omega)]
      exact ⟨⟨2, by omega, by simp, rfl⟩, by rw [iOf1, iOf1]; omega⟩
  · have hk2 : k = 2 := by omega
    subst hk2
    simp only [show ¬ (2 : Nat) = 0 by decide, show ¬ (2 : Nat) = 1 by decide, if_false]
    refine callK_mono (grow_nil hl (RDop fun b => (D1 b ∨ D2 b) ∧ b < w.heap.size)) ?_
    rintro v1 w1 ⟨o1, g1⟩
    rw [lenK_i]
    let R := RDop fun b => (D1 b ∨ D2 b) ∧ b < w.heap.size
    have hz1 := g1.size
    have ha1 : SlR (fun _ => True) 5 R w1 (.slice a1 l.length c1) l := SlR.mono ha.old (fun _ _ _ => trivial) (fun b hb _ => g1.same b hb fun h => h) (by decide) fun r x hx => hx.mod g1 (fun _ _ _ h => h) fun b _ h => ⟨.inl h.1, h.2⟩
    have hb1 : SlR (fun _ => True) 5 R w1 (.slice a2 m.length c2) m := SlR.mono hb.old (fun _ _ _ => trivial) (fun b hb _ => g1.same b hb fun h => h) (by decide) fun r x hx => hx.mod g1 (fun _ _ _ h => h) fun b _ h => ⟨.inr h.1, h.2⟩
    have pst : ∀ {W W' : World} {M : Nat → Prop}, Mod M W W' → (∀ b, M b → w.heap.size ≤ b) → ∀ r y, R W r y → R W' r y := fun hm hM r y hy => hy.mod hm (fun b _ hd hb => by have := hM b hb; omega) fun _ _ h => h
    refine LoopK_i (fun vs w2 => ∃ (k : Nat) (out : Value) (acc : List Dop), k ≤ 2 ∧ vs = [out, .int .i64 k] ∧ acc = (if k = 0 then [] else if k = 1 then l else l ++ m) ∧ OwnR w.heap.size 39 5 R w2 out acc ∧ Grow w w2) (fun vs _ => 2 - iOf vs 1) ⟨0, v1, [], by omega, rfl, rfl, o1, g1⟩ ?_
    rintro vs w2 ⟨k, out, acc, hk, rfl, hacc, ho, g2⟩ _
    simp only [nth_s, nth_z, List.headD_cons, List.tail_cons]
    rw [ltK_i]
    have one : ∀ {W : World} (j : Nat) (y z : List Dop) (x o : Value), SlR (fun _ => True) 5 R w x y → OwnR w.heap.size 39 5 R W o z → Grow w W → (z.length + y.length) * 88 ≤ 140737488355328 →
        runK Tryz.prog (Builtin.append_ #[31, 31] 31 [o, x].toArray) (fun v' w' => OwnR w.heap.size 39 5 R w' v' (z ++ y) ∧ Grow w w') W := by
      intro W j y z x o hx hz hW hb
      have hx' : SlR (fun _ => True) 5 R W x y := by
        refine SlR.mono (hx.old (by decide)) (fun _ _ _ => trivial) (fun b hb h => hW.same b hb fun h => h) (by decide) fun r q hq => pst hW (fun _ h => h.elim) r q hq
      obtain ⟨v', w', r1, r2, r3, r4⟩ := OwnR.append (ty := 31) elem_dop hz hx' (fun _ _ => RDop.one) hb hW.size (by simp only [maxLen]; omega) fun w' hg r q hq => pst (Mod.of_grownBy hg) (fun b e => (OwnR.ownB hz b e).1) r q hq
      exact runK_i r1 ⟨r2, hW.next (Mod.of_grownBy r3) fun b hb e => by have := (OwnR.ownB hz b e).1; omega⟩
    have ha0 : SlR (fun _ => True) 5 R w (.slice a1 l.length c1) l := SlR.sub ha.old (fun _ _ _ => trivial) (by decide) fun r x hx => hx.mod (Mod.refl (fun _ => False) _) (fun _ _ _ h => h) fun b _ h => ⟨.inl h.1, h.2⟩
    have hb0 : SlR (fun _ => True) 5 R w (.slice a2 m.length c2) m := SlR.sub hb.old (fun _ _ _ => trivial) (by decide) fun r x hx => hx.mod (Mod.refl (fun _ => False) _) (fun _ _ _ h => h) fun b _ h => ⟨.inr h.1, h.2⟩
    refine condK_p (fun hlt => ?_) fun hge => ?_
    · have hk2 : k = 0 ∨ k = 1 := by omega
      rcases hk2 with rfl | rfl
      · refine ixK_n (by decide) ?_
        have e : (p.add (0 * 1)) = p.add 0 := rfl
        rw [e, Addr.add_zero']
        refine ld1K_i (g2.cell h0 fun h => h) ?_
        simp only [if_true] at hacc
        subst hacc
        obtain ⟨v', w', r1, r2, r3⟩ := one 0 l [] _ out ha0 ho g2 (by simp; omega)
        refine runK_i r1 ?_
        rw [addK_i, loop_step (by omega)]
        exact ⟨⟨1, v', _, by omega, rfl, by simp, r2, r3⟩, by rw [iOf1, iOf1]; omega⟩
      · refine ixK_n (by decide) ?_
        refine ld1K_i (g2.cell (show w.cell? (p.add (1 * 1)) = _ from h1) fun h => h) ?_
        simp only [show ¬ (1 : Nat) = 0 by decide, if_true, if_false] at hacc
        subst hacc
        obtain ⟨v', w', r1, r2, r3⟩ := one 0 m acc _ out hb0 ho g2 hl
        refine runK_i r1 ?_
        rw [addK_i, loop_step (by omega)]
        exact ⟨⟨2, v', _, by omega, rfl, by simp, r2, r3⟩, by rw [iOf1, iOf1]; omega⟩
    · have hk2 : k = 2 := by omega
      subst hk2
      simp only [show ¬ (2 : Nat) = 0 by decide, show ¬ (2 : Nat) = 1 by decide, if_false] at hacc
      subst hacc
      exact ⟨ho, g2⟩
end Go.Proofs.YtlbaopamhkmepaaGreatDoor

namespace Go.Proofs.YtlbaopamhkmepaaGreatDoor
open Go Go.K

abbrev TOp : Nat := 39
abbrev row5 (o : Dop) (rv sv pv : Value) : List Value := [.int .u8 o.kind, .int .i64 o.n, rv, sv, pv]
/-- the rows of the gap's inserts: the last one's runes lie in h, all else in C -/
def InsRows (C : Nat → Prop) (h : Nat) (W : World) (g : Nat) (ins : List Dop) : Prop := 0 < ins.length ∧ ∀ j (hj : j < ins.length), ∃ rv sv pv, OpAt W g j ins[j] rv sv pv ∧ RDop (fun x => C x ∨ x = h) W (row5 ins[j] rv sv pv) ins[j] ∧
  (j + 1 = ins.length → OwnR 0 21 1 RRune W rv ins[j].runes ∧ rv.ownBlock = some h ∧ RSet C W sv ins[j].set ∧ RPat C W pv ins[j].patch) ∧ (j + 1 < ins.length → RDop C W (row5 ins[j] rv sv pv) ins[j])
/-- a maker in memory: at block b, its ops, its gap's inserts; F: all blocks of its own; C: those that are only read -/
structure MkR (F : Nat → Prop) (W : World) (b : Nat) (s : MkS) (dv iv : Value) (C : Nat → Prop) (hot : Option Nat) : Prop where
  c0 : W.cell? ⟨b, 0, none⟩ = some dv
  c1 : W.cell? ⟨b, 1, none⟩ = some iv
  c2 : W.cell? ⟨b, 2, none⟩ = some (.int .i64 s.gone)
  lv : ∀ q, q < 3 → Live W ⟨b, q, none⟩
  fb : F b
  nb : ¬ C b
  cf : ∀ x, C x → F x ∧ x < W.heap.size
  done : OwnR 0 TOp 5 (RDop C) W dv s.done
  dF : ∀ g, dv.ownBlock = some g → F g ∧ ¬ C g ∧ g ≠ b
  ins : (s.ins = [] ∧ iv = .slice none 0 0 ∧ hot = none) ∨ ∃ g c h, iv = .slice (some ⟨g, 0, none⟩) s.ins.length c ∧ hot = some h ∧ OwnR 0 TOp 5 (fun _ _ _ => True) W iv s.ins ∧ F g ∧ ¬ C g ∧ g ≠ b ∧ dv.ownBlock ≠ some g ∧
    F h ∧ ¬ C h ∧ h ≠ b ∧ h ≠ g ∧ dv.ownBlock ≠ some h ∧ h < W.heap.size ∧ InsRows C h W g s.ins
def MkI (F : Nat → Prop) (W : World) (b : Nat) (s : MkS) : Prop := ∃ dv iv C hot, MkR F W b s dv iv C hot
theorem OpAt.mod {W W' : World} {M : Nat → Prop} {g j : Nat} {o : Dop} {rv sv pv : Value} (h : OpAt W g j o rv sv pv) (hm : Mod M W W') (hg : ¬ M g) : OpAt W' g j o rv sv pv := fun q u hu => hm.cell (h q u hu) hg
theorem InsRows.mod {C M : Nat → Prop} {h : Nat} {W W' : World} {g : Nat} {ins : List Dop} (hi : InsRows C h W g ins) (hm : Mod M W W') (hg : ¬ M g) (hh : ¬ M h) (hC : ∀ x, C x → ¬ M x) : InsRows C h W' g ins := by
  refine ⟨hi.1, fun j hj => ?_⟩
  obtain ⟨rv, sv, pv, q1, q2, q3, q4⟩ := hi.2 j hj
  refine ⟨rv, sv, pv, q1.mod hm hg, q2.mod hm (fun b _ hb => by rcases hb with hb | rfl; exact hC b hb; exact hh) fun _ _ h => h, fun e => ?_, fun e => (q4 e).mod hm (fun b _ hb => hC b hb) fun _ _ h => h⟩
  obtain ⟨p1, p2, p3, p4⟩ := q3 e
  exact ⟨OwnR.mod p1 hm (fun g hg => by rw [p2] at hg; cases hg; exact hh) fun _ _ _ h => h, p2, p3.mono (fun _ _ h => h) (fun b hb hc => hm.same b hb (hC b hc)) (by decide) fun _ _ h => h, p4.mono (fun _ _ h => h) (fun b hb hc => hm.same b hb (hC b hc)) (by decide) fun _ _ h => h⟩
theorem RDop.cmod {C M : Nat → Prop} {W W' : World} {r : List Value} {o : Dop} (h : RDop C W r o) (hm : Mod M W W') (hC : ∀ x, C x → ¬ M x) : RDop C W' r o := h.mod hm (fun b _ hb => hC b hb) fun _ _ h => h
theorem MkR.mod {F M C : Nat → Prop} {W W' : World} {b : Nat} {s : MkS} {dv iv : Value} {hot : Option Nat} (h : MkR F W b s dv iv C hot) (hm : Mod M W W') (hF : ∀ x, F x → ¬ M x) : MkR F W' b s dv iv C hot := by
  have hb := hF b h.fb
  have hC : ∀ x, C x → ¬ M x := fun x hx => hF x (h.cf x hx).1
  refine ⟨hm.cell h.c0 hb, hm.cell h.c1 hb, hm.cell h.c2 hb, fun q hq => (h.lv q hq).mod hm hb, h.fb, h.nb, fun x hx => ⟨(h.cf x hx).1, Nat.lt_of_lt_of_le (h.cf x hx).2 hm.size⟩, OwnR.mod h.done hm (fun g hg => hF g (h.dF g hg).1) fun r x _ hx => hx.cmod hm hC, h.dF, ?_⟩
  rcases h.ins with h0 | ⟨g, c, hh, e1, e2, e3, e4, e5, e6, e7, e8, e9, e10, e11, e12, e13, e14⟩
  · exact .inl h0
  · exact .inr ⟨g, c, hh, e1, e2, OwnR.mod e3 hm (fun g' hg' => by rw [e1] at hg'; simp only [Value.ownBlock, Option.some.injEq] at hg'; subst hg'; exact hF _ e4) fun _ _ _ _ => trivial, e4, e5, e6, e7, e8, e9, e10, e11, e12, Nat.lt_of_lt_of_le e13 hm.size, e14.mod hm (hF g e4) (hF hh e8) hC⟩
theorem MkR.grow {F C : Nat → Prop} {W W' : World} {b : Nat} {s : MkS} {dv iv : Value} {hot : Option Nat} (h : MkR F W b s dv iv C hot) (hm : Grow W W') : MkR F W' b s dv iv C hot := h.mod hm fun _ _ h => h
theorem MkI.mod {F M : Nat → Prop} {W W' : World} {b : Nat} {s : MkS} (h : MkI F W b s) (hm : Mod M W W') (hF : ∀ x, F x → ¬ M x) : MkI F W' b s := by
  obtain ⟨dv, iv, C, hot, h⟩ := h
  exact ⟨dv, iv, C, hot, h.mod hm hF⟩
theorem MkI.sub {F F' : Nat → Prop} {W : World} {b : Nat} {s : MkS} (h : MkI F W b s) (hF : ∀ x, F x → F' x) : MkI F' W b s := by
  obtain ⟨dv, iv, C, hot, h⟩ := h
  refine ⟨dv, iv, C, hot, h.c0, h.c1, h.c2, h.lv, hF _ h.fb, h.nb, fun x hx => ⟨hF _ (h.cf x hx).1, (h.cf x hx).2⟩, h.done, fun g hg => ⟨hF _ (h.dF g hg).1, (h.dF g hg).2⟩, ?_⟩
  rcases h.ins with h0 | ⟨g, c, hh, e1, e2, e3, e4, e5, e6, e7, e8, e9⟩
  · exact .inl h0
  · exact .inr ⟨g, c, hh, e1, e2, e3, hF _ e4, e5, e6, e7, hF _ e8, e9⟩
/-- New -/
theorem new_ok {w : World} : callK Tryz.prog 75 [] (fun v w' => Grow w w' ∧ ∃ b, w.heap.size ≤ b ∧ b < w'.heap.size ∧ v = .pointer (some ⟨b, 0, none⟩) ∧ MkI (fun x => x = b) w' b MkS.z) w := by
  apply S75_ok
  unfold S75
  refine ⟨#[.slice none 0 0, .slice none 0 0, .int .i64 0], by kernel_rfl, ?_⟩
  refine boxn_i (vs := [.slice none 0 0, .slice none 0 0, .int .i64 0]) fun b w1 hb hz g hc hl => ?_
  have a0 : ∀ j, (⟨b, 0, none⟩ : Addr).add j = ⟨b, j, none⟩ := fun j => addr0 b j
  refine ⟨g, b, by omega, by omega, rfl, _, _, fun _ => False, none, by rw [← a0]; exact hc 0 _ rfl, by rw [← a0]; exact hc 1 _ rfl, by rw [← a0]; exact hc 2 _ rfl, fun q hq => by rw [← a0]; exact hl q hq, rfl, fun h => h, fun _ h => h.elim, OwnR.nil, fun g hg => (nomatch hg), .inl ⟨rfl, rfl, rfl⟩⟩
/-- Delete -/
theorem delete_ok {F : Nat → Prop} {w : World} {b : Nat} {s : MkS} {n : Int} (h : MkI F w b s) : callK Tryz.prog 78 [.pointer (some ⟨b, 0, none⟩), .int .i64 n] (fun _ w' => MkI F w' b (delS s n) ∧ Mod F w w') w := by
  apply S78_ok
  unfold S78
  obtain ⟨dv, iv, C, hot, h⟩ := h
  rw [pnilK_i]
  simp only [Option.isNone_some, Bool.not_false]
  rw [condK_b, if_pos rfl, nilckK_i, faK_i, addr0]
  refine ld1K_i h.c2 ?_
  rw [maxK_i, addK_i, nilckK_i, faK_i, addr0]
  have e : (if (0 : Int) > n then (0 : Int) else n) = maxI n 0 := rfl
  rw [e]
  refine (h.lv 2 (by decide)).st rfl rfl ?_
  have hm := setA w b 2 (.int .i64 (IntKind.i64.wrap (s.gone + maxI n 0)))
  have ne : ∀ q, q < 2 → (⟨b, 2, none⟩ : Addr) ≠ ⟨b, q, none⟩ := fun q hq e => by simp only [Addr.mk.injEq] at e; omega
  obtain ⟨u, hu⟩ := Option.isSome_iff_exists.1 (h.lv 2 (by decide)).1
  have nC : ∀ x, C x → ¬ x = b := fun x hx e => h.nb (e ▸ hx)
  refine ⟨⟨dv, iv, C, hot, (World.cell?_setCell_other _ _ _ _ (ne 0 (by decide))).trans h.c0, (World.cell?_setCell_other _ _ _ _ (ne 1 (by decide))).trans h.c1, World.cell?_setCell_same _ _ _ hu, fun q hq => (h.lv q hq).set _ _, h.fb, h.nb, fun x hx => ⟨(h.cf x hx).1, Nat.lt_of_lt_of_le (h.cf x hx).2 hm.size⟩, OwnR.mod h.done hm (fun g hg => (h.dF g hg).2.2) fun r x _ hx => hx.cmod hm nC, h.dF, ?_⟩, hm.mono fun x _ e => by rw [e]; exact h.fb⟩
  rcases h.ins with h0 | ⟨g, c, hh, e1, e2, e3, e4, e5, e6, e7, e8, e9, e10, e11, e12, e13, e14⟩
  · exact .inl h0
  · exact .inr ⟨g, c, hh, e1, e2, OwnR.mod e3 hm (fun g' hg' => by rw [e1] at hg'; simp only [Value.ownBlock, Option.some.injEq] at hg'; subst hg'; exact e6) fun _ _ _ _ => trivial, e4, e5, e6, e7, e8, e9, e10, e11, e12, Nat.lt_of_lt_of_le e13 hm.size, e14.mod hm e6 e10 nC⟩
/-- what the gap's inserts read as -/
theorem MkR.insRd {F C : Nat → Prop} {W : World} {b : Nat} {s : MkS} {dv iv : Value} {hot : Option Nat} (h : MkR F W b s dv iv C hot) : RDops (fun _ => True) (fun x => (C x ∨ hot = some x) ∧ x < W.heap.size) W iv s.ins := by
  rcases h.ins with ⟨e1, e2, _⟩ | ⟨g, c, hh, e1, e2, e3, e4, e5, e6, e7, e8, e9, e10, e11, e12, e13, e14⟩
  · rw [e1, e2]; exact SlR.nil
  · subst e1; subst e2
    have o := OwnR.conv (R := RDop fun x => (C x ∨ some hh = some x) ∧ x < W.heap.size) e3 fun j hj r hr hone hcl => ?_
    · exact SlR.sub (OwnR.sl o) (fun _ _ _ => trivial) (by decide) fun _ _ h => h
    · obtain ⟨rv, sv, pv, q1, q2, _, _⟩ := e14.2 j hj
      have e : r = row5 s.ins[j] rv sv pv := by
        refine List.ext_getElem? fun q => ?_
        by_cases hq : q < 5
        · have h1 : r[q]? = some r[q] := List.getElem?_eq_getElem (by omega)
          have h2 : (row5 s.ins[j] rv sv pv)[q]? = some (row5 s.ins[j] rv sv pv)[q] := List.getElem?_eq_getElem (by simpa using hq)
          have h3 := hcl q _ h1
          rw [q1 q _ h2] at h3
          rw [h1, h2, h3]
        · rw [List.getElem?_eq_none (by omega), List.getElem?_eq_none (by simp; omega)]
      subst e
      exact q2.mod (Mod.refl (fun _ => False) _) (fun _ _ _ h => h) fun x hx hc => by
        refine ⟨?_, hx⟩
        rcases hc with hc | hc
        · exact .inl hc
        · exact .inr (by rw [hc])
/-- what is appended is a delete -/
theorem gap_ok {F C : Nat → Prop} {w : World} {b : Nat} {s : MkS} {dv iv : Value} {hot : Option Nat} (h : MkR F w b s dv iv C hot) (hl : (s.ins.length + 1) * 88 ≤ 140737488355328) :
    callK Tryz.prog 127 [.pointer (some ⟨b, 0, none⟩)] (fun v' w' => OwnR w.heap.size TOp 5 (RDop fun x => (C x ∨ hot = some x) ∧ x < w.heap.size) w' v' (gapL s.ins s.gone) ∧ Grow w w') w := by
  apply S127_ok
  unfold S127
  rw [nilckK_i, faK_i, addr0]
  refine ld1K_i h.c1 ?_
  refine callK_mono (clone_dops h.insRd (by omega)) ?_
  rintro v1 w1 ⟨o1, g1⟩
  have o1' : OwnR w.heap.size TOp 5 (RDop fun x => (C x ∨ hot = some x) ∧ x < w.heap.size) w1 v1 s.ins := OwnR.mod o1 (Mod.refl (fun _ => False) _) (fun _ _ h => h) fun r x _ hx => hx.mod (Mod.refl (fun _ => False) _) (fun _ _ _ h => h) fun _ _ h => h.1
  rw [nilckK_i, faK_i, addr0]
  refine ld1K_i (g1.cell h.c2 fun h => h) ?_
  rw [gtK_i]
  refine condK_p (fun hg => ?_) fun hg => ⟨by rw [gapL, if_neg hg]; exact o1', g1⟩
  rw [nilckK_i, faK_i, addr0]
  refine ld1K_i (g1.cell h.c2 fun h => h) ?_
  refine ⟨#[.int .u8 3, .int .i64 s.gone, .slice none 0 0, .slice none 0 0, .slice none 0 0], by kernel_rfl, ?_⟩
  refine push_n (w0 := w) elem_dop o1' g1 (cs := row5 ⟨3, s.gone, [], [], []⟩ (.slice none 0 0) (.slice none 0 0) (.slice none 0 0)) (x := ⟨3, s.gone, [], [], []⟩) (by kernel_rfl) rfl ⟨_, _, _, rfl, SlR.nil, SlR.nil, SlR.nil⟩ (fun _ _ _ => RDop.one) ?_ hl (by simp only [maxLen]; omega) fun v' w' h1 h2 => ⟨by rw [gapL, if_pos hg]; exact h1, h2⟩
  intro W1 W2 r y hz hm hy
  refine hy.mod hm (fun x _ hx e => ?_) fun _ _ h => h
  rcases e with e | e
  · have := (OwnR.ownB o1 x e).1; omega
  · have := g1.size; omega
end Go.Proofs.YtlbaopamhkmepaaGreatDoor

namespace Go.K
open Go
theorem OwnR.len {α β : Type} {B e k : Nat} {R : World → List Value → α → Prop} {w : World} {v : Value} {l : List α} (h : OwnR B e k R w v l) (l' : List β) (hl : l'.length = l.length) : OwnR B e k (fun _ _ (_ : β) => True) w v l' := by
  obtain ⟨rows, h1, h2, h3, _⟩ := h
  exact ⟨rows, by rw [hl]; exact h1, by rw [hl]; exact h2, h3, fun _ _ _ _ _ => trivial⟩
end Go.K
namespace Go.Proofs.YtlbaopamhkmepaaGreatDoor
open Go Go.K

def lastSet (ins : List Dop) (set : List Attr) : Bool := match ins.getLast? with | some o => decide (o.set = set) | none => false
theorem getLast_get {l : List Dop} (h : 0 < l.length) : l.getLast? = some l[l.length - 1] := by
  rw [List.getLast?_eq_getElem?]; simp [show l.length - 1 < l.length by omega]
theorem insert_ok {F S : Nat → Prop} {w : World} {b : Nat} {s : MkS} {lv sv : Value} {rs : List Int} {set : List Attr} (h : MkI F w b s) (h1 : RRun S w lv rs) (h2 : RSet S w sv set) (hS : ∀ x, S x → ¬ F x)
    (hb1 : (s.ins.length + 1) * 88 ≤ 140737488355328) (hb2 : ∀ o ∈ s.ins, (o.runes.length + rs.length) * 4 ≤ 140737488355328) (hb3 : rs.length * 4 ≤ 140737488355328) (hb4 : set.length * 48 ≤ 140737488355328) :
    callK Tryz.prog 77 [.pointer (some ⟨b, 0, none⟩), lv, sv] (fun _ w' => MkI (fun x => F x ∨ w.heap.size ≤ x) w' b (insS s rs set) ∧ Mod F w w') w := by
  apply S77_ok
  unfold S77
  have hI := h
  obtain ⟨dv, iv, C, hot, h⟩ := h
  obtain ⟨pl, cl, rfl, ml⟩ := h1.shape
  have shI : ∃ ga gc, iv = .slice ga s.ins.length gc := by
    rcases h.ins with ⟨e1, e2, _⟩ | ⟨g, c, hh, e1, _⟩
    · exact ⟨none, 0, by rw [e1, e2]; rfl⟩
    · exact ⟨_, c, e1⟩
  obtain ⟨ga, gc, rfl⟩ := shI
  refine JoinK_i (fun vs w1 => w1 = w ∧ rs ≠ []) ?_ ?_
  rotate_left
  · rw [pnilK_i]
    simp only [Option.isNone_some]
    rw [condK_b, if_neg (by simp), lenK_i, eqK_i]
    refine condK_p (fun e => ?_) fun e => ⟨trivial, fun h => e (len0.2 h)⟩
    have := len0.1 e
    subst this
    exact ⟨by rw [insS, if_pos rfl]; exact hI.sub fun x hx => .inl hx, Mod.refl _ _⟩
  rintro vs _ ⟨rfl, hne⟩ _
  rename World => w
  have hpos : 0 < rs.length := List.length_pos_iff.2 hne
  rw [nilckK_i, faK_i, addr0]
  refine ld1K_i h.c1 ?_
  rw [lenK_i, subK_i]
  have hwl : s.ins.length * 88 ≤ 140737488355328 := by omega
  rw [wrap64 (by omega) (by omega)]
  have key : insS s rs set = ⟨s.done, addI s.ins rs set, s.gone⟩ := by rw [insS, if_neg hne]
  rw [key]
  refine JoinK_i (fun vs w1 => vs = [.bool (lastSet s.ins set)] ∧ Grow w w1) ?_ ?_
  rotate_left
  · rw [geK_i]
    refine condK_p (fun hge => ?_) fun hge => ?_
    · have hip : 0 < s.ins.length := by omega
      rw [nilckK_i, faK_i, addr0]
      refine ld1K_i h.c1 ?_
      have hlt : s.ins.length - 1 < s.ins.length := by omega
      rw [show ((s.ins.length : Int) - 1) = ((s.ins.length - 1 : Nat) : Int) by omega]
      obtain ⟨p, r, rfl, _, hr, hc, rv, sv', pv, rfl, q1, q2, q3⟩ := h.insRd.get hlt
      refine ixK_n hlt ?_
      rw [faK_i, Addr.add_add]
      refine ld1K_i (hc 3 _ rfl) ?_
      refine callK_mono (same_set q2 h2) ?_
      rintro v1 w1 ⟨rfl, g1⟩
      exact ⟨by rw [lastSet, getLast_get hip], g1⟩
    · have : s.ins = [] := List.eq_nil_of_length_eq_zero (by omega)
      exact ⟨by rw [lastSet, this]; rfl, Mod.refl _ _⟩
  rintro vs w3 ⟨rfl, g3⟩ _
  rw [nth_z, List.headD_cons]
  have gd : Grow w w3.drew := g3.trans (Mod.drew _ _)
  have h' := h.grow gd
  have zd := gd.size
  have h1' : RRun (fun x => S x ∧ x < w.heap.size) w3.drew (.slice pl rs.length cl) rs := (h1.old (by decide)).grow gd (by decide) fun _ _ h => h
  have h2' : RSet (fun x => S x ∧ x < w.heap.size) w3.drew sv set := (h2.old (by decide)).grow gd (by decide) fun _ _ h => h
  generalize w3.drew = w4 at gd h' zd h1' h2' ⊢
  cases hls : lastSet s.ins set with
  | true =>
    rw [condK_b, if_pos rfl]
    have hip : 0 < s.ins.length := by
      cases hn : s.ins with
      | nil => rw [lastSet, hn] at hls; cases hls
      | cons a l => simp
    have hlt : s.ins.length - 1 < s.ins.length := by omega
    rcases h'.ins with ⟨e1, _⟩ | ⟨g, c, hh, e1, e2, e3, e4, e5, e6, e7, e8, e9, e10, e11, e12, e13, e14⟩
    · rw [e1] at hip; simp at hip
    simp only [Value.slice.injEq, true_and] at e1
    obtain ⟨rfl, rfl⟩ := e1
    obtain ⟨rv, sv', pv, at1, _, ho, _⟩ := e14.2 _ hlt
    obtain ⟨o1, o2, o3, o4⟩ := ho (by omega)
    have hset : s.ins[s.ins.length - 1].set = set := by
      rw [lastSet, getLast_get hip] at hls
      simpa using hls
    rw [show ((s.ins.length : Int) - 1) = ((s.ins.length - 1 : Nat) : Int) by omega]
    refine drawC_i (fun k x => (k = 14 ∧ x = hh) ∨ (k = 17 ∧ x = g)) ?_
    rw [nilckK_i, faK_i, addr0]
    refine sld1_i ⟨h'.c1, fun j _ e => by rcases e with ⟨_, e⟩ | ⟨_, e⟩; exact e10 e.symm; exact e6 e.symm⟩ ?_
    rw [nilckK_i, faK_i, addr0]
    refine sld1_i ⟨h'.c1, fun j _ e => by rcases e with ⟨_, e⟩ | ⟨_, e⟩; exact e10 e.symm; exact e6 e.symm⟩ ?_
    refine ixK_n hlt ?_
    rw [faK_i, Addr.add_add, addr0]
    refine sld1_i ⟨at1 2 _ rfl, fun j hj e => by rcases e with ⟨rfl, e⟩ | ⟨rfl, e⟩; exact e11 e.symm; exact absurd hj (by decide)⟩ ?_
    have hb2' := hb2 s.ins[s.ins.length - 1] (by simp)
    obtain ⟨v', w5, r1, r2, r3, r4⟩ := OwnR.append (ty := 35) elem_rune o1 h1' (fun _ _ => RRune.one) hb2' (Nat.zero_le _) (by simp only [maxLen]; omega) fun _ _ _ _ h => h
    refine runK_i r1 ⟨(Mod.of_grownBy r3).mono fun x _ e => by rw [o2] at e; cases e; exact .inl ⟨rfl, rfl⟩, ?_⟩
    have m45 : Mod (fun x => x = hh) w4 w5 := (Mod.of_grownBy r3).mono fun x _ e => by rw [o2] at e; cases e; rfl
    have hv1 := OwnR.one r2
    have shv : ∃ h2, v'.ownBlock = some h2 ∧ h2 < w5.heap.size := by
      obtain ⟨a, c', rfl, _, _, hp, hn⟩ := OwnR.shape r2
      cases a with
      | none => have := hn rfl; simp at this; exact (hne this.2).elim
      | some p => obtain ⟨g', rfl, q1, q2, q3⟩ := hp p rfl; exact ⟨g', q3, q2⟩
    obtain ⟨h2n, hv2, hv3⟩ := shv
    have hv4 := r4 h2n hv2
    have zz := m45.size
    have hgs : g < w4.heap.size := by
      have := OwnR.ownB e3 g rfl; exact this.2
    have hdv : ∀ x, dv.ownBlock = some x → x < w4.heap.size := fun x hx => (OwnR.ownB h'.done x hx).2
    have live5 : Live w5 ⟨g, (s.ins.length - 1) * 5 + 2, none⟩ := by
      obtain ⟨_, _, _, _, hl⟩ := OwnR.cellsOf e3 hlt
      exact (hl 2 (by decide)).mod m45 fun e => e11 e.symm
    refine ixK_n hlt ?_
    rw [faK_i, Addr.add_add, addr0]
    refine live5.st hv1.1 hv1.2 ⟨Mod.setCell _ _ _ (.inr ⟨rfl, rfl⟩), ?_⟩
    have m56 := setA w5 g ((s.ins.length - 1) * 5 + 2) v'
    have hnew : ∀ x, h2n = x → x = hh ∨ w4.heap.size ≤ x := by
      rintro x rfl
      rcases hv4 with e | e
      · rw [o2] at e; cases e; exact .inl rfl
      · exact .inr e
    -- the new block's place
    have nC : ¬ C h2n := fun hx => by rcases hnew _ rfl with e | e; exact e9 (e ▸ hx); have := (h'.cf _ hx).2; omega
    have nb2 : h2n ≠ b := fun e => by
      have hbl : b < w4.heap.size := World.block_lt_of_cell? w4 ⟨b, 0, none⟩ h'.c0
      rcases hnew _ rfl with e' | e'
      · exact e10 (e'.symm.trans e)
      · omega
    have ng2 : h2n ≠ g := fun e => by
      rcases hnew _ rfl with e' | e'
      · exact e11 (e'.symm.trans e)
      · omega
    have nd2 : dv.ownBlock ≠ some h2n := fun e => by
      have := hdv _ e
      rcases hnew _ rfl with e' | e'
      · rw [e'] at e; exact e12 e
      · omega
    have mm : Mod (fun x => x = hh ∨ x = g) w4 (w5.setCell ⟨g, (s.ins.length - 1) * 5 + 2, none⟩ v') := (m45.mono fun _ _ e => .inl e).trans (m56.mono fun _ _ e => .inr e)
    have hbne : ¬ (b = hh ∨ b = g) := by rintro (e | e); exact e10 e.symm; exact e6 e.symm
    have hCne : ∀ x, C x → ¬ (x = hh ∨ x = g) := by rintro x hx (rfl | rfl); exact e9 hx; exact e5 hx
    have r2' : OwnR 0 21 1 RRune (w5.setCell ⟨g, (s.ins.length - 1) * 5 + 2, none⟩ v') v' (s.ins[s.ins.length - 1].runes ++ rs) := OwnR.mod r2 m56 (fun x hx e => by rw [hv2] at hx; cases hx; exact ng2 e) fun _ _ _ h => h
    have eadd : addI s.ins rs set = s.ins.set (s.ins.length - 1) ⟨s.ins[s.ins.length - 1].kind, s.ins[s.ins.length - 1].n, s.ins[s.ins.length - 1].runes ++ rs, s.ins[s.ins.length - 1].set, s.ins[s.ins.length - 1].patch⟩ := by
      unfold addI
      rw [getLast_get hip]
      simp only [hset, if_true]
    have oA := OwnR.setAny (OwnR.mod e3 m45 (fun x hx e => by simp only [Value.ownBlock, Option.some.injEq] at hx; exact e11 (e.symm.trans hx.symm)) fun _ _ _ _ => trivial) hlt (show 2 < 5 by decide) hv1.1
    refine ⟨⟨dv, _, C, some h2n, mm.cell h'.c0 hbne, mm.cell h'.c1 hbne, mm.cell h'.c2 hbne, fun q hq => (h'.lv q hq).mod mm hbne, .inl h'.fb, h'.nb, fun x hx => ⟨.inl (h'.cf x hx).1, Nat.lt_of_lt_of_le (h'.cf x hx).2 mm.size⟩,
      OwnR.mod h'.done mm (fun x hx e => by rcases e with rfl | rfl; exact e12 hx; exact e7 hx) fun r x _ hx => hx.cmod mm hCne, fun x hx => ⟨.inl (h'.dF x hx).1, (h'.dF x hx).2⟩, .inr ⟨g, gc, h2n, ?_, rfl, ?_, .inl e4, e5, e6, e7, ?_, nC, nb2, ng2, nd2, ?_, ?_⟩⟩, ?_⟩
    · rw [eadd, List.length_set]
    · exact OwnR.len oA _ (by rw [eadd, List.length_set])
    · rcases hnew _ rfl with e | e
      · exact .inl (e ▸ e8)
      · exact .inr (by omega)
    · rw [World.size_setCell]; exact hv3
    · rw [eadd]
      refine ⟨by rw [List.length_set]; exact hip, fun j hj => ?_⟩
      rw [List.length_set] at hj
      obtain ⟨rv', sv2, pv2, a1, a2, a3, a4⟩ := e14.2 j hj
      by_cases hjl : j = s.ins.length - 1
      · subst hjl
        have hrow : OpAt w5 g (s.ins.length - 1) s.ins[s.ins.length - 1] rv sv' pv := at1.mod m45 fun e => e11 e.symm
        refine ⟨v', sv', pv, fun q u hu => ?_, ?_, fun _ => ?_, fun e => by rw [List.length_set] at e; omega⟩
        · rw [List.getElem_set_self] at hu
          have hq := (List.getElem?_eq_some_iff.1 hu).1
          simp only [List.length_cons, List.length_nil] at hq
          by_cases h2q : q = 2
          · subst h2q
            simp only [List.getElem?_cons_succ, List.getElem?_cons_zero, Option.some.injEq] at hu; subst hu
            obtain ⟨u', hu'⟩ := Option.isSome_iff_exists.1 live5.1
            exact World.cell?_setCell_same _ _ _ hu'
          · rw [World.cell?_setCell_other _ _ _ _ (by intro e; simp only [Addr.mk.injEq] at e; omega)]
            refine hrow q u ?_
            rw [← hu]
            match q, hq, h2q with
            | 0, _, _ => rfl
            | 1, _, _ => rfl
            | 3, _, _ => rfl
            | 4, _, _ => rfl
        · rw [List.getElem_set_self]
          refine ⟨v', sv', pv, rfl, ?_, ?_, ?_⟩
          · exact own_rd (by decide) ⟨r2', fun x hx => .inr (by rw [hv2] at hx; exact (Option.some.inj hx).symm)⟩
          · exact o3.mono (fun _ _ hx => .inl hx) (fun x hb hx => mm.same x hb (hCne x hx)) (by decide) fun _ _ h => h
          · exact o4.mono (fun _ _ hx => .inl hx) (fun x hb hx => mm.same x hb (hCne x hx)) (by decide) fun _ _ h => h
        · rw [List.getElem_set_self]
          exact ⟨r2', hv2, o3.mono (fun _ _ hx => hx) (fun x hb hx => mm.same x hb (hCne x hx)) (by decide) fun _ _ h => h, o4.mono (fun _ _ hx => hx) (fun x hb hx => mm.same x hb (hCne x hx)) (by decide) fun _ _ h => h⟩
      · have hjc := (a4 (by omega)).cmod mm hCne
        refine ⟨rv', sv2, pv2, fun q u hu => ?_, ?_, fun e => by rw [List.length_set] at e; omega, fun _ => ?_⟩
        · rw [List.getElem_set_ne (by omega)] at hu
          have hq := (List.getElem?_eq_some_iff.1 hu).1
          simp only [List.length_cons, List.length_nil] at hq
          rw [World.cell?_setCell_other _ _ _ _ (by intro e; simp only [Addr.mk.injEq] at e; omega)]
          exact m45.cell (a1 q u hu) fun e => e11 e.symm
        · rw [List.getElem_set_ne (by omega)]
          exact hjc.mod (Mod.refl (fun _ => False) _) (fun _ _ _ h => h) fun _ _ hx => .inl hx
        · rw [List.getElem_set_ne (by omega)]; exact hjc
    · refine (Grow.mod gd).trans (mm.mono fun x _ e => ?_)
      rcases e with rfl | rfl
      · exact e8
      · exact e4
  | false =>
    rw [condK_b, if_neg (by simp)]
    have eadd : addI s.ins rs set = s.ins ++ [⟨2, 0, rs, set, []⟩] := by
      unfold addI
      unfold lastSet at hls
      cases hl : s.ins.getLast? with
      | none => rfl
      | some o => rw [hl] at hls; simp only [decide_eq_false_iff_not] at hls; simp only; rw [if_neg hls]
    have hbl : b < w4.heap.size := World.block_lt_of_cell? w4 ⟨b, 0, none⟩ h'.c0
    have hivb : (Value.slice ga s.ins.length gc).ownBlock ≠ some b ∧ (∀ g, (Value.slice ga s.ins.length gc).ownBlock = some g → F g ∧ ¬ C g ∧ g ≠ b ∧ dv.ownBlock ≠ some g ∧ hot ≠ some g ∧ g < w4.heap.size) := by
      rcases h'.ins with ⟨e1, e2, _⟩ | ⟨g, c, hh, e1, e2, e3, e4, e5, e6, e7, e8, e9, e10, e11, _⟩
      · simp only [Value.slice.injEq] at e2
        obtain ⟨rfl, _⟩ := e2
        exact ⟨fun h => (nomatch h), fun g h => (nomatch h)⟩
      · simp only [Value.slice.injEq, true_and] at e1
        obtain ⟨rfl, rfl⟩ := e1
        refine ⟨fun e => by simp only [Value.ownBlock, Option.some.injEq] at e; exact e6 e, fun g' e => ?_⟩
        simp only [Value.ownBlock, Option.some.injEq] at e; subst e
        exact ⟨e4, e5, e6, e7, fun e => by rw [e2] at e; cases e; exact e11 rfl, (OwnR.ownB e3 _ rfl).2⟩
    obtain ⟨hivb, hiv⟩ := hivb
    have hhot : ∀ x, hot = some x → F x ∧ ¬ C x ∧ x ≠ b ∧ dv.ownBlock ≠ some x ∧ x < w4.heap.size := by
      intro x hx
      rcases h'.ins with ⟨_, _, e⟩ | ⟨g, c, hh, e1, e2, e3, e4, e5, e6, e7, e8, e9, e10, e11, e12, e13, _⟩
      · rw [e] at hx; cases hx
      · rw [e2] at hx; cases hx; exact ⟨e8, e9, e10, e12, e13⟩
    refine drawC_i (fun k x => (k = 11 ∧ (Value.slice ga s.ins.length gc).ownBlock = some x) ∨ (k = 14 ∧ x = b)) ?_
    rw [nilckK_i, faK_i, addr0]
    refine sld1_i ⟨h'.c1, fun j hj e => by rcases e with ⟨_, e⟩ | ⟨rfl, _⟩; exact hivb e; exact absurd hj (by decide)⟩ ?_
    refine callK_mono (clone_run h1' hb3) ?_
    rintro t1 w5 ⟨n1, g5⟩
    refine ⟨Grow.mod g5, ?_⟩
    refine callK_mono (copy_set (h2'.grow g5 (by decide) fun _ _ h => h) hb4) ?_
    rintro t2 w6 ⟨n2, g6⟩
    refine ⟨Grow.mod g6, ?_⟩
    have g46 := g5.trans g6
    have z5 := g5.size
    have z6 := g6.size
    have h6 := h'.grow g46
    have n1' : OwnR w4.heap.size 21 1 RRune w6 t1 rs := OwnR.mod n1 g6 (fun _ _ h => h) fun _ _ _ h => h
    obtain ⟨sa1, sc1, hsv1, _, _, hp1, hn1⟩ := OwnR.shape n1'
    obtain ⟨sa2, sc2, hsv2, _⟩ := OwnR.shape n2
    refine ⟨#[.int .u8 2, .int .i64 0, t1, t2, .slice none 0 0], by subst hsv1; subst hsv2; kernel_rfl, ?_⟩
    have hn : ∃ h2n, t1.ownBlock = some h2n ∧ w4.heap.size ≤ h2n ∧ h2n < w6.heap.size := by
      cases sa1 with
      | none => exact (hne (hn1 rfl)).elim
      | some p => obtain ⟨g', _, q1, q2, q3⟩ := hp1 p rfl; exact ⟨g', q3, q1, q2⟩
    obtain ⟨h2n, hv2, hv3, hv4⟩ := hn
    -- rows: the old ones are only read from here on
    let C2 : Nat → Prop := fun x => (C x ∨ hot = some x) ∧ x < w4.heap.size
    let C' : Nat → Prop := fun x => C2 x ∨ t2.ownBlock = some x
    let R : World → List Value → Dop × Bool → Prop := fun W r x => match x.2 with
      | false => RDop C2 W r x.1
      | true => r = row5 x.1 t1 t2 (.slice none 0 0) ∧ OwnR 0 21 1 RRune W t1 x.1.runes ∧ RSet (fun x => t2.ownBlock = some x) W t2 x.1.set ∧ x.1.patch = []
    have hone : ∀ W r y, R W r y → ∀ u ∈ r, u.oneCell' = true := by
      rintro W r ⟨o, t⟩ hy
      cases t with
      | false => exact RDop.one hy
      | true =>
        obtain ⟨rfl, _⟩ := hy
        intro u hu
        simp only [List.mem_cons, List.not_mem_nil, or_false] at hu
        rcases hu with rfl | rfl | rfl | rfl | rfl
        · rfl
        · rfl
        · rw [hsv1]; rfl
        · rw [hsv2]; rfl
        · rfl
    have o6 : OwnR 0 TOp 5 R w6 (.slice ga s.ins.length gc) (s.ins.map fun o => (o, false)) := by
      rcases h6.ins with ⟨e1, e2, _⟩ | ⟨g, c, hh, e1, e2, e3, e4, e5, e6, e7, e8, e9, e10, e11, e12, e13, e14⟩
      · rw [e1] at e2 ⊢; rw [e2]; exact OwnR.nil
      · simp only [Value.slice.injEq, true_and] at e1
        obtain ⟨rfl, rfl⟩ := e1
        refine OwnR.conv (OwnR.len e3 (s.ins.map fun o => (o, false)) (by simp)) fun j hj r hr hone hcl => ?_
        have hj' : j < s.ins.length := by simpa using hj
        obtain ⟨rv, sv0, pv, q1, q2, _, _⟩ := e14.2 j hj'
        have e : r = row5 s.ins[j] rv sv0 pv := by
          refine List.ext_getElem? fun q => ?_
          by_cases hq : q < 5
          · have h1 : r[q]? = some r[q] := List.getElem?_eq_getElem (by omega)
            have h2 : (row5 s.ins[j] rv sv0 pv)[q]? = some (row5 s.ins[j] rv sv0 pv)[q] := List.getElem?_eq_getElem (by simpa using hq)
            have h3 := hcl q _ h1
            rw [q1 q _ h2] at h3
            rw [h1, h2, h3]
          · rw [List.getElem?_eq_none (by omega), List.getElem?_eq_none (by simp; omega)]
        subst e
        rw [List.getElem_map]
        refine q2.mod (Mod.refl (fun _ => False) _) (fun _ _ _ h => h) fun x hx hc => ?_
        rcases hc with hc | hc
        · exact ⟨.inl hc, (h'.cf x hc).2⟩
        · subst hc; exact ⟨.inr e2, (hhot _ e2).2.2.2.2⟩
    have pst : ∀ W1 W2 r y, w6.heap.size ≤ W1.heap.size → Mod (fun x => (Value.slice ga s.ins.length gc).ownBlock = some x ∨ w6.heap.size ≤ x) W1 W2 → R W1 r y → R W2 r y := by
      rintro W1 W2 r ⟨o, t⟩ hz hm hy
      cases t with
      | false =>
        refine RDop.mod hy hm (fun x _ hx e => ?_) fun _ _ h => h
        rcases e with e | e
        · obtain ⟨_, q2, _, _, q5, _⟩ := hiv x e
          rcases hx.1 with hc | hc
          · exact q2 hc
          · exact q5 hc
        · have := hx.2; omega
      | true =>
        obtain ⟨q1, q2, q3, q4⟩ := hy
        refine ⟨q1, OwnR.mod q2 hm (fun x hx e => ?_) fun _ _ _ h => h, q3.mono (fun _ _ h => h) (fun x hb hx => hm.same x hb fun e => ?_) (by decide) fun _ _ h => h, q4⟩
        · rw [hv2] at hx; cases hx
          rcases e with e | e
          · have := (hiv _ e).2.2.2.2.2; omega
          · omega
        · have h1 := OwnR.ownB n2 x hx
          rcases e with e | e
          · have := (hiv _ e).2.2.2.2.2; omega
          · omega
    refine push_g2 elem_dop o6 (Nat.zero_le _) (cs := row5 ⟨2, 0, rs, set, []⟩ t1 t2 (.slice none 0 0)) (x := ((⟨2, 0, rs, set, []⟩ : Dop), true)) (by subst hsv1; subst hsv2; kernel_rfl) rfl ⟨rfl, OwnR.base n1' fun _ _ => Nat.zero_le _, SlR.sub (OwnR.sl n2) (fun x _ hx => hx.2) (by decide) fun _ _ h => h, rfl⟩ hone pst (by simpa using hb1) (by simp only [List.length_map, maxLen]; omega) (fun _ g => Grow.mod g) fun w6' v' w7 o7 m6' m7 f7 => ?_
    refine ⟨m6'.mono fun x _ e => .inl ⟨rfl, e⟩, ?_⟩
    have z7 := m7.size
    have hv7 := OwnR.one o7
    obtain ⟨va, vc, rfl, _, _, hvp, hvn⟩ := OwnR.shape o7
    cases va with
    | none => have := hvn rfl; simp at this
    | some vp =>
    obtain ⟨g7, rfl, _, hg7, hown7⟩ := hvp _ rfl
    have ln7 : (s.ins.map (fun o => (o, false)) ++ [((⟨2, 0, rs, set, []⟩ : Dop), true)]).length = (addI s.ins rs set).length := by rw [eadd]; simp
    have hg7' := f7 g7 rfl
    have bne : ¬ (Value.slice ga s.ins.length gc).ownBlock = some b := hivb
    have Cne : ∀ x, C x → ¬ (Value.slice ga s.ins.length gc).ownBlock = some x := fun x hx e => (hiv x e).2.1 hx
    have h47 : MkR F w7 b s dv (.slice ga s.ins.length gc) C hot → True := fun _ => trivial
    have l7 : ∀ q, q < 3 → Live w7 ⟨b, q, none⟩ := fun q hq => (h6.lv q hq).mod m7 bne
    rw [nilckK_i, faK_i, addr0]
    refine (l7 1 (by decide)).st hv7.1 hv7.2 ⟨Mod.setCell _ _ _ (.inr ⟨rfl, rfl⟩), ?_⟩
    have m78 := setA w7 b 1 (Value.slice (some ⟨g7, 0, none⟩) (s.ins.map (fun o => (o, false)) ++ [((⟨2, 0, rs, set, []⟩ : Dop), true)]).length vc)
    have oth : ∀ q, q ≠ 1 → (⟨b, 1, none⟩ : Addr) ≠ ⟨b, q, none⟩ := fun q hq e => by simp only [Addr.mk.injEq] at e; omega
    obtain ⟨u1, hu1⟩ := Option.isSome_iff_exists.1 (l7 1 (by decide)).1
    have c8 : ∀ q u, q ≠ 1 → w6.cell? ⟨b, q, none⟩ = some u → (w7.setCell ⟨b, 1, none⟩ (Value.slice (some ⟨g7, 0, none⟩) (s.ins.map (fun o => (o, false)) ++ [((⟨2, 0, rs, set, []⟩ : Dop), true)]).length vc)).cell? ⟨b, q, none⟩ = some u := fun q u hq hu => (World.cell?_setCell_other _ _ _ _ (oth q hq)).trans (m7.cell hu bne)
    have c81 := World.cell?_setCell_same w7 ⟨b, 1, none⟩ (Value.slice (some ⟨g7, 0, none⟩) (s.ins.map (fun o => (o, false)) ++ [((⟨2, 0, rs, set, []⟩ : Dop), true)]).length vc) hu1
    have lv8 : ∀ q, q < 3 → Live (w7.setCell ⟨b, 1, none⟩ (Value.slice (some ⟨g7, 0, none⟩) (s.ins.map (fun o => (o, false)) ++ [((⟨2, 0, rs, set, []⟩ : Dop), true)]).length vc)) ⟨b, q, none⟩ := fun q hq => (l7 q hq).set _ _
    -- the blocks that the new rows do not lie in
    have hdv : ∀ x, dv.ownBlock = some x → x < w4.heap.size := fun x hx => (OwnR.ownB h'.done x hx).2
    have g7b : g7 ≠ b := fun e => by rcases hg7' with h | h; exact bne (e ▸ h); omega
    have g7C : ¬ C' g7 := by
      rintro (⟨hx | hx, hlt⟩ | hx)
      · rcases hg7' with h | h
        · exact (hiv _ h).2.1 hx
        · omega
      · rcases hg7' with h | h
        · exact (hiv _ h).2.2.2.2.1 hx
        · omega
      · have := OwnR.ownB n2 _ hx
        rcases hg7' with h | h
        · have := (hiv _ h).2.2.2.2.2; omega
        · omega
    have g7d : dv.ownBlock ≠ some g7 := fun e => by
      rcases hg7' with h | h
      · exact (hiv _ h).2.2.2.1 e
      · have := hdv _ e; omega
    have C'b : ∀ x, C' x → ¬ x = b := by
      rintro x (⟨hx | hx, hlt⟩ | hx) e
      · exact h'.nb (e ▸ hx)
      · exact (hhot x hx).2.2.1 e
      · have := OwnR.ownB n2 _ hx; omega
    have h2C : ¬ C' h2n := by
      rintro (⟨_, hlt⟩ | hx)
      · omega
      · have := OwnR.ownB n2 _ hx; have := (OwnR.ownB (OwnR.mod n1 (Mod.refl (fun _ => False) _) (fun _ _ h => h) fun _ _ _ h => h) _ hv2).2; omega
    have Cd : ∀ x, C x → C' x := fun x hx => .inl ⟨.inl hx, (h'.cf x hx).2⟩
    have o8 : OwnR 0 TOp 5 R (w7.setCell ⟨b, 1, none⟩ (Value.slice (some ⟨g7, 0, none⟩) (s.ins.map (fun o => (o, false)) ++ [((⟨2, 0, rs, set, []⟩ : Dop), true)]).length vc)) (Value.slice (some ⟨g7, 0, none⟩) (s.ins.map (fun o => (o, false)) ++ [((⟨2, 0, rs, set, []⟩ : Dop), true)]).length vc) (s.ins.map (fun o => (o, false)) ++ [((⟨2, 0, rs, set, []⟩ : Dop), true)]) := by
      refine OwnR.mod o7 m78 (fun x hx e => ?_) fun r y _ hy => ?_
      · simp only [Value.ownBlock, Option.some.injEq] at hx; subst hx; exact g7b e
      · obtain ⟨o, t⟩ := y
        cases t with
        | false => exact RDop.mod hy m78 (fun x _ hx e => C'b x (.inl hx) e) fun _ _ h => h
        | true =>
          obtain ⟨q1, q2, q3, q4⟩ := hy
          refine ⟨q1, OwnR.mod q2 m78 (fun x hx e => ?_) fun _ _ _ h => h, q3.mono (fun _ _ h => h) (fun x hb hx => m78.same x hb fun e => C'b x (.inr hx) e) (by decide) fun _ _ h => h, q4⟩
          rw [hv2] at hx; cases hx; omega
    generalize hW : w7.setCell ⟨b, 1, none⟩ (Value.slice (some ⟨g7, 0, none⟩) (s.ins.map (fun o => (o, false)) ++ [((⟨2, 0, rs, set, []⟩ : Dop), true)]).length vc) = W at m78 c8 c81 lv8 o8 ⊢
    have z8 := m78.size
    have m68 : Mod (fun x => (Value.slice ga s.ins.length gc).ownBlock = some x ∨ x = b) w6 W := (m7.mono fun _ _ e => .inl e).trans (m78.mono fun _ _ e => .inr e)
    have Cm : ∀ x, C x → ¬ ((Value.slice ga s.ins.length gc).ownBlock = some x ∨ x = b) := by
      rintro x hx (e | e)
      · exact Cne x hx e
      · exact h'.nb (e ▸ hx)
    refine ⟨⟨dv, _, C', some h2n, c8 0 _ (by decide) h6.c0, c81, c8 2 _ (by decide) h6.c2, lv8, .inl h'.fb, fun hx => C'b b hx rfl, ?_, ?_, fun x hx => ⟨.inl (h'.dF x hx).1, ?_, (h'.dF x hx).2.2⟩, .inr ⟨g7, vc, h2n, ?_, rfl, ?_, ?_, g7C, g7b, g7d, .inr (by omega), h2C, by omega, ?_, ?_, by omega, ?_⟩⟩, ?_⟩
    · rintro x (⟨hx | hx, hlt⟩ | hx)
      · exact ⟨.inl (h'.cf x hx).1, by omega⟩
      · exact ⟨.inl (hhot x hx).1, by omega⟩
      · have := OwnR.ownB n2 _ hx; exact ⟨.inr (by omega), by omega⟩
    · refine OwnR.mod h6.done m68 (fun x hx e => ?_) fun r x _ hx => (hx.cmod m68 Cm).mod (Mod.refl (fun _ => False) _) (fun _ _ _ h => h) fun y _ hy => Cd y hy
      rcases e with e | e
      · exact (hiv _ e).2.2.2.1 hx
      · exact (h'.dF x hx).2.2 e
    · rintro (⟨hc | hc, hlt⟩ | hc)
      · exact (h'.dF x hx).2.1 hc
      · exact (hhot x hc).2.2.2.1 hx
      · have := OwnR.ownB n2 _ hc; have := hdv x hx; omega
    · rw [ln7]
    · exact OwnR.len o8 _ ln7.symm
    · rcases hg7' with h | h
      · exact .inl (hiv _ h).1
      · exact .inr (by omega)
    · intro e
      rcases hg7' with h | h
      · have := (hiv _ h).2.2.2.2.2; omega
      · omega
    · intro e; have := hdv _ e; omega
    · rw [eadd]
      refine ⟨by simp, fun j hj => ?_⟩
      have hjL : j < (s.ins.map (fun o => (o, false)) ++ [((⟨2, 0, rs, set, []⟩ : Dop), true)]).length := by simpa using hj
      obtain ⟨r, hr, hcl, hR, _⟩ := OwnR.cellsOf o8 hjL
      by_cases hjl : j < s.ins.length
      · have e1 : (s.ins.map (fun o => (o, false)) ++ [((⟨2, 0, rs, set, []⟩ : Dop), true)])[j] = (s.ins[j], false) := by
          rw [List.getElem_append_left (by simpa using hjl)]; simp
        have e2 : (s.ins ++ [(⟨2, 0, rs, set, []⟩ : Dop)])[j] = s.ins[j] := by rw [List.getElem_append_left hjl]
        rw [e1] at hR
        have hR' : RDop C2 W r s.ins[j] := hR
        obtain ⟨rv, sv0, pv, rfl, p1, p2, p3⟩ := hR'
        rw [e2]
        have rd : RDop C' W (row5 s.ins[j] rv sv0 pv) s.ins[j] := RDop.mod (D := C2) ⟨rv, sv0, pv, rfl, p1, p2, p3⟩ (Mod.refl (fun _ => False) _) (fun _ _ _ h => h) fun x _ hx => .inl hx
        refine ⟨rv, sv0, pv, hcl, rd.mod (Mod.refl (fun _ => False) _) (fun _ _ _ h => h) fun x _ hx => .inl hx, fun e => ?_, fun _ => rd⟩
        simp at e; omega
      · have hje : j = s.ins.length := by simp at hj; omega
        subst hje
        have e1 : (s.ins.map (fun o => (o, false)) ++ [((⟨2, 0, rs, set, []⟩ : Dop), true)])[s.ins.length] = ((⟨2, 0, rs, set, []⟩ : Dop), true) := by
          rw [List.getElem_append_right (by simp)]; simp
        have e2 : (s.ins ++ [(⟨2, 0, rs, set, []⟩ : Dop)])[s.ins.length] = (⟨2, 0, rs, set, []⟩ : Dop) := by rw [List.getElem_append_right (by simp)]; simp
        rw [e1] at hR
        obtain ⟨rfl, q2, q3, q4⟩ := hR
        rw [e2]
        refine ⟨t1, t2, .slice none 0 0, hcl, ⟨t1, t2, .slice none 0 0, rfl, ?_, ?_, SlR.nil⟩, fun _ => ⟨q2, hv2, ?_, SlR.nil⟩, fun e => by simp at e⟩
        · exact own_rd (by decide) ⟨q2, fun x hx => .inr (by rw [hv2] at hx; exact (Option.some.inj hx).symm)⟩
        · exact SlR.sub q3 (fun x _ hx => .inl (.inr hx)) (by decide) fun _ _ h => h
        · exact SlR.sub q3 (fun x _ hx => .inr hx) (by decide) fun _ _ h => h
    · refine ((Grow.mod gd).trans (Grow.mod g46)).trans (m68.mono fun x _ e => ?_)
      rcases e with e | e
      · exact (hiv _ e).1
      · rw [e]; exact h'.fb
end Go.Proofs.YtlbaopamhkmepaaGreatDoor
