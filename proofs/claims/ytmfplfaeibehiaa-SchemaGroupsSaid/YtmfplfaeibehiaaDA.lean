/- The program's data as Lean data (attributes), and what Go's comparison says of them. No conditions. -/
import Derived.Test.YtmfplfaeibehiaaKE
import Derived.Test.YtmfplfaeibehiaaKF
import Derived.WalkKit
namespace Go.Proofs.Ytmfplfaeibehiaa
open Go Go.K

structure AVal where
  kind : Int
  n : Int
  f : Int
  s : ByteArray
  deriving DecidableEq
structure Attr where
  key : Int
  val : AVal
  deriving DecidableEq
def AVal.cells (v : AVal) : List Value := [.int .u8 v.kind, .int .i64 v.n, .int .u64 v.f, .string v.s]
def Attr.cells (a : Attr) : List Value := .int .i64 a.key :: a.val.cells
theorem Attr.cells_len (a : Attr) : a.cells.length = 5 := rfl

/-- a set of attributes in memory -/
abbrev RAttr : World → List Value → Attr → Prop := fun _ r x => r = x.cells
abbrev RSet (S : Nat → Prop) (w : World) (v : Value) (l : List Attr) : Prop := SlR S 5 RAttr w v l

theorem eqIn_attr (a b : Attr) (w : World) :
    (Op.equalIn 10000 46 (.agg a.cells.toArray) (.agg b.cells.toArray)).run Try.prog w = .ok (decide (a = b)) w := by
  have hS : Try.prog.underlying 46 = some (.struct (Try.prog.fieldsOf 46)) := by kernel_rfl
  have hV : Try.prog.underlying 44 = some (.struct (Try.prog.fieldsOf 44)) := by kernel_rfl
  have u1 := Try.underlying3
  have u2 := Try.underlying5
  have u3 := Try.underlying2
  have u4 := Try.underlying42
  have u5 := Try.underlying9
  rw [show (10000 : Nat) = 9999 + 1 from rfl, run_equalIn_agg w 9999 _ _ _ hS Try.stoodInHeld46]
  simp only [Program.fieldsOf, Try.underlying46, Attr.cells, AVal.cells]
  have a1 := Try.isAgg3
  have a2 := Try.isAgg44
  have z2 : ∀ w, (sizeOf 44).run Try.prog w = .ok 4 w := fun w => by simp only [sizeOf, Sem.run_bind, Try.typeInfo44, Result.andThen_ok, Sem.run_pure]; rfl
  have a3 := Try.isAgg5
  have a4 := Try.isAgg2
  have a5 := Try.isAgg42
  have a6 := Try.isAgg9
  have hv : ∀ (x y : AVal) (w : World), (Op.equalIn 9999 44 (.agg #[.int .u8 x.kind, .int .i64 x.n, .int .u64 x.f, .string x.s]) (.agg #[.int .u8 y.kind, .int .i64 y.n, .int .u64 y.f, .string y.s])).run Try.prog w = .ok (decide (x = y)) w := by
    intro x y w
    rw [show (9999 : Nat) = 9998 + 1 from rfl, run_equalIn_agg w 9998 _ _ _ hV Try.stoodInHeld44]
    simp only [Program.fieldsOf, Try.underlying44]
    have e1 : ∀ a b : Int, (Op.equalIn 9998 5 (.int .u8 a) (.int .u8 b)).run Try.prog w = .ok (a == b) w := fun a b => run_equalIn_int w 9997 _ _ _ a b u2
    have e2 : ∀ a b : Int, (Op.equalIn 9998 2 (.int .i64 a) (.int .i64 b)).run Try.prog w = .ok (a == b) w := fun a b => run_equalIn_int w 9997 _ _ _ a b u3
    have e3 : ∀ a b : Int, (Op.equalIn 9998 42 (.int .u64 a) (.int .u64 b)).run Try.prog w = .ok (a == b) w := fun a b => run_equalIn_int w 9997 _ _ _ a b u4
    have e4 : ∀ a b : ByteArray, (Op.equalIn 9998 9 (.string a) (.string b)).run Try.prog w = .ok (a.toList == b.toList) w := fun a b => run_equalIn_string w 9997 _ a b u5
    have q : decide (x = y) = (x.kind == y.kind && (x.n == y.n && (x.f == y.f && decide (x.s = y.s)))) := by
      cases x; cases y
      rw [Bool.eq_iff_iff]
      simp [AVal.mk.injEq]
    rw [q]
    simp [Op.eqFields, part, a3, a4, a5, a6, e1, e2, e3, e4, toList_beq]
    by_cases h1 : x.kind = y.kind <;> by_cases h2 : x.n = y.n <;> by_cases h3 : x.f = y.f <;> by_cases h4 : x.s = y.s <;> simp [h1, h2, h3, h4]
  have e1 : ∀ a b : Int, (Op.equalIn 9999 3 (.int .i64 a) (.int .i64 b)).run Try.prog w = .ok (a == b) w := fun a b => run_equalIn_int w 9998 _ _ _ a b u1
  have e2 : ∀ (x y : AVal) (w : World), (Op.equalIn 9999 44 (.agg #[.int .u8 x.kind, .int .i64 x.n, .int .u64 x.f, .string x.s]) (.agg #[.int .u8 y.kind, .int .i64 y.n, .int .u64 y.f, .string y.s])).run Try.prog w = .ok (decide (x = y)) w := hv
  have e3 := e2 a.val b.val w
  have x1 : ∀ k q r s t : Value, (#[k, q, r, s, t] : Array Value).extract 1 5 = #[q, r, s, t] := fun _ _ _ _ _ => rfl
  have q : decide (a = b) = (a.key == b.key && decide (a.val = b.val)) := by
    cases a; cases b
    rw [Bool.eq_iff_iff]
    simp [Attr.mk.injEq]
  rw [q]
  simp [Op.eqFields, part, a1, a2, z2, e1, x1, e3]
  by_cases h1 : a.key = b.key <;> by_cases h2 : a.val = b.val <;> simp [h1, h2]

theorem run_eq_attr (xo yo : Operand) (a b : Attr) (w : World) :
    (binS .eql 46 xo yo (.agg a.cells.toArray) (.agg b.cells.toArray)).run Try.prog w = .ok (.bool (decide (a = b))) w := by
  simp only [binS, Sem.run_bind, run_eqGuard_agg w .eql _ xo yo _ _ Try.eqGuardType46, Result.andThen_ok]
  rw [run_eql_struct, eqIn_attr]; rfl
theorem run_ne_attr (xo yo : Operand) (a b : Attr) (w : World) :
    (binS .neq 46 xo yo (.agg a.cells.toArray) (.agg b.cells.toArray)).run Try.prog w = .ok (.bool (!decide (a = b))) w := by
  simp only [binS, Sem.run_bind, run_eqGuard_agg w .neq _ xo yo _ _ Try.eqGuardType46, Result.andThen_ok]
  rw [run_neq_struct, eqIn_attr]; rfl
theorem elem_attr : ElemOK Try.prog 24 46 5 48 := ⟨Try.t46, .agg #[.int .i64 0, .int .u8 0, .int .i64 0, .int .u64 0, .string ⟨#[]⟩], by kernel_rfl, by kernel_rfl, by kernel_rfl, by kernel_rfl, by kernel_rfl, by rfl, by decide⟩
theorem RAttr.one {w : World} {r : List Value} {x : Attr} (h : RAttr w r x) : ∀ u ∈ r, u.oneCell' = true := by
  intro u hu
  subst h
  simp only [Attr.cells, AVal.cells, List.mem_cons, List.not_mem_nil, or_false] at hu
  rcases hu with rfl | rfl | rfl | rfl | rfl <;> rfl
/-- a set in memory of its own -/
abbrev OSet (B : Nat) (w : World) (v : Value) (l : List Attr) : Prop := OwnR B 46 5 RAttr w v l

/-! ### blocks -/
structure Blk where
  n : Int
  set : List Attr
  deriving DecidableEq
/-- a block's two cells, its set in blocks of D -/
def RBlk (D : Nat → Prop) (w : World) (r : List Value) (b : Blk) : Prop := ∃ sv, r = [.int .i64 b.n, sv] ∧ RSet D w sv b.set
theorem RBlk.one {D : Nat → Prop} {w : World} {r : List Value} {b : Blk} (h : RBlk D w r b) : ∀ u ∈ r, u.oneCell' = true := by
  obtain ⟨sv, rfl, hs⟩ := h
  obtain ⟨a, c, rfl, _⟩ := hs.shape
  intro u hu
  simp only [List.mem_cons, List.not_mem_nil, or_false] at hu
  rcases hu with rfl | rfl <;> rfl
theorem RBlk.mod {D D' M : Nat → Prop} {w w' : World} {r : List Value} {b : Blk} (h : RBlk D w r b) (hm : Mod M w w') (hD : ∀ b, b < w.heap.size → D b → ¬ M b) (hD' : ∀ b, b < w.heap.size → D b → D' b) : RBlk D' w' r b := by
  obtain ⟨sv, rfl, hs⟩ := h
  exact ⟨sv, rfl, hs.mono hD' (fun b hb hd => hm.same b hb (hD b hb hd)) (by decide) fun _ _ h => h⟩
theorem elem_blk : ElemOK Try.prog 27 34 2 32 := ⟨Try.t34, .agg #[.int .i64 0, .slice none 0 0], by kernel_rfl, by kernel_rfl, by kernel_rfl, by kernel_rfl, by kernel_rfl, by rfl, by decide⟩
/-- blocks in memory: their row in S, their sets in D -/
abbrev RBlks (S D : Nat → Prop) (w : World) (v : Value) (l : List Blk) : Prop := SlR S 2 (RBlk D) w v l
/-- a block's two cells, its set in a row of its own, which lies in D -/
def OBlk (D : Nat → Prop) (w : World) (r : List Value) (b : Blk) : Prop := ∃ sv, r = [.int .i64 b.n, sv] ∧ OSet 0 w sv b.set ∧ ∀ g, sv.ownBlock = some g → D g
theorem OBlk.rd {D : Nat → Prop} {w : World} {r : List Value} {b : Blk} (h : OBlk D w r b) : RBlk D w r b := by
  obtain ⟨sv, rfl, hs, hd⟩ := h
  exact ⟨sv, rfl, SlR.sub (OwnR.sl hs) (fun g _ hg => hd g hg.2) (by decide) fun _ _ h => h⟩
theorem OBlk.one {D : Nat → Prop} {w : World} {r : List Value} {b : Blk} (h : OBlk D w r b) : ∀ u ∈ r, u.oneCell' = true := h.rd.one
theorem OBlk.mod {D D' M : Nat → Prop} {w w' : World} {r : List Value} {b : Blk} (h : OBlk D w r b) (hm : Mod M w w') (hD : ∀ b, b < w.heap.size → D b → ¬ M b) (hD' : ∀ b, b < w.heap.size → D b → D' b) : OBlk D' w' r b := by
  obtain ⟨sv, rfl, hs, hd⟩ := h
  have hlt : ∀ g, sv.ownBlock = some g → g < w.heap.size := by
    intro g hg
    obtain ⟨a, c, rfl, _, _, hp, _⟩ := OwnR.shape hs
    cases a with
    | none => cases hg
    | some p => obtain ⟨g', rfl, h1, h2, h3⟩ := hp p rfl; rw [hg] at h3; cases h3; exact h2
  exact ⟨sv, rfl, OwnR.mod hs hm (fun g hg => hD g (hlt g hg) (hd g hg)) fun _ _ _ h => h, fun g hg => hD' g (hlt g hg) (hd g hg)⟩
/-- blocks in memory of their own from B on, their sets too; no set lies in the row -/
def OBlks (B : Nat) (w : World) (v : Value) (l : List Blk) : Prop := OwnR B 34 2 (OBlk fun b => B ≤ b ∧ v.ownBlock ≠ some b) w v l
theorem OBlks.sl {B : Nat} {w : World} {v : Value} {l : List Blk} (h : OBlks B w v l) : RBlks (fun b => B ≤ b ∧ v.ownBlock = some b) (fun b => B ≤ b ∧ v.ownBlock ≠ some b) w v l :=
  SlR.sub (OwnR.sl h) (fun _ _ h => h) (by decide) fun _ _ h => h.rd

def lastSame (l : List Blk) (set : List Attr) : Bool := match l.getLast? with | some b => decide (b.set = set) | none => false
def addB (l : List Blk) (n : Int) (set : List Attr) : List Blk :=
  if n ≤ 0 then l else
  match l.getLast? with
  | some b => if b.set = set then l.set (l.length - 1) ⟨IntKind.i64.wrap (b.n + n), b.set⟩ else l ++ [⟨n, set⟩]
  | none => l ++ [⟨n, set⟩]
theorem addB_len (l : List Blk) (n : Int) (set : List Attr) : (addB l n set).length ≤ l.length + 1 := by
  unfold addB
  split
  · omega
  · split
    · split <;> simp
    · simp
end Go.Proofs.Ytmfplfaeibehiaa
