/- The program's data as Lean data: runes, changes, ops. What the model's comparing says of them. No conditions. -/
import Derived.Test.YtmfplfaeibehiaaPQ
namespace Go.Proofs.Ytmfplfaeibehiaa
open Go Go.K

structure Chg where
  key : Int
  gone : Bool
  val : AVal
  deriving DecidableEq
def Chg.cells (a : Chg) : List Value := .int .i64 a.key :: .bool a.gone :: a.val.cells
theorem Chg.cells_len (a : Chg) : a.cells.length = 6 := rfl
abbrev RChg : World → List Value → Chg → Prop := fun _ r x => r = x.cells
abbrev RRune : World → List Value → Int → Prop := fun _ r x => r = [.int .i32 x]
/-- runes, patches in memory -/
abbrev RRun (S : Nat → Prop) (w : World) (v : Value) (l : List Int) : Prop := SlR S 1 RRune w v l
abbrev RPat (S : Nat → Prop) (w : World) (v : Value) (l : List Chg) : Prop := SlR S 6 RChg w v l
theorem RRune.one {w : World} {r : List Value} {x : Int} (h : RRune w r x) : ∀ u ∈ r, u.oneCell' = true := by
  subst h; intro u hu; simp at hu; subst hu; rfl
theorem RChg.one {w : World} {r : List Value} {x : Chg} (h : RChg w r x) : ∀ u ∈ r, u.oneCell' = true := by
  intro u hu
  subst h
  simp only [Chg.cells, AVal.cells, List.mem_cons, List.not_mem_nil, or_false] at hu
  rcases hu with rfl | rfl | rfl | rfl | rfl | rfl <;> rfl
theorem elem_rune : ElemOK Try.prog 56 21 1 4 := ⟨Try.t21, .int .i32 0, by kernel_rfl, by kernel_rfl, by kernel_rfl, by kernel_rfl, by kernel_rfl, by rfl, by decide⟩
theorem elem_chg : ElemOK Try.prog 57 61 6 56 := ⟨Try.t61, .agg #[.int .i64 0, .bool false, .int .u8 0, .int .i64 0, .int .u64 0, .string ⟨#[]⟩], by kernel_rfl, by kernel_rfl, by kernel_rfl, by kernel_rfl, by kernel_rfl, by rfl, by decide⟩

theorem eqIn_val (n : Nat) (x y : AVal) (w : World) :
    (Op.equalIn (n + 2) 44 (.agg x.cells.toArray) (.agg y.cells.toArray)).run Try.prog w = .ok (decide (x = y)) w := by
  have hV : Try.prog.underlying 44 = some (.struct (Try.prog.fieldsOf 44)) := by kernel_rfl
  have u2 := Try.underlying5
  have u3 := Try.underlying2
  have u4 := Try.underlying42
  have u5 := Try.underlying9
  have a3 := Try.isAgg5
  have a4 := Try.isAgg2
  have a5 := Try.isAgg42
  have a6 := Try.isAgg9
  rw [run_equalIn_agg w (n + 1) _ _ _ hV Try.stoodInHeld44]
  simp only [Program.fieldsOf, Try.underlying44, AVal.cells]
  have e1 : ∀ a b : Int, (Op.equalIn (n + 1) 5 (.int .u8 a) (.int .u8 b)).run Try.prog w = .ok (a == b) w := fun a b => run_equalIn_int w n _ _ _ a b u2
  have e2 : ∀ a b : Int, (Op.equalIn (n + 1) 2 (.int .i64 a) (.int .i64 b)).run Try.prog w = .ok (a == b) w := fun a b => run_equalIn_int w n _ _ _ a b u3
  have e3 : ∀ a b : Int, (Op.equalIn (n + 1) 42 (.int .u64 a) (.int .u64 b)).run Try.prog w = .ok (a == b) w := fun a b => run_equalIn_int w n _ _ _ a b u4
  have e4 : ∀ a b : ByteArray, (Op.equalIn (n + 1) 9 (.string a) (.string b)).run Try.prog w = .ok (a.toList == b.toList) w := fun a b => run_equalIn_string w n _ a b u5
  have q : decide (x = y) = (x.kind == y.kind && (x.n == y.n && (x.f == y.f && decide (x.s = y.s)))) := by
    cases x; cases y
    rw [Bool.eq_iff_iff]
    simp [AVal.mk.injEq]
  rw [q]
  simp [Op.eqFields, part, a3, a4, a5, a6, e1, e2, e3, e4, toList_beq]
  by_cases h1 : x.kind = y.kind <;> by_cases h2 : x.n = y.n <;> by_cases h3 : x.f = y.f <;> by_cases h4 : x.s = y.s <;> simp [h1, h2, h3, h4]
theorem eqIn_chg (a b : Chg) (w : World) :
    (Op.equalIn 10000 61 (.agg a.cells.toArray) (.agg b.cells.toArray)).run Try.prog w = .ok (decide (a = b)) w := by
  have hS : Try.prog.underlying 61 = some (.struct (Try.prog.fieldsOf 61)) := by kernel_rfl
  rw [show (10000 : Nat) = 9999 + 1 from rfl, run_equalIn_agg w 9999 _ _ _ hS Try.stoodInHeld61]
  simp only [Program.fieldsOf, Try.underlying61, Chg.cells, AVal.cells]
  have a1 := Try.isAgg3
  have a2 := Try.isAgg44
  have a3 := Try.isAgg4
  have z2 : ∀ w, (sizeOf 44).run Try.prog w = .ok 4 w := fun w => by simp only [sizeOf, Sem.run_bind, Try.typeInfo44, Result.andThen_ok, Sem.run_pure]; rfl
  have e1 : ∀ a b : Int, (Op.equalIn 9999 3 (.int .i64 a) (.int .i64 b)).run Try.prog w = .ok (a == b) w := fun a b => run_equalIn_int w 9998 _ _ _ a b Try.underlying3
  have e2 : ∀ a b : Bool, (Op.equalIn 9999 4 (.bool a) (.bool b)).run Try.prog w = .ok (a == b) w := fun a b => run_equalIn_bool w 9998 _ a b Try.underlying4
  have e3 : (Op.equalIn 9999 44 (.agg #[.int .u8 a.val.kind, .int .i64 a.val.n, .int .u64 a.val.f, .string a.val.s]) (.agg #[.int .u8 b.val.kind, .int .i64 b.val.n, .int .u64 b.val.f, .string b.val.s])).run Try.prog w = .ok (decide (a.val = b.val)) w := eqIn_val 9997 a.val b.val w
  have x1 : ∀ k l q r s t : Value, (#[k, l, q, r, s, t] : Array Value).extract 2 6 = #[q, r, s, t] := fun _ _ _ _ _ _ => rfl
  have q : decide (a = b) = (a.key == b.key && (a.gone == b.gone && decide (a.val = b.val))) := by
    cases a; cases b
    rw [Bool.eq_iff_iff]
    simp [Chg.mk.injEq]
  rw [q]
  simp [Op.eqFields, part, a1, a2, a3, z2, e1, e2, e3, x1]
  by_cases h1 : a.key = b.key <;> by_cases h2 : a.gone = b.gone <;> by_cases h3 : a.val = b.val <;> simp [h1, h2, h3]
theorem run_ne_chg (xo yo : Operand) (a b : Chg) (w : World) :
    (binS .neq 61 xo yo (.agg a.cells.toArray) (.agg b.cells.toArray)).run Try.prog w = .ok (.bool (!decide (a = b))) w := by
  simp only [binS, Sem.run_bind, run_eqGuard_agg w .neq _ xo yo _ _ Try.eqGuardType61, Result.andThen_ok]
  rw [run_neq_struct, eqIn_chg]; rfl
theorem run_eq_val (xo yo : Operand) (a b : AVal) (w : World) :
    (binS .eql 44 xo yo (.agg a.cells.toArray) (.agg b.cells.toArray)).run Try.prog w = .ok (.bool (decide (a = b))) w := by
  simp only [binS, Sem.run_bind, run_eqGuard_agg w .eql _ xo yo _ _ Try.eqGuardType44, Result.andThen_ok]
  rw [run_eql_struct, eqIn_val 9998]; rfl
theorem run_ne_val (xo yo : Operand) (a b : AVal) (w : World) :
    (binS .neq 44 xo yo (.agg a.cells.toArray) (.agg b.cells.toArray)).run Try.prog w = .ok (.bool (!decide (a = b))) w := by
  simp only [binS, Sem.run_bind, run_eqGuard_agg w .neq _ xo yo _ _ Try.eqGuardType44, Result.andThen_ok]
  rw [run_neq_struct, eqIn_val 9998]; rfl

/-! ### ops -/
structure Dop where
  kind : Int
  n : Int
  runes : List Int
  set : List Attr
  patch : List Chg
  deriving DecidableEq
/-- an op's five cells, its lists in blocks of D -/
def RDop (D : Nat → Prop) (w : World) (r : List Value) (o : Dop) : Prop := ∃ rv sv pv, r = [.int .u8 o.kind, .int .i64 o.n, rv, sv, pv] ∧ RRun D w rv o.runes ∧ RSet D w sv o.set ∧ RPat D w pv o.patch
theorem RDop.one {D : Nat → Prop} {w : World} {r : List Value} {o : Dop} (h : RDop D w r o) : ∀ u ∈ r, u.oneCell' = true := by
  obtain ⟨rv, sv, pv, rfl, h1, h2, h3⟩ := h
  obtain ⟨a1, c1, rfl, _⟩ := h1.shape
  obtain ⟨a2, c2, rfl, _⟩ := h2.shape
  obtain ⟨a3, c3, rfl, _⟩ := h3.shape
  intro u hu
  simp only [List.mem_cons, List.not_mem_nil, or_false] at hu
  rcases hu with rfl | rfl | rfl | rfl | rfl <;> rfl
theorem RDop.mod {D D' M : Nat → Prop} {w w' : World} {r : List Value} {o : Dop} (h : RDop D w r o) (hm : Mod M w w') (hD : ∀ b, b < w.heap.size → D b → ¬ M b) (hD' : ∀ b, b < w.heap.size → D b → D' b) : RDop D' w' r o := by
  obtain ⟨rv, sv, pv, rfl, h1, h2, h3⟩ := h
  exact ⟨rv, sv, pv, rfl, h1.mono hD' (fun b hb hd => hm.same b hb (hD b hb hd)) (by decide) fun _ _ h => h, h2.mono hD' (fun b hb hd => hm.same b hb (hD b hb hd)) (by decide) fun _ _ h => h, h3.mono hD' (fun b hb hd => hm.same b hb (hD b hb hd)) (by decide) fun _ _ h => h⟩
theorem elem_dop : ElemOK Try.prog 50 59 5 88 := ⟨Try.t59, .agg #[.int .u8 0, .int .i64 0, .slice none 0 0, .slice none 0 0, .slice none 0 0], by kernel_rfl, by kernel_rfl, by kernel_rfl, by kernel_rfl, by kernel_rfl, by rfl, by decide⟩
/-- ops in memory: their row in S, what they hold in D -/
abbrev RDops (S D : Nat → Prop) (w : World) (v : Value) (l : List Dop) : Prop := SlR S 5 (RDop D) w v l
theorem RDops.grow {S D : Nat → Prop} {w w' : World} {v : Value} {l : List Dop} (h : RDops S D w v l) (hg : Grow w w') : RDops S D w' v l :=
  SlR.grow h hg (by decide) fun _ _ hx => hx.mod hg (fun _ _ _ h => h) fun _ _ h => h
theorem RDops.mod {S D M : Nat → Prop} {w w' : World} {v : Value} {l : List Dop} (h : RDops S D w v l) (hm : Mod M w w') (hS : ∀ b, b < w.heap.size → S b → ¬ M b) (hD : ∀ b, b < w.heap.size → D b → ¬ M b) : RDops S D w' v l :=
  SlR.mono h (fun _ _ h => h) (fun b hb hs => hm.same b hb (hS b hb hs)) (by decide) fun _ _ hx => hx.mod hm hD fun _ _ h => h
/-- an op's lists in rows of their own, which lie in D -/
def ODop (D : Nat → Prop) (w : World) (r : List Value) (o : Dop) : Prop := ∃ rv sv pv, r = [.int .u8 o.kind, .int .i64 o.n, rv, sv, pv] ∧
  (OwnR 0 21 1 RRune w rv o.runes ∧ ∀ g, rv.ownBlock = some g → D g) ∧ (OSet 0 w sv o.set ∧ ∀ g, sv.ownBlock = some g → D g) ∧ (OwnR 0 61 6 RChg w pv o.patch ∧ ∀ g, pv.ownBlock = some g → D g)
theorem own_rd {α : Type} {e k : Nat} {R : World → List Value → α → Prop} {D : Nat → Prop} {w : World} {v : Value} {l : List α} (hk : 0 < k) (h : OwnR 0 e k R w v l ∧ ∀ g, v.ownBlock = some g → D g) : SlR D k R w v l :=
  SlR.sub (OwnR.sl h.1) (fun g _ hg => h.2 g hg.2) hk fun _ _ h => h
theorem own_mod {α : Type} {e k : Nat} {R : World → List Value → α → Prop} {D D' M : Nat → Prop} {w w' : World} {v : Value} {l : List α} (h : OwnR 0 e k R w v l ∧ ∀ g, v.ownBlock = some g → D g) (hm : Mod M w w') (hD : ∀ b, b < w.heap.size → D b → ¬ M b) (hD' : ∀ b, b < w.heap.size → D b → D' b)
    (hR : ∀ r x, R w r x → R w' r x) : OwnR 0 e k R w' v l ∧ ∀ g, v.ownBlock = some g → D' g :=
  ⟨OwnR.mod h.1 hm (fun g hg => hD g (OwnR.ownB h.1 g hg).2 (h.2 g hg)) fun r x _ hx => hR r x hx, fun g hg => hD' g (OwnR.ownB h.1 g hg).2 (h.2 g hg)⟩
theorem ODop.rd {D : Nat → Prop} {w : World} {r : List Value} {o : Dop} (h : ODop D w r o) : RDop D w r o := by
  obtain ⟨rv, sv, pv, rfl, h1, h2, h3⟩ := h
  exact ⟨rv, sv, pv, rfl, own_rd (by decide) h1, own_rd (by decide) h2, own_rd (by decide) h3⟩
theorem ODop.one {D : Nat → Prop} {w : World} {r : List Value} {o : Dop} (h : ODop D w r o) : ∀ u ∈ r, u.oneCell' = true := h.rd.one
theorem ODop.mod {D D' M : Nat → Prop} {w w' : World} {r : List Value} {o : Dop} (h : ODop D w r o) (hm : Mod M w w') (hD : ∀ b, b < w.heap.size → D b → ¬ M b) (hD' : ∀ b, b < w.heap.size → D b → D' b) : ODop D' w' r o := by
  obtain ⟨rv, sv, pv, rfl, h1, h2, h3⟩ := h
  exact ⟨rv, sv, pv, rfl, own_mod h1 hm hD hD' fun _ _ h => h, own_mod h2 hm hD hD' fun _ _ h => h, own_mod h3 hm hD hD' fun _ _ h => h⟩
/-- ops in memory of their own from B on, what they hold too; none of that lies in the row -/
def ODops (B : Nat) (w : World) (v : Value) (l : List Dop) : Prop := OwnR B 59 5 (ODop fun b => B ≤ b ∧ v.ownBlock ≠ some b) w v l
theorem ODops.sl {B : Nat} {w : World} {v : Value} {l : List Dop} (h : ODops B w v l) : RDops (fun b => B ≤ b ∧ v.ownBlock = some b) (fun b => B ≤ b ∧ v.ownBlock ≠ some b) w v l :=
  SlR.sub (OwnR.sl h) (fun _ _ h => h) (by decide) fun _ _ h => h.rd
theorem ODops.grow {B : Nat} {w w' : World} {v : Value} {l : List Dop} {M : Nat → Prop} (h : ODops B w v l) (hm : Mod M w w') (hM : ∀ b, b < w.heap.size → B ≤ b → ¬ M b) : ODops B w' v l :=
  OwnR.mod h hm (fun g hg => hM g (OwnR.ownB h g hg).2 (OwnR.ownB h g hg).1) fun r x _ hx => hx.mod hm (fun b hb hd => hM b hb hd.1) fun _ _ h => h
theorem ODops.reads {B : Nat} {w : World} {v : Value} {l : List Dop} (h : ODops B w v l) : RDops (fun b => B ≤ b ∧ b < w.heap.size) (fun b => B ≤ b ∧ b < w.heap.size) w v l :=
  SlR.sub (ODops.sl h) (fun b hb h => ⟨h.1, hb⟩) (by decide) fun r x hx => hx.mod (Mod.refl (fun _ => False) _) (fun _ _ _ h => h) fun b hb h => ⟨h.1, hb⟩
/-! ### keys -/
structure DKey where
  id : Int
  block : Bool
  kind : Int
  after : Bool
  before : Bool
  group : Int
  deriving DecidableEq
def DKey.cells (k : DKey) : List Value := [.int .i64 k.id, .bool k.block, .int .u8 k.kind, .bool k.after, .bool k.before, .int .i64 k.group]
abbrev RKey : World → List Value → DKey → Prop := fun _ r x => r = x.cells
abbrev RKeys (S : Nat → Prop) (w : World) (v : Value) (l : List DKey) : Prop := SlR S 6 RKey w v l
theorem RKey.one {w : World} {r : List Value} {x : DKey} (h : RKey w r x) : ∀ u ∈ r, u.oneCell' = true := by
  intro u hu
  subst h
  simp only [DKey.cells, List.mem_cons, List.not_mem_nil, or_false] at hu
  rcases hu with rfl | rfl | rfl | rfl | rfl | rfl <;> rfl
/-- how much there is in an attribute, a change, an op -/
def mAttr (a : Attr) : Nat := a.val.s.size + 1
def mChg (a : Chg) : Nat := a.val.s.size + 1
def mSet (l : List Attr) : Nat := (l.map mAttr).sum
def mPat (l : List Chg) : Nat := (l.map mChg).sum
def mDop (o : Dop) : Nat := 1 + o.runes.length + mSet o.set + mPat o.patch
def mDops (l : List Dop) : Nat := (l.map mDop).sum
end Go.Proofs.Ytmfplfaeibehiaa
