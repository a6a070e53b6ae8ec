/- Core of our own small calculus: the code of a function as a predicate of values (no slots left), and that it is sound for the model's calls. No conditions. -/
import Derived.Orders
import Derived.Scope
import Derived.Below
import Derived.Laws.Sem
import Derived.Laws.World
import Derived.Laws.Cells
import Derived.Laws.Small
import Derived.Laws.Entries
namespace Go.K
open Go

abbrev Env := Nat → Value
abbrev Cont := Value → World → Prop
abbrev EQ := Exit → Env → World → Prop

def upd (n : Nat) (e : Env) (i : Nat) (v : Value) : Env := fun j => bif Nat.beq j i && Nat.blt i n then v else e j
def updO (n : Nat) (e : Env) (d : Option Nat) (v : Value) : Env := match d with | some i => upd n e i v | none => e
def ev (e : Env) (x : Operand) : Value := match x with
  | .tmp t => e t | .const v => v | .global g => .pointer (some ⟨g, 0, none⟩) | .func f => .func (.func f) #[] #[]
def nth : List Value → Nat → Value
  | vs, 0 => vs.headD undef
  | vs, k + 1 => nth vs.tail k

structure Fr (ds : List Deferred) (n : Nat) (e : Env) (a : Act) : Prop where
  size : a.tmps.size = n
  get : ∀ t, a.tmps.getD t undef = e t
  defers : a.defers = ds

theorem Fr.eval {ds : List Deferred} {n : Nat} {e : Env} {a : Act} (h : Fr ds n e a) : a.eval = ev e := by
  funext x; cases x with
  | tmp t => exact h.get t
  | const v => rfl
  | global g => rfl
  | func f => rfl

theorem Fr.put {ds : List Deferred} {n : Nat} {e : Env} {a : Act} (h : Fr ds n e a) (d : Option Nat) (v : Value) : Fr ds n (updO n e d v) (a.put d v) := by
  cases d with
  | none => exact h
  | some i =>
    refine ⟨by simp [Act.put, h.size], fun t => ?_, h.defers⟩
    have hg := h.get t
    simp only [Act.put, updO, upd, Array.getD_eq_getD_getElem?, Array.getElem?_setIfInBounds, h.size]
    simp only [Array.getD_eq_getD_getElem?] at hg
    by_cases h1 : i = t
    · subst h1
      by_cases h2 : i < n
      · have h4 : Nat.blt i n = true := Nat.ble_eq_true_of_le (by omega)
        simp [h2, h4]
      · have h3 : a.tmps[i]? = none := Array.getElem?_eq_none (by rw [h.size]; omega)
        have h4 : Nat.blt i n = false := by
          cases hb : Nat.blt i n with
          | false => rfl
          | true => exact absurd (Nat.le_of_ble_eq_true hb) (by omega)
        rw [h3] at hg
        simp [h2, h4, hg]
    · have h5 : Nat.beq t i = false := by
        cases hb : Nat.beq t i with
        | false => rfl
        | true => exact absurd (Nat.eq_of_beq_eq_true hb).symm h1
      simp [h1, h5, hg]

/-! ### the small predicates -/

/-- the test of a bool -/
def condK (v : Value) (A B : Prop) : Prop := match v with | .bool true => A | .bool false => B | _ => False
def pickK (c a b : Value) (K : Value → Prop) : Prop := match c with | .bool true => K a | .bool false => K b | _ => False
def addK (k : IntKind) (x y : Value) (K : Value → Prop) : Prop := ∃ a b, x = .int k a ∧ y = .int k b ∧ K (.int k (k.wrap (a + b)))
def subK (k : IntKind) (x y : Value) (K : Value → Prop) : Prop := ∃ a b, x = .int k a ∧ y = .int k b ∧ K (.int k (k.wrap (a - b)))
def mulK (k : IntKind) (x y : Value) (K : Value → Prop) : Prop := ∃ a b, x = .int k a ∧ y = .int k b ∧ K (.int k (k.wrap (a * b)))
def ltK (k : IntKind) (x y : Value) (K : Value → Prop) : Prop := ∃ a b, x = .int k a ∧ y = .int k b ∧ K (.bool (decide (a < b)))
def leK (k : IntKind) (x y : Value) (K : Value → Prop) : Prop := ∃ a b, x = .int k a ∧ y = .int k b ∧ K (.bool (decide (a ≤ b)))
def gtK (k : IntKind) (x y : Value) (K : Value → Prop) : Prop := ∃ a b, x = .int k a ∧ y = .int k b ∧ K (.bool (decide (b < a)))
def geK (k : IntKind) (x y : Value) (K : Value → Prop) : Prop := ∃ a b, x = .int k a ∧ y = .int k b ∧ K (.bool (decide (b ≤ a)))
def eqK (k : IntKind) (x y : Value) (K : Value → Prop) : Prop := ∃ a b, x = .int k a ∧ y = .int k b ∧ K (.bool (decide (a = b)))
def neK (k : IntKind) (x y : Value) (K : Value → Prop) : Prop := ∃ a b, x = .int k a ∧ y = .int k b ∧ K (.bool (!decide (a = b)))
def beqK (x y : Value) (K : Value → Prop) : Prop := ∃ a b, x = .bool a ∧ y = .bool b ∧ K (.bool (a == b))
def bneK (x y : Value) (K : Value → Prop) : Prop := ∃ a b, x = .bool a ∧ y = .bool b ∧ K (.bool (!(a == b)))
def seqK (x y : Value) (K : Value → Prop) : Prop := ∃ a b, x = .string a ∧ y = .string b ∧ K (.bool (decide (a = b)))
def sneK (x y : Value) (K : Value → Prop) : Prop := ∃ a b, x = .string a ∧ y = .string b ∧ K (.bool (!decide (a = b)))
def snilK (x : Value) (K : Bool → Prop) : Prop := ∃ a n c, x = .slice a n c ∧ K (Option.isNone a)
def pnilK (x : Value) (K : Bool → Prop) : Prop := ∃ a, x = .pointer a ∧ K (Option.isNone a)
def maxK (k : IntKind) (x y : Value) (K : Value → Prop) : Prop := ∃ a b, x = .int k a ∧ y = .int k b ∧ K (.int k (if b > a then b else a))
def minK (k : IntKind) (x y : Value) (K : Value → Prop) : Prop := ∃ a b, x = .int k a ∧ y = .int k b ∧ K (.int k (if b < a then b else a))
def notK (x : Value) (K : Value → Prop) : Prop := ∃ a, x = .bool a ∧ K (.bool (!a))
def lenK (x : Value) (K : Value → Prop) : Prop := ∃ a n c, x = .slice a n c ∧ K (.int .i64 n)
def slenK (x : Value) (K : Value → Prop) : Prop := ∃ s, x = .string s ∧ K (.int .i64 s.size)
def nilckK (x : Value) (K : Value → Prop) : Prop := ∃ a, x = .pointer (some a) ∧ K x
def faK (off : Nat) (x : Value) (K : Value → Prop) : Prop := ∃ a, x = .pointer (some a) ∧ K (.pointer (some (a.add off)))
def ixK (size : Nat) (x i : Value) (K : Value → Prop) : Prop :=
  ∃ a n c k j, x = .slice (some a) n c ∧ i = .int k j ∧ 0 ≤ j ∧ j < n ∧ K (.pointer (some (a.add (j.toNat * size))))
def ld1K (x : Value) (K : Cont) (w : World) : Prop := ∃ a v, x = .pointer (some a) ∧ w.cell? a = some v ∧ K v w
def ldnK (k : Nat) (x : Value) (K : Cont) (w : World) : Prop :=
  ∃ a vs, x = .pointer (some a) ∧ List.length vs = k ∧ (∀ j v, vs[j]? = some v → w.cell? (a.add j) = some v) ∧ K (.agg vs.toArray) w
def st1K (x v : Value) (K : World → Prop) (w : World) : Prop :=
  ∃ a u, x = .pointer (some a) ∧ v.oneCell' = true ∧ v.cells = #[v] ∧ w.cell? a = some u ∧ w.frozen? a = false ∧ K (w.setCell a v)
def setL (w : World) (a : Addr) : Nat → List Value → World
  | _, [] => w
  | i, v :: vs => setL (w.setCell (a.add i) v) a (i + 1) vs
def stnK (k : Nat) (x v : Value) (K : World → Prop) (w : World) : Prop :=
  ∃ a vs, x = .pointer (some a) ∧ v = .agg (List.toArray vs) ∧ vs.length = k ∧ (∀ v ∈ vs, v.oneCell' = true) ∧
    (∀ j, j < k → (w.cell? (a.add j)).isSome = true ∧ w.frozen? (a.add j) = false) ∧ K (setL w a 0 vs)
def newK (t : TypeId) (cs : List Value) (K : Cont) (w : World) : Prop := K (.pointer (some ⟨w.heap.size, 0, none⟩)) (w.alloc (.cells cs.toArray t))
def box1K (t : TypeId) (x : Value) (K : Cont) (w : World) : Prop := x.cells = #[x] ∧ newK t [x] K w
def boxnK (t : TypeId) (x : Value) (K : Cont) (w : World) : Prop := ∃ vs, x = .agg (List.toArray vs) ∧ newK t vs K w
def buildK (places : List (Nat × Nat)) (zero : List Value) (parts : List (Nat × Value)) (K : Value → Prop) : Prop :=
  ∃ cs, Instr.fill (fun i => places[i]?) zero.toArray parts = some cs ∧ K (.agg cs)
def rowK (e : TypeId) (size len : Nat) (zero : List Value) (parts : List (Nat × Value)) (K : Cont) (w : World) : Prop :=
  ∃ cs, Instr.fill (fun i => some (i * size, size)) ((Array.range (len * size)).map (zero.toArray[· % zero.toArray.size]!)) parts = some cs ∧
    K (.slice (some ⟨w.heap.size, 0, none⟩) len len) (w.alloc (.cells cs e))
def extK (i : Nat) (x : Value) (K : Value → Prop) : Prop := ∃ vs v, x = .tuple (List.toArray vs) ∧ vs[i]? = some v ∧ K v
/-- whatever else: the model's own run -/
def runK (P : Program) (s : Sem Value) (K : Cont) (w : World) : Prop := ∃ v w', s.run P w = .ok v w' ∧ K v w'
def callK (P : Program) (g : Nat) (args : List Value) (K : Cont) (w : World) : Prop :=
  Calls P g args.toArray w fun e w' => ∃ v, e = .returned v ∧ K v w'
def callvK (P : Program) (ok : Nat → Bool) (f : Value) (args : List Value) (K : Cont) (w : World) : Prop :=
  ∃ g fst cap, f = .func (.func g) (List.toArray fst) (List.toArray cap) ∧ ok g = true ∧ callK P g (fst ++ args ++ cap) K w
def JoinK (R : List Value → World → Prop) (G : (List Value → World → Prop) → Prop) : Prop := ∃ I : List Value → World → Prop, (∀ vs w, I vs w → R vs w) ∧ G I
def LoopK (init : List Value) (F : List Value → (List Value → World → Prop) → World → Prop) (w : World) : Prop :=
  ∃ (I : List Value → World → Prop) (μ : List Value → World → Nat), I init w ∧ ∀ vs w, I vs w → F vs (fun vs' w' => I vs' w' ∧ μ vs' w' < μ vs w) w

/-! ### one operation -/

def aggOf (P : Program) (t : TypeId) : Option (Bool × Nat) :=
  match P.underlying t, P.info? t with
  | some (.struct _), some i => some (true, i.size)
  | some (.array _ _), some i => some (true, i.size)
  | some _, some i => some (false, i.size)
  | _, _ => none
def zeroOf (P : Program) (t : TypeId) : Option Value := match P.info? t with | some i => i.zero | none => none

def isNilS : Operand → Bool
  | .const (.slice none _ _) => true
  | _ => false
def isNilP : Operand → Bool
  | .const (.pointer none) => true
  | _ => false
def binS (op : BinOp) (t : TypeId) (xo yo : Operand) (x y : Value) : Sem Value := do eqGuard op t xo yo x y; binOp op t x y
def binD (P : Program) (op : BinOp) (t : TypeId) (yo : Operand) (x y : Value) (K : Value → Prop) (F : Prop) : Prop :=
  match P.underlying t with
  | some (.int k) => match op with
    | .add => addK k x y K | .sub => subK k x y K | .mul => mulK k x y K
    | .lss => ltK k x y K | .leq => leK k x y K | .gtr => gtK k x y K | .geq => geK k x y K
    | .eql => eqK k x y K | .neq => neK k x y K
    | _ => F
  | some .bool => match op with
    | .eql => beqK x y K | .neq => bneK x y K
    | _ => F
  | some .string => match op with
    | .eql => seqK x y K | .neq => sneK x y K
    | _ => F
  | some (.slice _) => bif isNilS yo then match op with
      | .eql => snilK x fun b => K (.bool b)
      | .neq => snilK x fun b => K (.bool (!b))
      | _ => F
    else F
  | some (.pointer _) => bif isNilP yo then match op with
      | .eql => pnilK x fun b => K (.bool b)
      | .neq => pnilK x fun b => K (.bool (!b))
      | _ => F
    else F
  | _ => F

def placesOf (P : Program) (fs : List Field) : Option (List (Nat × Nat)) :=
  match fs with
  | [] => some []
  | f :: r => match P.info? f.type, placesOf P r with | some i, some l => some ((f.offset, i.size) :: l) | _, _ => none

def opD (P : Program) (ok : Nat → Bool) (o : Oper) (ρ : Operand → Value) (K : Cont) (w : World) : Prop :=
  match o.op with
  | .move x => K (ρ x) w
  | .assign x => K (ρ x) w
  | .pick c a b => pickK (ρ c) (ρ a) (ρ b) fun v => K v w
  | .alloc t => match zeroOf P t with | some z => newK t z.cells.toList K w | none => False
  | .box t x => match aggOf P t with | some (false, _) => box1K t (ρ x) K w | some (true, _) => boxnK t (ρ x) K w | none => False
  | .load t x => match aggOf P t with | some (false, _) => ld1K (ρ x) K w | some (true, k) => ldnK k (ρ x) K w | none => False
  | .store t a x => match aggOf P t with
    | some (false, k) => bif Nat.beq k 1 then st1K (ρ a) (ρ x) (fun w => K undef w) w else False
    | some (true, k) => stnK k (ρ a) (ρ x) (fun w => K undef w) w
    | none => False
  | .nilCheck x => nilckK (ρ x) fun v => K v w
  | .binOp op t x y _ => binD P op t y (ρ x) (ρ y) (fun v => K v w) (runK P (binS op t x y (ρ x) (ρ y)) K w)
  | .unOp .not _ x => notK (ρ x) fun v => K v w
  | .unOp op _ x => runK P (Op.unary op (ρ x)) K w
  | .fieldAddr s x f => match P.underlying s with
    | some (.struct fs) => match fs.toList[f]? with
      | some f => match P.info? f.type with
        | some i => bif Nat.beq i.size 0 then False else faK f.offset (ρ x) fun v => K v w
        | none => False
      | none => False
    | _ => False
  | .indexAddr t x i => match P.underlying t with
    | some (.slice e) => match P.info? e with | some f => ixK f.size (ρ x) (ρ i) fun v => K v w | none => False
    | _ => runK P (Instr.indexAt t (ρ x) (ρ i)) K w
  | .build t parts => match P.underlying t, zeroOf P t with
    | some (.struct fs), some z => match placesOf P fs.toList with
      | some l => buildK l z.cells.toList (parts.toList.map fun p => (p.1, ρ p.2)) fun v => K v w
      | none => False
    | _, _ => runK P (Instr.build t (parts.toList.map fun p => (p.1, ρ p.2)).toArray) K w
  | .buildSlice t len parts => match P.underlying t with
    | some (.slice e) => match P.info? e with
      | some i => bif Nat.blt 0 (len * i.size) && Nat.ble (len * i.size) 1000000 then
          match i.zero with | some z => rowK e i.size len z.cells.toList (parts.toList.map fun p => (p.1, ρ p.2)) K w | none => False
        else bif Nat.beq (len * i.size) 0 then rowK e i.size len [] (parts.toList.map fun p => (p.1, ρ p.2)) K w else False
      | none => False
    | _ => False
  | .extract t i => extK i (ρ t) fun v => K v w
  | .makeFunc fn fst cap => K (.func fn (fst.toList.map ρ).toArray (cap.toList.map ρ).toArray) w
  | .convert s d x => runK P (convert s d (ρ x)) K w
  | .slice t x lo hi mx => runK P (Instr.sliceAt t (ρ x) (lo.map ρ) (hi.map ρ) (mx.map ρ)) K w
  | .field t x f => runK P (Instr.field t (ρ x) f) K w
  | .index t x i => runK P (Instr.index t (ρ x) (ρ i)) K w
  | .makeMap t r => runK P (Instr.makeMap t (r.map ρ)) K w
  | .makeSlice t l c => runK P (Instr.makeSlice t (ρ l) (ρ c)) K w
  | .makeInterface t x => runK P (Instr.makeInterface t (ρ x)) K w
  | .lookup t x i b => runK P (Instr.lookup t (ρ x) (ρ i) b) K w
  | .mapUpdate t m k x => runK P (do Instr.mapUpdate t (ρ m) (ρ k) (ρ x); pure undef) K w
  | .insert t m k x => runK P (do Instr.mapUpdate t (ρ m) (ρ k) (ρ x); pure undef) K w
  | .mapEntry t m k => runK P (Instr.mapEntry t (ρ m) (ρ k)) K w
  | .entryStore t m s x => runK P (do Instr.entryStore t (ρ m) (ρ s) (ρ x); pure undef) K w
  | .range t x => runK P (Instr.range t (ρ x)) K w
  | .next it s => runK P (Instr.next (ρ it) s o.type) K w
  | .entry it => runK P (Instr.entry (ρ it)) K w
  | .typeAssert x xt at_ b => runK P (Instr.typeAssert (ρ x) xt at_ b) K w
  | .call c => match c.callee with
    | .value (.func g) => bif ok g then callK P g (c.args.toList.map ρ) K w else False
    | .value f => callvK P ok (ρ f) (c.args.toList.map ρ) K w
    | .builtin .len => match c.argTypes.toList, c.args.toList with
      | [t], [x] => match P.underlying t with
        | some (.slice _) => lenK (ρ x) fun v => K v w
        | some .string => slenK (ρ x) fun v => K v w
        | _ => runK P (Builtin.len_ c.argTypes o.type #[ρ x]) K w
      | _, _ => False
    | .builtin .append => runK P (Builtin.append_ c.argTypes o.type (c.args.toList.map ρ).toArray) K w
    | .builtin .copy => runK P (Builtin.copy_ c.argTypes o.type (c.args.toList.map ρ).toArray) K w
    | .builtin .cap => runK P (Builtin.cap_ c.argTypes o.type (c.args.toList.map ρ).toArray) K w
    | .builtin .max => match P.underlying o.type, c.args.toList with
      | some (.int k), [x, y] => maxK k (ρ x) (ρ y) fun v => K v w
      | _, _ => runK P (Builtin.max_ c.argTypes o.type (c.args.toList.map ρ).toArray) K w
    | .builtin .min => match P.underlying o.type, c.args.toList with
      | some (.int k), [x, y] => minK k (ρ x) (ρ y) fun v => K v w
      | _, _ => runK P (Builtin.min_ c.argTypes o.type (c.args.toList.map ρ).toArray) K w
    | .builtin .clear => runK P (Builtin.clear_ c.argTypes o.type (c.args.toList.map ρ).toArray) K w
    | .builtin .delete => runK P (Builtin.delete_ c.argTypes o.type (c.args.toList.map ρ).toArray) K w
    | _ => False
  | _ => False

/-! ### each is what the model does -/

def GoodFns (P : Program) (ok : Nat → Bool) : Prop := ∀ g, ok g = true → ∀ args w, (callFunc g args).run P w = .ok (.enter g args) w

section
variable {P : Program} {ok : Nat → Bool} {K : Cont} {w : World}
theorem run_isAgg {t : TypeId} {b : Bool} {k : Nat} (h : aggOf P t = some (b, k)) (w : World) : (isAgg t).run P w = .ok b w ∧ (sizeOf t).run P w = .ok k w := by
  unfold aggOf at h
  unfold isAgg sizeOf underlying typeInfo
  simp only [Sem.run_bind, run_program, Result.andThen_ok]
  revert h
  cases hu : P.underlying t with
  | none => simp
  | some d => cases hi : P.info? t with
    | none => cases d <;> simp
    | some i => cases d <;> simp (config := { contextual := true }) [Sem.run_pure]
theorem run_typeInfo {t : TypeId} {i : TypeInfo} (h : P.info? t = some i) (w : World) : (typeInfo t).run P w = .ok i w := by
  simp [typeInfo, h]
theorem run_underlying {t : TypeId} {d : TypeDesc} (h : P.underlying t = some d) (w : World) : (underlying t).run P w = .ok d w := by
  simp [underlying, h]
theorem run_sizeOf {t : TypeId} {i : TypeInfo} (h : P.info? t = some i) (w : World) : (sizeOf t).run P w = .ok i.size w := by
  simp [sizeOf, run_typeInfo h]
theorem run_zeroValue {t : TypeId} {z : Value} (h : zeroOf P t = some z) (w : World) : (zeroValue t).run P w = .ok z w := by
  unfold zeroOf at h
  cases hi : P.info? t with
  | none => simp [hi] at h
  | some i => simp only [hi] at h; simp [zeroValue, run_typeInfo hi, h]
theorem ld1_run {t : TypeId} {k : Nat} {x : Value} (ha : aggOf P t = some (false, k)) (h : ld1K x K w) : runK P (Instr.loadAt t x) K w := by
  obtain ⟨a, v, rfl, hc, hK⟩ := h
  exact ⟨v, w, by simp [Instr.loadAt, Instr.sureAddr, loadVar, (run_isAgg ha w).1, hc], hK⟩
theorem ldn_run {t : TypeId} {k : Nat} {x : Value} (ha : aggOf P t = some (true, k)) (h : ldnK k x K w) : runK P (Instr.loadAt t x) K w := by
  obtain ⟨a, vs, rfl, hl, hc, hK⟩ := h
  refine ⟨_, w, ?_, hK⟩
  have hcells := run_loadCells_list (P := P) (w := w) a vs hc
  simp only [Instr.loadAt, Instr.sureAddr, loadVar, Sem.run_bind, Sem.run_pure, Result.andThen_ok, (run_isAgg ha w).1, (run_isAgg ha w).2, if_true]
  rw [← hl, hcells]
  rfl
theorem setL_run (a : Addr) : ∀ (vs : List Value) (i : Nat) (w : World), (∀ v ∈ vs, v.oneCell' = true) →
    (∀ j, i ≤ j → j < i + vs.length → (w.cell? (a.add j)).isSome = true ∧ w.frozen? (a.add j) = false) →
    (storeCells a vs i).run P w = .ok () (setL w a i vs) := by
  intro vs
  induction vs with
  | nil => intro i w _ _; simp [storeCells, setL]
  | cons v vs ih =>
    intro i w h1 h2
    have h3 := h2 i (Nat.le_refl _) (by simp)
    obtain ⟨u, hu⟩ := Option.isSome_iff_exists.1 h3.1
    simp only [storeCells, Sem.run_bind, run_store P w _ v .plain (h1 v (by simp)), hu, h3.2, setL]
    simp only [Bool.false_eq_true, if_false, Result.andThen_ok]
    refine ih (i + 1) _ (fun v hv => h1 v (by simp [hv])) (fun j hj hj2 => ?_)
    have h4 := h2 j (by omega) (by simp at hj2 ⊢; omega)
    refine ⟨?_, by rw [World.frozen?_setCell]; exact h4.2⟩
    obtain ⟨u', hu'⟩ := Option.isSome_iff_exists.1 h4.1
    by_cases he : a.add i = a.add j
    · rw [← he, World.cell?_setCell_same w _ v hu]; rfl
    · rw [World.cell?_setCell_other w _ _ v he, hu']; rfl
end
end Go.K
