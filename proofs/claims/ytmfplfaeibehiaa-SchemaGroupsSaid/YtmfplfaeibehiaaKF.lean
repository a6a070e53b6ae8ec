/- Steps of our calculus as equations; what a value reads as in memory; what a call may have turned. No conditions. -/
import Derived.Test.YtmfplfaeibehiaaKD
import Derived.Laws.AppendOwnNone
namespace Go.K
open Go

/-! ### steps, as rules of rewriting -/
section
variable {P : Program} {ok : Nat → Bool} {K : Cont} {k : Value → Prop} {w : World}
theorem condK_b (b : Bool) (A B : Prop) : condK (.bool b) A B = if b = true then A else B := by cases b <;> simp [condK]
theorem condK_d (p : Prop) [Decidable p] (A B : Prop) : condK (.bool (decide p)) A B = if p then A else B := by
  rw [condK_b]; by_cases h : p <;> simp [h]
theorem condK_n (b : Bool) (A B : Prop) : condK (.bool (!b)) A B = if b = true then B else A := by cases b <;> simp [condK]
theorem pickK_b (b : Bool) (x y : Value) : pickK (.bool b) x y k = k (if b = true then x else y) := by cases b <;> simp [pickK]
theorem addK_i (q : IntKind) (a b : Int) : addK q (.int q a) (.int q b) k = k (.int q (q.wrap (a + b))) := propext ⟨fun ⟨_, _, h1, h2, h⟩ => by cases h1; cases h2; exact h, fun h => ⟨_, _, rfl, rfl, h⟩⟩
theorem subK_i (q : IntKind) (a b : Int) : subK q (.int q a) (.int q b) k = k (.int q (q.wrap (a - b))) := propext ⟨fun ⟨_, _, h1, h2, h⟩ => by cases h1; cases h2; exact h, fun h => ⟨_, _, rfl, rfl, h⟩⟩
theorem mulK_i (q : IntKind) (a b : Int) : mulK q (.int q a) (.int q b) k = k (.int q (q.wrap (a * b))) := propext ⟨fun ⟨_, _, h1, h2, h⟩ => by cases h1; cases h2; exact h, fun h => ⟨_, _, rfl, rfl, h⟩⟩
theorem ltK_i (q : IntKind) (a b : Int) : ltK q (.int q a) (.int q b) k = k (.bool (decide (a < b))) := propext ⟨fun ⟨_, _, h1, h2, h⟩ => by cases h1; cases h2; exact h, fun h => ⟨_, _, rfl, rfl, h⟩⟩
theorem leK_i (q : IntKind) (a b : Int) : leK q (.int q a) (.int q b) k = k (.bool (decide (a ≤ b))) := propext ⟨fun ⟨_, _, h1, h2, h⟩ => by cases h1; cases h2; exact h, fun h => ⟨_, _, rfl, rfl, h⟩⟩
theorem gtK_i (q : IntKind) (a b : Int) : gtK q (.int q a) (.int q b) k = k (.bool (decide (b < a))) := propext ⟨fun ⟨_, _, h1, h2, h⟩ => by cases h1; cases h2; exact h, fun h => ⟨_, _, rfl, rfl, h⟩⟩
theorem geK_i (q : IntKind) (a b : Int) : geK q (.int q a) (.int q b) k = k (.bool (decide (b ≤ a))) := propext ⟨fun ⟨_, _, h1, h2, h⟩ => by cases h1; cases h2; exact h, fun h => ⟨_, _, rfl, rfl, h⟩⟩
theorem eqK_i (q : IntKind) (a b : Int) : eqK q (.int q a) (.int q b) k = k (.bool (decide (a = b))) := propext ⟨fun ⟨_, _, h1, h2, h⟩ => by cases h1; cases h2; exact h, fun h => ⟨_, _, rfl, rfl, h⟩⟩
theorem neK_i (q : IntKind) (a b : Int) : neK q (.int q a) (.int q b) k = k (.bool (!decide (a = b))) := propext ⟨fun ⟨_, _, h1, h2, h⟩ => by cases h1; cases h2; exact h, fun h => ⟨_, _, rfl, rfl, h⟩⟩
theorem maxK_i (q : IntKind) (a b : Int) : maxK q (.int q a) (.int q b) k = k (.int q (if b > a then b else a)) := propext ⟨fun ⟨_, _, h1, h2, h⟩ => by cases h1; cases h2; exact h, fun h => ⟨_, _, rfl, rfl, h⟩⟩
theorem minK_i (q : IntKind) (a b : Int) : minK q (.int q a) (.int q b) k = k (.int q (if b < a then b else a)) := propext ⟨fun ⟨_, _, h1, h2, h⟩ => by cases h1; cases h2; exact h, fun h => ⟨_, _, rfl, rfl, h⟩⟩
theorem beqK_i (a b : Bool) : beqK (.bool a) (.bool b) k = k (.bool (a == b)) := propext ⟨fun ⟨_, _, h1, h2, h⟩ => by cases h1; cases h2; exact h, fun h => ⟨_, _, rfl, rfl, h⟩⟩
theorem bneK_i (a b : Bool) : bneK (.bool a) (.bool b) k = k (.bool (!(a == b))) := propext ⟨fun ⟨_, _, h1, h2, h⟩ => by cases h1; cases h2; exact h, fun h => ⟨_, _, rfl, rfl, h⟩⟩
theorem seqK_i (a b : ByteArray) : seqK (.string a) (.string b) k = k (.bool (decide (a = b))) := propext ⟨fun ⟨_, _, h1, h2, h⟩ => by cases h1; cases h2; exact h, fun h => ⟨_, _, rfl, rfl, h⟩⟩
theorem sneK_i (a b : ByteArray) : sneK (.string a) (.string b) k = k (.bool (!decide (a = b))) := propext ⟨fun ⟨_, _, h1, h2, h⟩ => by cases h1; cases h2; exact h, fun h => ⟨_, _, rfl, rfl, h⟩⟩
theorem snilK_i (a : Option Addr) (n c : Nat) (k : Bool → Prop) : snilK (.slice a n c) k = k a.isNone := propext ⟨fun ⟨_, _, _, h1, h⟩ => by cases h1; exact h, fun h => ⟨_, _, _, rfl, h⟩⟩
theorem pnilK_i (a : Option Addr) (k : Bool → Prop) : pnilK (.pointer a) k = k a.isNone := propext ⟨fun ⟨_, h1, h⟩ => by cases h1; exact h, fun h => ⟨_, rfl, h⟩⟩
theorem notK_i (a : Bool) : notK (.bool a) k = k (.bool (!a)) := propext ⟨fun ⟨_, h1, h⟩ => by cases h1; exact h, fun h => ⟨_, rfl, h⟩⟩
theorem lenK_i (a : Option Addr) (n c : Nat) : lenK (.slice a n c) k = k (.int .i64 n) := propext ⟨fun ⟨_, _, _, h1, h⟩ => by cases h1; exact h, fun h => ⟨_, _, _, rfl, h⟩⟩
theorem slenK_i (s : ByteArray) : slenK (.string s) k = k (.int .i64 s.size) := propext ⟨fun ⟨_, h1, h⟩ => by cases h1; exact h, fun h => ⟨_, rfl, h⟩⟩
theorem nilckK_i (a : Addr) : nilckK (.pointer (some a)) k = k (.pointer (some a)) := propext ⟨fun ⟨_, h1, h⟩ => by cases h1; exact h, fun h => ⟨_, rfl, h⟩⟩
theorem faK_i (off : Nat) (a : Addr) : faK off (.pointer (some a)) k = k (.pointer (some (a.add off))) := propext ⟨fun ⟨_, h1, h⟩ => by cases h1; exact h, fun h => ⟨_, rfl, h⟩⟩
theorem nth_z (vs : List Value) : nth vs 0 = vs.headD undef := rfl
theorem nth_s (vs : List Value) (k : Nat) : nth vs (k + 1) = nth vs.tail k := rfl
theorem Addr.add_add (a : Addr) (x y : Nat) : (a.add x).add y = a.add (x + y) := by
  unfold Addr.add
  split <;> split <;> simp_all <;> omega
theorem ixK_i {s : Nat} {a : Addr} {n c : Nat} {q : IntKind} {j : Int} (h0 : 0 ≤ j) (h1 : j < n) (h : k (.pointer (some (a.add (j.toNat * s))))) : ixK s (.slice (some a) n c) (.int q j) k := ⟨_, _, _, _, _, rfl, rfl, h0, h1, h⟩
theorem ixK_n {s : Nat} {a : Addr} {n c : Nat} {q : IntKind} {j : Nat} (h1 : j < n) (h : k (.pointer (some (a.add (j * s))))) : ixK s (.slice (some a) n c) (.int q (j : Int)) k :=
  ⟨_, _, _, _, _, rfl, rfl, by omega, by omega, by simpa using h⟩
theorem ld1K_i {a : Addr} {v : Value} (hc : w.cell? a = some v) (h : K v w) : ld1K (.pointer (some a)) K w := ⟨a, v, rfl, hc, h⟩
theorem ldnK_i {n : Nat} {a : Addr} {vs : List Value} (hl : vs.length = n) (hc : ∀ j v, vs[j]? = some v → w.cell? (a.add j) = some v) (h : K (.agg vs.toArray) w) : ldnK n (.pointer (some a)) K w := ⟨a, vs, rfl, hl, hc, h⟩
theorem qld1K_i {C : World → Prop} {a : Addr} {v : Value} (hc : ∀ w, C w → w.cell? a = some v) (h : k v) : qld1K C (.pointer (some a)) k := ⟨a, v, rfl, hc, h⟩
theorem qldnK_i {C : World → Prop} {n : Nat} {a : Addr} {vs : List Value} (hl : vs.length = n) (hc : ∀ w, C w → ∀ j v, vs[j]? = some v → w.cell? (a.add j) = some v) (h : k (.agg vs.toArray)) : qldnK C n (.pointer (some a)) k := ⟨a, vs, rfl, hl, hc, h⟩
theorem st1K_i {a : Addr} {v u : Value} {K : World → Prop} (h1 : v.oneCell' = true) (h2 : v.cells = #[v]) (hc : w.cell? a = some u) (hf : w.frozen? a = false) (h : K (w.setCell a v)) : st1K (.pointer (some a)) v K w := ⟨a, u, rfl, h1, h2, hc, hf, h⟩
theorem extK_i {i : Nat} {vs : List Value} {v : Value} (hv : vs[i]? = some v) (h : k v) : extK i (.tuple vs.toArray) k := ⟨vs, v, rfl, hv, h⟩
theorem JoinK_i {R : List Value → World → Prop} {G : (List Value → World → Prop) → Prop} (I : List Value → World → Prop) (h1 : ∀ vs w, I vs w → R vs w) (h2 : G I) : JoinK R G := ⟨I, h1, h2⟩
theorem LoopK_i {init : List Value} {F : List Value → (List Value → World → Prop) → World → Prop} (I : List Value → World → Prop) (μ : List Value → World → Nat) (h0 : I init w) (h : ∀ vs w, I vs w → F vs (fun vs' w' => I vs' w' ∧ μ vs' w' < μ vs w) w) : LoopK init F w := ⟨I, μ, h0, h⟩
theorem callK_mono {g : Nat} {args : List Value} {K' : Cont} (h : callK P g args K w) (hk : ∀ v w', K v w' → K' v w') : callK P g args K' w :=
  Calls.mono h fun _ _ ⟨v, h1, h2⟩ => ⟨v, h1, hk _ _ h2⟩
theorem runK_i {s : Sem Value} {v : Value} {w' : World} (h1 : s.run P w = .ok v w') (h : K v w') : runK P s K w := ⟨v, w', h1, h⟩
theorem newK_i {t : TypeId} {cs : List Value} (h : K (.pointer (some ⟨w.heap.size, 0, none⟩)) (w.alloc (.cells cs.toArray t))) : newK t cs K w := h
theorem wrap64 {x : Int} (h0 : -9223372036854775808 ≤ x) (h1 : x ≤ 9223372036854775807) : IntKind.i64.wrap x = x := by
  have e1 : (2 : Int) ^ IntKind.i64.bits = 18446744073709551616 := by decide
  have e2 : (2 : Int) ^ (IntKind.i64.bits - 1) = 9223372036854775808 := by decide
  simp only [IntKind.wrap, e1, e2, IntKind.signed, Bool.true_and, decide_eq_true_eq]
  split <;> omega
/-- a variable that is laid and filled at once -/
theorem setL_new (w : World) (t : TypeId) : ∀ (vs done zs : List Value), zs.length = vs.length → setL (w.alloc (.cells (done ++ zs).toArray t)) ⟨w.heap.size, 0, none⟩ done.length vs = w.alloc (.cells (done ++ vs).toArray t) := by
  intro vs
  induction vs with
  | nil => intro done zs hl; have : zs = [] := List.eq_nil_of_length_eq_zero hl; subst this; rfl
  | cons v vs ih =>
    intro done zs hl
    cases zs with
    | nil => simp at hl
    | cons z zs =>
      simp only [setL]
      have h1 : (w.alloc (.cells (done ++ z :: zs).toArray t)).setCell ((⟨w.heap.size, 0, none⟩ : Addr).add done.length) v = w.alloc (.cells ((done ++ [v]) ++ zs).toArray t) := by
        have hadd : (⟨w.heap.size, 0, none⟩ : Addr).add done.length = ⟨w.heap.size, done.length, none⟩ := by unfold Addr.add; split <;> simp_all
        rw [hadd]
        simp only [World.setCell, World.alloc]
        congr 1
        rw [← Array.toList_inj, Array.toList_modify]
        simp only [Array.toList_push]
        apply List.ext_getElem?
        intro i
        rw [List.getElem?_modify]
        by_cases hi : w.heap.size = i
        · subst hi
          simp [List.getElem?_append, List.setIfInBounds_toArray]
        · rcases Nat.lt_or_gt_of_ne hi with hlt | hgt
          · have h9 : ¬ i < w.heap.size := by omega
            have h10 : ¬ i - w.heap.size = 0 := by omega
            simp [hi, List.getElem?_append, List.getElem?_singleton, h9, h10]
          · simp [hi, List.getElem?_append, hgt]
      rw [h1]
      have := ih (done ++ [v]) zs (by simpa using hl)
      simpa using this
theorem stnew {t : TypeId} {zs vs : List Value} {K : World → Prop} (hl : zs.length = vs.length) (h1 : ∀ v ∈ vs, v.oneCell' = true) (h : K (w.alloc (.cells vs.toArray t))) :
    stnK vs.length (.pointer (some ⟨w.heap.size, 0, none⟩)) (.agg vs.toArray) K (w.alloc (.cells zs.toArray t)) := by
  refine ⟨_, vs, rfl, rfl, rfl, h1, fun j hj => ?_, ?_⟩
  · have hadd : (⟨w.heap.size, 0, none⟩ : Addr).add j = ⟨w.heap.size, j, none⟩ := by unfold Addr.add; split <;> simp_all
    rw [hadd, World.cell?_alloc_new, World.frozen?_alloc_new]
    refine ⟨?_, rfl⟩
    have : j < zs.length := by omega
    simp [this]
  · have := setL_new w t vs [] zs hl
    simp only [List.nil_append, List.length_nil] at this
    rw [this]; exact h
end

/-- the steps, as one rule of rewriting -/
theorem KS :
    (∀ (b : Bool) (A B : Prop), condK (.bool b) A B = if b = true then A else B) ∧
    (∀ {p : Prop} [Decidable p], (decide p = true) = p) ∧
    (∀ {a b : Bool}, ((!a) = b) ↔ (a = !b)) ∧
    ((!true) = false) ∧
    (∀ {p : Prop} [Decidable p], decide p = false ↔ ¬p) ∧
    (∀ {k : Value → Prop} (b : Bool) (x y : Value), pickK (.bool b) x y k = k (if b = true then x else y)) ∧
    (∀ {k : Value → Prop} (q : IntKind) (a b : Int), addK q (.int q a) (.int q b) k = k (.int q (q.wrap (a + b)))) ∧
    (∀ {k : Value → Prop} (q : IntKind) (a b : Int), subK q (.int q a) (.int q b) k = k (.int q (q.wrap (a - b)))) ∧
    (∀ {k : Value → Prop} (q : IntKind) (a b : Int), mulK q (.int q a) (.int q b) k = k (.int q (q.wrap (a * b)))) ∧
    (∀ {k : Value → Prop} (q : IntKind) (a b : Int), ltK q (.int q a) (.int q b) k = k (.bool (decide (a < b)))) ∧
    (∀ {k : Value → Prop} (q : IntKind) (a b : Int), leK q (.int q a) (.int q b) k = k (.bool (decide (a ≤ b)))) ∧
    (∀ {k : Value → Prop} (q : IntKind) (a b : Int), gtK q (.int q a) (.int q b) k = k (.bool (decide (b < a)))) ∧
    (∀ {k : Value → Prop} (q : IntKind) (a b : Int), geK q (.int q a) (.int q b) k = k (.bool (decide (b ≤ a)))) ∧
    (∀ {k : Value → Prop} (q : IntKind) (a b : Int), eqK q (.int q a) (.int q b) k = k (.bool (decide (a = b)))) ∧
    (∀ {k : Value → Prop} (q : IntKind) (a b : Int), neK q (.int q a) (.int q b) k = k (.bool (!decide (a = b)))) ∧
    (∀ {k : Value → Prop} (q : IntKind) (a b : Int), maxK q (.int q a) (.int q b) k = k (.int q (if b > a then b else a))) ∧
    (∀ {k : Value → Prop} (q : IntKind) (a b : Int), minK q (.int q a) (.int q b) k = k (.int q (if b < a then b else a))) ∧
    (∀ {k : Value → Prop} (a b : Bool), beqK (.bool a) (.bool b) k = k (.bool (a == b))) ∧
    (∀ {k : Value → Prop} (a b : Bool), bneK (.bool a) (.bool b) k = k (.bool (!(a == b)))) ∧
    (∀ {k : Value → Prop} (a b : ByteArray), seqK (.string a) (.string b) k = k (.bool (decide (a = b)))) ∧
    (∀ {k : Value → Prop} (a b : ByteArray), sneK (.string a) (.string b) k = k (.bool (!decide (a = b)))) ∧
    (∀ (a : Option Addr) (n c : Nat) (k : Bool → Prop), snilK (.slice a n c) k = k a.isNone) ∧
    (∀ (a : Option Addr) (k : Bool → Prop), pnilK (.pointer a) k = k a.isNone) ∧
    (∀ {k : Value → Prop} (a : Bool), notK (.bool a) k = k (.bool (!a))) ∧
    (∀ {k : Value → Prop} (a : Option Addr) (n c : Nat), lenK (.slice a n c) k = k (.int .i64 n)) ∧
    (∀ {k : Value → Prop} (s : ByteArray), slenK (.string s) k = k (.int .i64 s.size)) ∧
    (∀ {k : Value → Prop} (a : Addr), nilckK (.pointer (some a)) k = k (.pointer (some a))) ∧
    (∀ {k : Value → Prop} (off : Nat) (a : Addr), faK off (.pointer (some a)) k = k (.pointer (some (a.add off)))) ∧
    (∀ (a : Addr) (x y : Nat), (a.add x).add y = a.add (x + y)) ∧
    (∀ (vs : List Value), nth vs 0 = vs.headD undef) ∧
    (∀ (vs : List Value) (k : Nat), nth vs (k + 1) = nth vs.tail k) ∧
    (∀ {a d : Value} {l : List Value}, (a :: l).headD d = a) ∧
    (∀ {a : Value} {l : List Value}, (a :: l).tail = l) ∧
    ((none : Option Addr).isNone = true) ∧
    (∀ {a : Addr}, (some a).isNone = false) ∧
    ((false = true) = False) ∧
    (∀ {α : Type} {h : Decidable True} (t e : α), (@ite α True h t e) = t) ∧
    (∀ {α : Type} {h : Decidable False} (t e : α), (@ite α False h t e) = e) :=
  ⟨@condK_b, by simp, by intro a b; cases a <;> cases b <;> simp, by simp, by simp, @pickK_b, @addK_i, @subK_i, @mulK_i, @ltK_i, @leK_i, @gtK_i, @geK_i, @eqK_i, @neK_i, @maxK_i, @minK_i, @beqK_i, @bneK_i, @seqK_i, @sneK_i, @snilK_i, @pnilK_i, @notK_i, @lenK_i, @slenK_i, @nilckK_i, @faK_i, @Addr.add_add, @nth_z, @nth_s, by simp, by simp, by simp, by simp, by simp, by simp, by simp⟩

/-! ### what a call may have turned -/
abbrev Grow (w w' : World) : Prop := Mod (fun _ => False) w w'
theorem Grow.mod {M : Nat → Prop} {w w' : World} (h : Grow w w') : Mod M w w' := Mod.mono h fun _ _ h => h.elim
theorem Mod.of_below {w w' : World} {B : Nat} (h : RowKit.Below B w w') : Mod (fun b => B ≤ b) w w' := ⟨h.os, h.tape, h.output, h.size, fun b _ hn => h.block b (by omega)⟩
theorem Mod.below {w w' : World} {B : Nat} {M : Nat → Prop} (h : Mod M w w') (hB : B ≤ w.heap.size) (hm : ∀ b, M b → B ≤ b) : RowKit.Below B w w' :=
  ⟨h.os, h.tape, h.output, h.size, fun b hb => h.same b (by omega) fun h' => by have := hm b h'; omega⟩
theorem Mod.drew (M : Nat → Prop) (w : World) : Mod M w w.drew := ⟨rfl, rfl, rfl, Nat.le_refl _, fun _ _ _ => rfl⟩
theorem Mod.alloc (M : Nat → Prop) (w : World) (o : Obj) : Mod M w (w.alloc o) := ⟨rfl, rfl, rfl, by simp, fun b hb _ => RowKit.Below.heap_alloc w o b hb⟩
theorem Mod.setCell {M : Nat → Prop} (w : World) (a : Addr) (v : Value) (h : M a.block) : Mod M w (w.setCell a v) := ⟨rfl, rfl, rfl, by simp, fun b _ hn => RowKit.Below.heap_setCell w a v b fun e => hn (e ▸ h)⟩
theorem Mod.of_grownBy {w w' : World} {row : Option Nat} (h : w.grownBy w' row) : Mod (fun b => row = some b) w w' := ⟨h.os, h.tape, h.output, h.size, fun b hb hn => h.block b hb fun e => hn e.symm⟩
theorem Mod.grownBy {w w' : World} {row : Option Nat} (h : Mod (fun b => row = some b) w w') : w.grownBy w' row := ⟨h.os, h.tape, h.output, h.size, fun b hb hn => h.same b hb fun e => hn e.symm⟩
theorem Mod.cell {M : Nat → Prop} {w w' : World} (h : Mod M w w') {a : Addr} {v : Value} (hc : w.cell? a = some v) (hm : ¬ M a.block) : w'.cell? a = some v :=
  (World.cell?_of_block (h.same a.block (World.block_lt_of_cell? w a hc) hm)).trans hc
theorem Mod.frozen {M : Nat → Prop} {w w' : World} (h : Mod M w w') {a : Addr} (hb : a.block < w.heap.size) (hm : ¬ M a.block) : w'.frozen? a = w.frozen? a :=
  World.frozen?_of_block (h.same a.block hb hm)

/-! ### what a slice reads as -/
/-- the slice value v reads as the list l: element i at its place, k cells each, by the relation R; all of it in blocks of S -/
def SlR {α : Type} (S : Nat → Prop) (k : Nat) (R : World → List Value → α → Prop) (w : World) (v : Value) (l : List α) : Prop :=
  ∃ a c, v = .slice a l.length c ∧ l.length ≤ c ∧ c ≤ maxLen ∧ ∀ i x, l[i]? = some x → ∃ p r, a = some p ∧ S p.block ∧ r.length = k ∧ (∀ j u, r[j]? = some u → w.cell? (p.add (i * k + j)) = some u) ∧ R w r x
theorem SlR.mono {α : Type} {S S' : Nat → Prop} {k : Nat} {R R' : World → List Value → α → Prop} {w w' : World} {v : Value} {l : List α} (h : SlR S k R w v l)
    (hS : ∀ b, b < w.heap.size → S b → S' b) (hb : ∀ b, b < w.heap.size → S b → w'.heap[b]? = w.heap[b]?) (hk : 0 < k) (hR : ∀ r x, R w r x → R' w' r x) : SlR S' k R' w' v l := by
  obtain ⟨a, c, h1, h2, h3, h4⟩ := h
  refine ⟨a, c, h1, h2, h3, fun i x hx => ?_⟩
  obtain ⟨p, r, e1, e2, e3, e4, e5⟩ := h4 i x hx
  have hlt : p.block < w.heap.size := by
    cases r with
    | nil => simp at e3; omega
    | cons u r =>
      have := World.block_lt_of_cell? w _ (e4 0 u rfl)
      have e : (p.add (i * k + 0)).block = p.block := by unfold Addr.add; split <;> rfl
      rwa [e] at this
  refine ⟨p, r, e1, hS _ hlt e2, e3, fun j u hu => ?_, hR _ _ e5⟩
  have e : (p.add (i * k + j)).block = p.block := by unfold Addr.add; split <;> rfl
  rw [World.cell?_of_block (w := w) (by rw [e]; exact hb _ hlt e2)]
  exact e4 j u hu
theorem SlR.nil {α : Type} {S : Nat → Prop} {k : Nat} {R : World → List Value → α → Prop} {w : World} : SlR S k R w (.slice none 0 0) [] :=
  ⟨none, 0, rfl, Nat.le_refl _, by simp [maxLen], fun i x hx => by simp at hx⟩
/-- the number in a place of a loop's list -/
def iOf (vs : List Value) (j : Nat) : Nat := match nth vs j with | .int _ n => n.toNat | _ => 0
theorem SlR.get {α : Type} {S : Nat → Prop} {k : Nat} {R : World → List Value → α → Prop} {w : World} {a : Option Addr} {n c : Nat} {l : List α} (h : SlR S k R w (.slice a n c) l) {i : Nat} (hi : i < l.length) :
    ∃ p r, a = some p ∧ S p.block ∧ r.length = k ∧ (∀ j u, r[j]? = some u → w.cell? (p.add (i * k + j)) = some u) ∧ R w r l[i] := by
  obtain ⟨a', c', h1, h2, h3, h4⟩ := h
  cases h1
  exact h4 i l[i] (by simp [hi])
theorem SlR.shape {α : Type} {S : Nat → Prop} {k : Nat} {R : World → List Value → α → Prop} {w : World} {v : Value} {l : List α} (h : SlR S k R w v l) : ∃ a c, v = .slice a l.length c ∧ l.length ≤ maxLen := by
  obtain ⟨a', c', h1, h2, h3, h4⟩ := h
  exact ⟨a', c', h1, Nat.le_trans h2 h3⟩

/-! ### rows of the call's own -/
def OwnR {α : Type} (B e k : Nat) (R : World → List Value → α → Prop) (w : World) (v : Value) (l : List α) : Prop :=
  ∃ rows : List (List Value), w.ownsRow B e k v l.length rows.flatten ∧ rows.length = l.length ∧ (∀ r ∈ rows, r.length = k ∧ ∀ u ∈ r, u.oneCell' = true) ∧ ∀ (i : Nat) (r : List Value) (x : α), rows[i]? = some r → l[i]? = some x → R w r x
theorem flat_len {k : Nat} : ∀ (rows : List (List Value)), (∀ r ∈ rows, r.length = k) → rows.flatten.length = rows.length * k := by
  intro rows; induction rows with
  | nil => intro _; simp
  | cons r rs ih => intro h; simp [ih (fun r hr => h r (by simp [hr])), h r (by simp), Nat.add_mul]; omega
theorem flat_get {k : Nat} : ∀ (rows : List (List Value)) (i j : Nat) (r : List Value), (∀ r ∈ rows, r.length = k) → rows[i]? = some r → j < k → rows.flatten[i * k + j]? = r[j]? := by
  intro rows; induction rows with
  | nil => intro i j r _ h; simp at h
  | cons r0 rs ih =>
    intro i j r h hi hj
    have h0 := h r0 (by simp)
    cases i with
    | zero => simp at hi; subst hi; simp [List.getElem?_append, h0, hj]
    | succ i =>
      have := ih i j r (fun r hr => h r (by simp [hr])) (by simpa using hi) hj
      rw [List.flatten_cons, List.getElem?_append_right (by rw [h0, Nat.add_mul]; omega)]
      rw [← this]; congr 1; rw [h0, Nat.add_mul]; omega
theorem flat_of_get {k : Nat} (hk : 0 < k) : ∀ (rows : List (List Value)), (∀ r ∈ rows, r.length = k) → ∀ (q : Nat) (u : Value), rows.flatten[q]? = some u → ∃ r, rows[q / k]? = some r ∧ r[q % k]? = some u := by
  intro rows h q u hu
  have hl := flat_len rows h
  have hq : q < rows.flatten.length := (List.getElem?_eq_some_iff.1 hu).1
  have h1 : q / k < rows.length := by rw [hl] at hq; exact (Nat.div_lt_iff_lt_mul hk).2 hq
  refine ⟨rows[q / k], by simp [h1], ?_⟩
  rw [← flat_get rows (q / k) (q % k) _ h (by simp [h1]) (Nat.mod_lt _ hk)]
  rw [Nat.div_add_mod' q k]; exact hu
theorem OwnR.nil {α : Type} {B e k : Nat} {R : World → List Value → α → Prop} {w : World} : OwnR B e k R w (.slice none 0 0) [] :=
  ⟨[], World.ownsRow_nil w B e k, rfl, by simp, by simp⟩
theorem OwnR.made {α : Type} {B e k : Nat} {R : World → List Value → α → Prop} {w : World} (hB : B ≤ w.heap.size) : OwnR B e k R (w.alloc (.cells #[] e)) (.slice (some ⟨w.heap.size, 0, none⟩) 0 0) ([] : List α) :=
  ⟨[], World.ownsRow_made w #[] 0 hB (by simp [maxLen]) (by simp), rfl, by simp, by simp⟩
theorem OwnR.shape {α : Type} {B e k : Nat} {R : World → List Value → α → Prop} {w : World} {v : Value} {l : List α} (h : OwnR B e k R w v l) :
    ∃ a c, v = .slice a l.length c ∧ l.length ≤ c ∧ c ≤ maxLen ∧ (∀ p, a = some p → ∃ g, p = ⟨g, 0, none⟩ ∧ B ≤ g ∧ g < w.heap.size ∧ v.ownBlock = some g) ∧ (a = none → l = []) := by
  obtain ⟨rows, h1, h2, h3, h4⟩ := h
  rcases h1.2 with ⟨rfl, hn⟩ | ⟨g, cap, cur, rfl, hg, hh, hn, hm, _⟩
  · exact ⟨none, 0, by rw [hn], by omega, by simp [maxLen], (fun p hp => nomatch hp), fun _ => List.eq_nil_of_length_eq_zero hn⟩
  · exact ⟨some ⟨g, 0, none⟩, cap, rfl, hn, hm, (fun p hp => by cases hp; exact ⟨g, rfl, hg, (Array.getElem?_eq_some_iff.1 hh).1, rfl⟩), (fun h => nomatch h)⟩
theorem OwnR.sl {α : Type} {B e k : Nat} {R : World → List Value → α → Prop} {w : World} {v : Value} {l : List α} (h : OwnR B e k R w v l) : SlR (fun b => B ≤ b ∧ v.ownBlock = some b) k R w v l := by
  obtain ⟨a, c, hv, hc, hm, hp, hn⟩ := h.shape
  obtain ⟨rows, h1, h2, h3, h4⟩ := h
  refine ⟨a, c, hv, hc, hm, fun i x hx => ?_⟩
  have hi : i < l.length := (List.getElem?_eq_some_iff.1 hx).1
  cases a with
  | none => rw [hn rfl] at hi; simp at hi
  | some p =>
    obtain ⟨g, rfl, hg, hlt, hob⟩ := hp p rfl
    have hr : i < rows.length := by omega
    have hrl : ∀ r ∈ rows, r.length = k := fun r hr => (h3 r hr).1
    refine ⟨_, rows[i], rfl, ⟨hg, hob⟩, hrl _ (by simp), fun j u hu => ?_, h4 i _ x (by simp [hr]) hx⟩
    have hj : j < k := by rw [← hrl rows[i] (by simp)]; exact (List.getElem?_eq_some_iff.1 hu).1
    refine h1.cells hob _ u ?_
    rw [flat_get rows i j rows[i] hrl (by simp [hr]) hj]; exact hu
theorem OwnR.mod {α : Type} {B e k : Nat} {R R' : World → List Value → α → Prop} {w w' : World} {v : Value} {l : List α} {M : Nat → Prop} (h : OwnR B e k R w v l) (hm : Mod M w w') (hv : ∀ g, v.ownBlock = some g → ¬ M g)
    (hR : ∀ r x, x ∈ l → R w r x → R' w' r x) : OwnR B e k R' w' v l := by
  obtain ⟨rows, h1, h2, h3, h4⟩ := h
  refine ⟨rows, ⟨h1.1, ?_⟩, h2, h3, fun i r x hr hx => hR r x (List.mem_of_getElem? hx) (h4 i r x hr hx)⟩
  rcases h1.2 with hn | ⟨g, cap, cur, rfl, hb, hgg, rest⟩
  · exact .inl hn
  · refine .inr ⟨g, cap, cur, rfl, hb, ?_, rest⟩
    rw [hm.same g (Array.getElem?_eq_some_iff.1 hgg).1 (hv g rfl)]; exact hgg
/-- an element type's row of the table -/
def ElemOK (P : Program) (t e size bytes : Nat) : Prop := ∃ i z, P.underlying t = some (.slice e) ∧ P.info? e = some i ∧ i.zero = some z ∧ i.size = size ∧ i.bytes = bytes ∧ z.cells.size = size ∧ 0 < size
theorem run_append_at {P : Program} {t ty B e k bytes : Nat} {w : World} {v : Value} {n : Nat} {xs : List Value} (hE : ElemOK P t e k bytes) (hown : w.ownsRow B e k v n xs) (a : Option Addr) (m c : Nat) (news : List Value)
    (hl : news.length = m * k) (ha : a = none → m = 0) (hnews : ∀ p, a = some p → ∀ j u, news[j]? = some u → w.cell? (p.add j) = some u) (h1 : ∀ u ∈ news, u.oneCell' = true) (h63 : n + m ≤ maxLen) (hbytes : (n + m) * bytes ≤ 140737488355328) (hB : B ≤ w.heap.size) :
    ∃ v' w', (Builtin.append_ #[t, t] ty #[v, .slice a m c]).run P w = .ok v' w' ∧ w'.ownsRow B e k v' (n + m) (xs ++ news) ∧ w.grownBy w' v.ownBlock ∧ (∀ g, v'.ownBlock = some g → v.ownBlock = some g ∨ w.heap.size ≤ g) := by
  obtain ⟨i, z, ht, hi, hz, rfl, rfl, hzs, hk⟩ := hE
  cases a with
  | none =>
    have hm := ha rfl
    subst hm
    have : news = [] := List.eq_nil_of_length_eq_zero (by simpa using hl)
    subst this
    have hsh : ∃ b s q, v = .slice b s q ∧ s ≤ q := by
      rcases hown.2 with ⟨rfl, _⟩ | ⟨g, cap, cur, rfl, _, _, h, _⟩
      · exact ⟨_, _, _, rfl, Nat.le_refl _⟩
      · exact ⟨_, _, _, rfl, h⟩
    refine ⟨v, w, ?_, by simpa using hown, ⟨rfl, rfl, rfl, Nat.le_refl _, fun _ _ _ => rfl⟩, fun g hg => .inl hg⟩
    obtain ⟨b, s, q, rfl, hq⟩ := hsh
    cases b <;> simp [Builtin.append_, run_underlying ht, sizeOf, typeInfo, hi, Builtin.lenOf, Builtin.firstCells, hq, storeCells]
  | some p =>
    have hn := hnews p rfl
    have hsm : ((n + m : Nat) : Int) ≤ 9223372036854775807 := by simp only [maxLen] at h63; omega
    rcases hown.2 with ⟨rfl, rfl⟩ | ⟨g, cap, cur, rfl, hbg, hg, hnc, hcm, hcs, htake⟩
    · have hown' : w.ownsRow w.heap.size e i.size (.slice none 0 0) 0 xs := ⟨hown.1, .inl ⟨rfl, rfl⟩⟩
      obtain ⟨v', w', r1, r2, r3, _⟩ := run_append_own (P := P) w w.heap.size t ty e i z i.size i.bytes ht hi hz rfl rfl hzs hk _ 0 xs hown' p m c news hl hn h1 h63 hbytes (Nat.le_refl _)
      refine ⟨v', w', r1, ⟨r2.1, ?_⟩, r3, fun g hg => .inr (r2.lt g hg).1⟩
      rcases r2.2 with h | ⟨g, cap, cur, q1, q2, q3⟩
      · exact .inl h
      · exact .inr ⟨g, cap, cur, q1, Nat.le_trans hB q2, q3⟩
    · by_cases hroom : n + m ≤ cap
      · have hfit : n * i.size + news.length ≤ cur.size := by rw [hl, hcs, ← Nat.add_mul]; exact Nat.mul_le_mul_right _ hroom
        have hr := run_append_room (P := P) w t ty e i ht hi g n cap cur hg p m c news hl hn h1 hroom hfit
        have hx : xs.length = n * i.size := hown.1
        refine ⟨_, _, hr, ⟨by rw [List.length_append, hx, hl, Nat.add_mul], .inr ⟨g, cap, _, rfl, hbg, setRow_heap w g cur _ e _ hg, hroom, hcm, ?_, ?_⟩⟩, ⟨rfl, rfl, rfl, ?_, fun b _ hb => setRow_other w g b _ (fun e => hb (by simp [Value.ownBlock, e]))⟩, fun g' hg' => .inl hg'⟩
        · have h0 : cur.toList.length = cap * i.size := by rw [Array.length_toList, hcs]
          have h2 : n * i.size + m * i.size ≤ cap * i.size := by rw [← Nat.add_mul]; exact Nat.mul_le_mul_right _ hroom
          simp only [List.size_toArray, List.length_append, List.length_take, List.length_drop, h0, hl]
          omega
        · rw [htake, Nat.add_mul, ← hx, ← hl, ← List.length_append]
          exact List.take_left
        · simp [World.setRow]
      · have holds : ∀ j u, xs[j]? = some u → w.cell? ((⟨g, 0, none⟩ : Addr).add j) = some u := hown.cells (g := g) rfl
        have hr := run_append_grow (P := P) w t ty e i z ht hi hz ⟨g, 0, none⟩ n cap xs hown.1 holds p m c news hl hn (by omega) hsm (growslice_fits (by omega) hbytes)
        have hge := grownCap_ge w (n + m) cap e
        have hx : xs.length = n * i.size := hown.1
        refine ⟨_, _, hr, ⟨by rw [List.length_append, hx, hl, Nat.add_mul], .inr ⟨w.heap.size, _, _, rfl, hB, heap_alloc_new w.drew _, hge, grownCap_le_maxLen w (n + m) cap e h63, ?_, ?_⟩⟩, ⟨rfl, rfl, rfl, by simp, fun b hb _ => heap_alloc_old w.drew _ b hb⟩, fun g' hg' => .inr (by cases hg'; exact Nat.le_refl _)⟩
        · simp only [Array.size_append, List.size_toArray, size_zeroCells, hzs, hx, hl, ← Nat.add_mul]
          congr 1; omega
        · simp only [Array.toList_append]
          have h3 : (n + m) * i.size = (xs ++ news).length := by rw [List.length_append, hx, hl, Nat.add_mul]
          rw [h3, List.take_append_of_le_length (Nat.le_refl _), List.take_length]
theorem OwnR.append {α : Type} {P : Program} {t ty B e k bytes : Nat} {R : World → List Value → α → Prop} {S : Nat → Prop} {w : World} {v x : Value} {l m : List α} (hE : ElemOK P t e k bytes) (h : OwnR B e k R w v l) (hx : SlR S k R w x m)
    (hone : ∀ r y, R w r y → ∀ u ∈ r, u.oneCell' = true) (h63 : (l.length + m.length) * bytes ≤ 140737488355328) (hB : B ≤ w.heap.size) (hlm : l.length + m.length ≤ maxLen)
    (hR : ∀ w', w.grownBy w' v.ownBlock → ∀ r y, R w r y → R w' r y) :
    runK P (Builtin.append_ #[t, t] ty [v, x].toArray) (fun v' w' => OwnR B e k R w' v' (l ++ m) ∧ w.grownBy w' v.ownBlock ∧ (∀ g, v'.ownBlock = some g → v.ownBlock = some g ∨ w.heap.size ≤ g)) w := by
  obtain ⟨i, z, ht, hi, hz, hs, hb, hzs, hk⟩ := hE
  have hsh := hx.shape
  obtain ⟨rows, h1, h2, h3, h4⟩ := h
  obtain ⟨a, c, rfl, hc, hcm, hel⟩ := hx
  have fin : ∀ (rows' : List (List Value)), rows'.length = m.length → (∀ r ∈ rows', r.length = k ∧ ∀ u ∈ r, u.oneCell' = true) → (∀ (i : Nat) (r : List Value) (y : α), rows'[i]? = some r → m[i]? = some y → R w r y) →
      (∃ v' w', (Builtin.append_ #[t, t] ty [v, .slice a m.length c].toArray).run P w = .ok v' w' ∧ w'.ownsRow B e k v' (l.length + m.length) (rows.flatten ++ rows'.flatten) ∧ w.grownBy w' v.ownBlock ∧ (∀ g, v'.ownBlock = some g → v.ownBlock = some g ∨ w.heap.size ≤ g)) →
      runK P (Builtin.append_ #[t, t] ty [v, .slice a m.length c].toArray) (fun v' w' => OwnR B e k R w' v' (l ++ m) ∧ w.grownBy w' v.ownBlock ∧ (∀ g, v'.ownBlock = some g → v.ownBlock = some g ∨ w.heap.size ≤ g)) w := by
    rintro rows' e1 e2 e3 ⟨v', w', r1, r2, r3, r4⟩
    refine ⟨v', w', r1, ⟨rows ++ rows', by rw [List.flatten_append, List.length_append]; exact r2, by simp [h2, e1], ?_, ?_⟩, r3, r4⟩
    · intro r hr; rcases List.mem_append.1 hr with hr | hr
      · exact h3 r hr
      · exact e2 r hr
    · intro j r y hr hy
      refine hR w' r3 r y ?_
      by_cases hj : j < l.length
      · rw [List.getElem?_append_left (by omega)] at hr
        rw [List.getElem?_append_left hj] at hy
        exact h4 j r y hr hy
      · rw [List.getElem?_append_right (by omega)] at hr
        rw [List.getElem?_append_right (by omega)] at hy
        rw [h2] at hr
        exact e3 _ r y hr hy
  -- the cells of what is appended
  have hrows : ∃ rows' : List (List Value), rows'.length = m.length ∧ (∀ (i : Nat) (r : List Value), rows'[i]? = some r → r.length = k ∧ (∀ u ∈ r, u.oneCell' = true) ∧ (∃ p, a = some p ∧ ∀ j u, r[j]? = some u → w.cell? (p.add (i * k + j)) = some u) ∧ ∃ y, m[i]? = some y ∧ R w r y) := by
    clear fin h4 h3 h2 h1 h63 hlm hR hcm hsh
    have gen : ∀ q, q ≤ m.length → ∃ rows' : List (List Value), rows'.length = q ∧ (∀ (i : Nat) (r : List Value), rows'[i]? = some r → r.length = k ∧ (∀ u ∈ r, u.oneCell' = true) ∧ (∃ p, a = some p ∧ ∀ j u, r[j]? = some u → w.cell? (p.add (i * k + j)) = some u) ∧ ∃ y, m[i]? = some y ∧ R w r y) := by
      intro q
      induction q with
      | zero => exact fun _ => ⟨[], rfl, fun i r h => by simp at h⟩
      | succ q ih =>
        intro hq
        obtain ⟨rs, e1, e2⟩ := ih (by omega)
        obtain ⟨p, r, f1, f2, f3, f4, f5⟩ := hel q m[q] (by simp [show q < m.length by omega])
        refine ⟨rs ++ [r], by simp [e1], fun i r' hr' => ?_⟩
        by_cases hi : i < q
        · rw [List.getElem?_append_left (by omega)] at hr'; exact e2 i r' hr'
        · have : i = q := by have := (List.getElem?_eq_some_iff.1 hr').1; simp [e1] at this; omega
          subst this
          rw [List.getElem?_append_right (by omega)] at hr'
          simp [e1] at hr'
          subst hr'
          exact ⟨f3, hone _ _ f5, ⟨p, f1, f4⟩, m[i], by simp [show i < m.length by omega], f5⟩
    exact gen m.length (Nat.le_refl _)
  obtain ⟨rows', g1, g2⟩ := hrows
  have hlen : ∀ r ∈ rows', r.length = k := fun r hr => by obtain ⟨j, hj⟩ := List.mem_iff_getElem?.1 hr; exact (g2 j r hj).1
  refine fin rows' g1 (fun r hr => by obtain ⟨j, hj⟩ := List.mem_iff_getElem?.1 hr; exact ⟨(g2 j r hj).1, (g2 j r hj).2.1⟩) (fun j r y hr hy => ?_) ?_
  · obtain ⟨_, _, _, y', hy', hRy⟩ := g2 j r hr
    rw [hy] at hy'; cases hy'; exact hRy
  · refine run_append_at ⟨i, z, ht, hi, hz, hs, hb, hzs, hk⟩ h1 a m.length c rows'.flatten (by rw [flat_len rows' hlen, g1]) ?_ ?_ ?_ hlm h63 hB
    · intro ha
      by_cases hm0 : m.length = 0
      · exact hm0
      · obtain ⟨p, r, f1, _⟩ := hel 0 m[0] (by simp [show 0 < m.length by omega])
        rw [ha] at f1; cases f1
    · intro p hp q u hu
      obtain ⟨r, hr, hru⟩ := flat_of_get hk rows' hlen q u hu
      obtain ⟨_, _, ⟨p', hp', hc'⟩, _⟩ := g2 _ r hr
      rw [hp] at hp'; cases hp'
      have := hc' _ u hru
      rwa [Nat.div_add_mod'] at this
    · intro u hu
      obtain ⟨r, hr, hur⟩ := List.mem_flatten.1 hu
      obtain ⟨j, hj⟩ := List.mem_iff_getElem?.1 hr
      exact (g2 j r hj).2.1 u hur
theorem Mod.next {M M' : Nat → Prop} {w w1 w2 : World} (h1 : Mod M' w w1) (h2 : Mod M w1 w2) (hM : ∀ b, b < w.heap.size → M b → M' b) : Mod M' w w2 :=
  ⟨h2.os.trans h1.os, h2.tape.trans h1.tape, h2.output.trans h1.output, Nat.le_trans h1.size h2.size, fun b hb hn => (h2.same b (Nat.lt_of_lt_of_le hb h1.size) fun h => hn (hM b hb h)).trans (h1.same b hb hn)⟩
theorem SlR.grow {α : Type} {S : Nat → Prop} {k : Nat} {R : World → List Value → α → Prop} {w w' : World} {v : Value} {l : List α} (h : SlR S k R w v l) (hg : Grow w w') (hk : 0 < k) (hR : ∀ r x, R w r x → R w' r x) : SlR S k R w' v l :=
  h.mono (fun _ _ h => h) (fun b hb _ => hg.same b hb fun h => h) hk hR
theorem SlR.mod {α : Type} {S M : Nat → Prop} {k : Nat} {R : World → List Value → α → Prop} {w w' : World} {v : Value} {l : List α} (h : SlR S k R w v l) (hg : Mod M w w') (hS : ∀ b, b < w.heap.size → S b → ¬ M b) (hk : 0 < k) (hR : ∀ r x, R w r x → R w' r x) : SlR S k R w' v l :=
  h.mono (fun _ _ h => h) (fun b hb hs => hg.same b hb (hS b hb hs)) hk hR
theorem SlR.sub {α : Type} {S S' : Nat → Prop} {k : Nat} {R R' : World → List Value → α → Prop} {w : World} {v : Value} {l : List α} (h : SlR S k R w v l) (hS : ∀ b, b < w.heap.size → S b → S' b) (hk : 0 < k) (hR : ∀ r x, R w r x → R' w r x) : SlR S' k R' w v l :=
  h.mono hS (fun _ _ _ => rfl) hk hR
theorem OwnR.base {α : Type} {B B' e k : Nat} {R : World → List Value → α → Prop} {w : World} {v : Value} {l : List α} (h : OwnR B e k R w v l) (hb : ∀ g, v.ownBlock = some g → B' ≤ g) : OwnR B' e k R w v l := by
  obtain ⟨rows, h1, h2, h3, h4⟩ := h
  refine ⟨rows, ⟨h1.1, ?_⟩, h2, h3, h4⟩
  rcases h1.2 with hn | ⟨g, cap, cur, rfl, hb', rest⟩
  · exact .inl hn
  · exact .inr ⟨g, cap, cur, rfl, hb g rfl, rest⟩
theorem rowK_empty {e k : Nat} {K : Cont} {w : World} (h : K (.slice (some ⟨w.heap.size, 0, none⟩) 0 0) (w.alloc (.cells #[] e))) : rowK e k 0 [] [] K w := by
  refine ⟨#[], ?_, h⟩
  simp [Instr.fill, Array.range_zero']
theorem flat_set {k : Nat} : ∀ (rows : List (List Value)) (i j : Nat) (r : List Value) (u : Value), (∀ r ∈ rows, r.length = k) → rows[i]? = some r → j < k → rows.flatten.set (i * k + j) u = (rows.set i (r.set j u)).flatten := by
  intro rows; induction rows with
  | nil => intro i j r u _ h; simp at h
  | cons r0 rs ih =>
    intro i j r u h hi hj
    have h0 := h r0 (by simp)
    cases i with
    | zero =>
      simp at hi; subst hi
      simp only [List.flatten_cons, List.set_cons_zero, Nat.zero_mul, Nat.zero_add]
      rw [List.set_append_left _ _ (by omega)]
    | succ i =>
      have := ih i j r u (fun r hr => h r (by simp [hr])) (by simpa using hi) hj
      simp only [List.flatten_cons, List.set_cons_succ]
      rw [List.set_append_right _ _ (by rw [h0, Nat.add_mul]; omega), ← this]
      congr 2; rw [h0, Nat.add_mul]; omega
/-- a store into a row of the call's own -/
theorem OwnR.store {α : Type} {B e k : Nat} {R R' : World → List Value → α → Prop} {w : World} {a : Addr} {n c : Nat} {l : List α} (h : OwnR B e k R w (.slice (some a) n c) l) {i j : Nat} {u : Value} {x' : α} (hi : i < l.length) (hj : j < k)
    (hu : u.oneCell' = true) (hR : ∀ r y, y ∈ l → R w r y → R' (w.setCell (a.add (i * k + j)) u) r y) (hx : ∀ r, R w r l[i] → R' (w.setCell (a.add (i * k + j)) u) (r.set j u) x') :
    (∃ v, w.cell? (a.add (i * k + j)) = some v) ∧ w.frozen? (a.add (i * k + j)) = false ∧ OwnR B e k R' (w.setCell (a.add (i * k + j)) u) (.slice (some a) n c) (l.set i x') ∧ Mod (fun b => b = a.block) w (w.setCell (a.add (i * k + j)) u) := by
  obtain ⟨rows, h1, h2, h3, h4⟩ := h
  have hrl : ∀ r ∈ rows, r.length = k := fun r hr => (h3 r hr).1
  have hir : i < rows.length := by omega
  have hsh : ∃ g, a = ⟨g, 0, none⟩ ∧ n = l.length := by
    rcases h1.2 with ⟨h', _⟩ | ⟨g', cap', cur, h', _⟩
    · simp at h'
    · simp only [Value.slice.injEq, Option.some.injEq] at h'; exact ⟨g', h'.1, h'.2.1⟩
  obtain ⟨g, rfl, rfl⟩ := hsh
  have hadd : (⟨g, 0, none⟩ : Addr).add (i * k + j) = ⟨g, i * k + j, none⟩ := by unfold Addr.add; split <;> simp_all
  rw [hadd] at hR hx ⊢
  have hlt : i * k + j < l.length * k := by
    have : (i + 1) * k ≤ l.length * k := Nat.mul_le_mul_right _ hi
    rw [Nat.add_mul] at this; omega
  obtain ⟨s1, s2⟩ := h1.stored (i * k + j) u
  have hri : rows[i]? = some rows[i] := by simp [hir]
  refine ⟨?_, h1.frozenAt _, ?_, ?_⟩
  · refine ⟨(rows.flatten)[i * k + j]'(by rw [flat_len rows hrl, h2]; exact hlt), ?_⟩
    rw [h1.cellAt _ hlt]; simp [flat_len rows hrl, h2, hlt]
  · refine ⟨rows.set i (rows[i].set j u), ?_, by simp [h2], ?_, ?_⟩
    · rw [List.length_set, ← flat_set rows i j rows[i] u hrl hri hj]; exact s1
    · intro r hr
      rcases List.mem_or_eq_of_mem_set hr with hr | rfl
      · exact h3 r hr
      · refine ⟨by rw [List.length_set]; exact hrl _ (by simp), fun y hy => ?_⟩
        rcases List.mem_or_eq_of_mem_set hy with hy | rfl
        · exact (h3 rows[i] (by simp)).2 y hy
        · exact hu
    · intro q r y hr hy
      by_cases hq : i = q
      · subst hq
        simp only [List.getElem?_set_self hir, List.getElem?_set_self hi, Option.some.injEq] at hr hy
        subst hr; subst hy
        exact hx _ (h4 i _ _ hri (by simp [hi]))
      · rw [List.getElem?_set_ne hq] at hr hy
        exact hR r y (List.mem_of_getElem? hy) (h4 q r y hr hy)
  · exact Mod.setCell _ _ _ rfl
end Go.K
