/- Plain laws: the text of a set in the table of interned sets; no two sets have the same. Conditions: the numbers lie in their types. The opening of the rows that list the two tables: what the condition gives, a world that meets it; what is handed in, opened with its ranges. No conditions. Maps in memory as functions: what a lookup, a store and a delete do. No conditions. Plain laws: the table of interned sets as data. No conditions. Plain laws: the map from the sets' texts to ids. Conditions: the numbers of the sets lie in their types. Contract: the runes of bytes (runes.Read): as the document reads. Conditions: the size; the two tables lie in memory as they are laid. By a program of ours: of each function below the predicate that its code comes to, and that it is sound. No conditions. Contracts: numbers and bytes in groups of seven bits (wire). Conditions: the sizes. Contracts: the program's values (value.Flag, Int, Float, Text, May). Conditions: the size of a text; the two tables lie in memory as they are laid. Contract of Group; the plain law of schemas: one order, and both ways. No conditions. The sort's worlds in our own words: a row of one's own, sorted. No conditions. slices.SortFunc at keys: the shelf's contract, laid; sorted rows of keys. No conditions. -/
import Derived.Test.YtmfplfaeibehiaaDoorZInternPlaysUpto3
import Derived.Test.YtmfplfaeibehiaaDoorRows
import Derived.Lib.LaidU8
import Derived.Lib.LaidIn
import Derived.LaidHandle
import Derived.LaidMore
import Derived.MakeChecks
import Derived.Laws.BytesArg
import Derived.Laws.IdiomStrings
import Derived.MapKept
import Derived.Lib.Zigzag
import Derived.Shelf.GgSortFunc.InsertionK
import Derived.Shelf.SlSortCmp.WholeK
import Derived.Shelf.SlSortCmp.NoneTotal
namespace Go.Proofs.YtmfplfaeibehiaaDoor
open Go Go.K

/-- a natural number in groups of seven bits, the lowest first -/
def uvB : Nat → Nat → List Int
  | 0, n => [(n : Int)]
  | f + 1, n => if n ≤ 127 then [(n : Int)] else ((n % 128 + 128 : Nat) : Int) :: uvB f (n / 128)
def uv (n : Nat) : List Int := uvB 9 n
def zigN (n : Int) : Nat := if 0 ≤ n then (2 * n).toNat else (-2 * n - 1).toNat
theorem zigN_inj {a b : Int} (h : zigN a = zigN b) : a = b := by
  unfold zigN at h
  split at h <;> split at h <;> omega
theorem zigN_lt {n : Int} (h0 : -9223372036854775808 ≤ n) (h1 : n ≤ 9223372036854775807) : zigN n < 18446744073709551616 := by
  unfold zigN; split <;> omega
theorem uvB_pre : ∀ {f n m : Nat} {x y : List Int}, n < 128 ^ (f + 1) → m < 128 ^ (f + 1) → uvB f n ++ x = uvB f m ++ y → n = m ∧ x = y := by
  intro f
  induction f with
  | zero =>
    intro n m x y _ _ h
    simp only [uvB, List.singleton_append, List.cons.injEq] at h
    exact ⟨by omega, h.2⟩
  | succ f ih =>
    intro n m x y hn hm h
    rw [Nat.pow_succ] at hn hm
    simp only [uvB] at h
    by_cases h1 : n ≤ 127 <;> by_cases h2 : m ≤ 127
    · rw [if_pos h1, if_pos h2] at h
      simp only [List.singleton_append, List.cons.injEq] at h
      exact ⟨by omega, h.2⟩
    · rw [if_pos h1, if_neg h2] at h
      simp only [List.cons_append, List.cons.injEq] at h
      omega
    · rw [if_neg h1, if_pos h2] at h
      simp only [List.cons_append, List.cons.injEq] at h
      omega
    · rw [if_neg h1, if_neg h2] at h
      simp only [List.cons_append, List.cons.injEq] at h
      have := ih (Nat.div_lt_of_lt_mul (by omega)) (Nat.div_lt_of_lt_mul (by omega)) h.2
      exact ⟨by omega, this.2⟩
theorem uv_pre {n m : Nat} {x y : List Int} (hn : n < 18446744073709551616) (hm : m < 18446744073709551616) (h : uv n ++ x = uv m ++ y) : n = m ∧ x = y := by
  have e : (18446744073709551616 : Nat) ≤ 128 ^ (9 + 1) := by decide
  exact uvB_pre (by omega) (by omega) h
theorem uvB_len : ∀ (f n : Nat), 1 ≤ (uvB f n).length ∧ (uvB f n).length ≤ f + 1 := by
  intro f
  induction f with
  | zero => intro n; simp [uvB]
  | succ f ih =>
    intro n
    simp only [uvB]
    split
    · simp
    · have := ih (n / 128)
      simp only [List.length_cons]; omega
theorem uvB_byte : ∀ (f n : Nat), n < 128 ^ (f + 1) → ∀ x ∈ uvB f n, 0 ≤ x ∧ x < 256 := by
  intro f
  induction f with
  | zero => intro n hn x hx; simp only [uvB, List.mem_singleton] at hx; subst hx; simp at hn; omega
  | succ f ih =>
    intro n hn x hx
    rw [Nat.pow_succ] at hn
    simp only [uvB] at hx
    split at hx
    · simp only [List.mem_singleton] at hx; omega
    · rcases List.mem_cons.1 hx with rfl | hx
      · omega
      · exact ih _ (Nat.div_lt_of_lt_mul (by omega)) x hx
theorem uv_byte {n : Nat} (hn : n < 18446744073709551616) : ∀ x ∈ uv n, 0 ≤ x ∧ x < 256 := by
  have e : (18446744073709551616 : Nat) ≤ 128 ^ (9 + 1) := by decide
  exact uvB_byte 9 n (by omega)

/-- an attribute whose numbers lie in their types -/
def InA (a : Attr) : Prop := (-9223372036854775808 ≤ a.key ∧ a.key ≤ 9223372036854775807) ∧ (0 ≤ a.val.kind ∧ a.val.kind < 256) ∧ (-9223372036854775808 ≤ a.val.n ∧ a.val.n ≤ 9223372036854775807) ∧ (0 ≤ a.val.f ∧ a.val.f < 18446744073709551616) ∧ a.val.s.size < 18446744073709551616
def encA (a : Attr) : List Int := uv (zigN a.key) ++ (uv a.val.kind.toNat ++ (uv (zigN a.val.n) ++ (uv a.val.f.toNat ++ (uv a.val.s.size ++ bytesL a.val.s))))
def encS (l : List Attr) : List Int := l.flatMap encA
theorem bytesL_inj {s t : ByteArray} (h : bytesL s = bytesL t) : s = t := by
  unfold bytesL at h
  have h2 := (List.map_inj_right (f := fun b : UInt8 => (b.toNat : Int)) (fun a b e => UInt8.toNat_inj.1 (Int.ofNat_inj.1 e))).1 h
  cases s; cases t
  simp only [ByteArray.mk.injEq]
  exact Array.toList_inj.1 h2
theorem bytesL_len (s : ByteArray) : (bytesL s).length = s.size := by simp [bytesL]
theorem encA_pre {a b : Attr} (ha : InA a) (hb : InA b) {x y : List Int} (h : encA a ++ x = encA b ++ y) : a = b ∧ x = y := by
  obtain ⟨a1, a2, a3, a4, a5⟩ := ha
  obtain ⟨b1, b2, b3, b4, b5⟩ := hb
  unfold encA at h
  simp only [List.append_assoc] at h
  obtain ⟨e1, h⟩ := uv_pre (zigN_lt a1.1 a1.2) (zigN_lt b1.1 b1.2) h
  obtain ⟨e2, h⟩ := uv_pre (by omega) (by omega) h
  obtain ⟨e3, h⟩ := uv_pre (zigN_lt a3.1 a3.2) (zigN_lt b3.1 b3.2) h
  obtain ⟨e4, h⟩ := uv_pre (by omega) (by omega) h
  obtain ⟨e5, h⟩ := uv_pre a5 b5 h
  obtain ⟨e6, h⟩ := List.append_inj h (by rw [bytesL_len, bytesL_len, e5])
  refine ⟨?_, h⟩
  obtain ⟨ak, av⟩ := a
  obtain ⟨bk, bv⟩ := b
  obtain ⟨v1, v2, v3, v4⟩ := av
  obtain ⟨u1, u2, u3, u4⟩ := bv
  simp only at *
  have := zigN_inj e1
  have := zigN_inj e3
  have := bytesL_inj e6
  have : v1 = u1 := by omega
  have : v3 = u3 := by omega
  subst_vars
  rfl
theorem encS_inj : ∀ {l m : List Attr}, (∀ a ∈ l, InA a) → (∀ a ∈ m, InA a) → encS l = encS m → l = m := by
  have ne : ∀ a x, encA a ++ x ≠ [] := fun a x e => by
    have := uvB_len 9 (zigN a.key)
    have h := congrArg List.length e
    simp only [encA, List.length_append, List.length_nil, uv] at h
    omega
  intro l
  induction l with
  | nil =>
    intro m _ hm h
    cases m with
    | nil => rfl
    | cons b m => exact absurd h.symm (by simpa [encS] using ne b (encS m))
  | cons a l ih =>
    intro m hl hm h
    cases m with
    | nil => exact absurd h (by simpa [encS] using ne a (encS l))
    | cons b m =>
      simp only [encS, List.flatMap_cons] at h
      obtain ⟨rfl, h'⟩ := encA_pre (hl a List.mem_cons_self) (hm b List.mem_cons_self) h
      rw [ih (fun x hx => hl x (List.mem_cons_of_mem _ hx)) (fun x hx => hm x (List.mem_cons_of_mem _ hx)) (show encS l = encS m from h')]
end Go.Proofs.YtmfplfaeibehiaaDoor

namespace Go.Proofs.YtmfplfaeibehiaaDoor
open Go Go.K
open Go.ChangeShapes Go.WideShapes Go.ChangeAt Go.RowKit Go.Joins

def laidL : List (String × DataW Unit) := [("unicode/utf8.acceptRanges", Rows.laid_unicode_utf8_acceptRanges), ("unicode/utf8.first", Rows.laid_unicode_utf8_first)]
theorem first_tab : Rows.laid_unicode_utf8_first = Lib.tabData .u8 (Pinned.utf8FirstZ.map Int.ofNat) := by kernel_rfl
theorem first_at : (List.range 256).all (fun j => decide (128 ≤ j → (Pinned.utf8FirstZ.map Int.ofNat)[j]? = some (firstT j))) = true := by decide +kernel
theorem acc_tab : Rows.laid_unicode_utf8_acceptRanges (H := Unit) = .agg ((List.range 16).map fun i => .agg ([accLo i, accHi i].map fun z => .lit (.int .u8 z))) := by kernel_rfl
theorem tabs_of_laid {W : World} (h : laidMetH Tryd.prog laidL W) : Tabs W := by
  rw [MakeChecks.laidMetH_plain _ _ _ (by kernel_rfl)] at h
  have h4 := Lib.laidMet.reads h (.head _)
  have h3 := Lib.laidMet.reads h (.tail _ (.head _))
  have hf : ∀ j : Nat, 128 ≤ j → j < 256 → W.cell? ⟨1, j, none⟩ = some (.int .u8 (firstT j)) := by
    intro j hj1 hj2
    obtain ⟨g, t, cs, fuel, p, hg, hty, hvar, hd⟩ := h3
    obtain rfl := Option.some.inj ((show Tryd.prog.globalNamed "unicode/utf8.first" = some 1 by kernel_rfl).symm.trans hg)
    obtain rfl := Option.some.inj ((show (Tryd.prog.globals[1]?).map (·.type) = some 152 by kernel_rfl).symm.trans hty)
    rw [first_tab] at hd
    have hcs := Lib.cells_of_tab Tryd.underlying152 Tryd.underlying5 (by kernel_rfl) (by kernel_rfl) hd
    have := World.var?_cell hg hvar j
    rw [this, ← Array.getElem?_toList, hcs]
    have ha := List.all_eq_true.1 first_at j (List.mem_range.2 hj2)
    rw [decide_eq_true_eq] at ha
    rw [List.getElem?_map, ha hj1]
    rfl
  have hac : ∀ j : Nat, j < 16 → W.cell? ⟨2, j * 2, none⟩ = some (.int .u8 (accLo j)) ∧ W.cell? ⟨2, j * 2 + 1, none⟩ = some (.int .u8 (accHi j)) := by
    intro i hi
    obtain ⟨g, t, cs, fuel, p, hg, hty, hvar, hd⟩ := h4
    obtain rfl := Option.some.inj ((show Tryd.prog.globalNamed "unicode/utf8.acceptRanges" = some 2 by kernel_rfl).symm.trans hg)
    obtain rfl := Option.some.inj ((show (Tryd.prog.globals[2]?).map (·.type) = some 155 by kernel_rfl).symm.trans hty)
    rw [acc_tab] at hd
    obtain ⟨fuel', d, q, hdi, he⟩ := Lib.array_elem Tryd.underlying155 hd i hi
    simp only [List.getElem?_map, List.getElem?_range hi, Option.map_some, Option.some.injEq] at hdi
    subst hdi
    have c2 : Tryd.prog.cellsOf 154 = 2 := by kernel_rfl
    rw [c2] at he
    have hcs := Lib.ints_of_struct Tryd.underlying154 (fun j f hj => by
      match j, hj with
      | 0, hj => simp at hj; subst hj; exact ⟨Tryd.underlying5, rfl, by kernel_rfl⟩
      | 1, hj => simp at hj; subst hj; exact ⟨Tryd.underlying5, rfl, by kernel_rfl⟩
      | j + 2, hj => simp at hj) (by rw [c2]; rfl) he
    have e0 := congrArg (·[0]?) hcs
    have e1 := congrArg (·[1]?) hcs
    simp at e0 e1
    have w0 := World.var?_cell hg hvar (i * 2)
    have w1 := World.var?_cell hg hvar (i * 2 + 1)
    rw [w0, w1, ← Array.getElem?_toList, ← Array.getElem?_toList]
    exact ⟨by simpa using e0, by simpa using e1⟩
  have := World.block_lt_of_cell? W _ (hac 0 (by decide)).1
  exact ⟨this, hf, hac⟩
/-- a world that meets the condition -/
noncomputable def laidWorld (os : Os) : World :=
  let w0 := World.holding Tryd.prog os ⟨#[], #[], []⟩
  let put (h : Array Obj) (g : Nat) (cs : Array Value) : Array Obj := h.modify g fun
    | .cells _ t frozen => .cells cs t frozen
    | o => o
  let h1 := put w0.heap 1 (Pinned.utf8FirstZ.map fun (z : Nat) => Value.int .u8 (Int.ofNat z)).toArray
  let h2 := put h1 2 ((List.range 16).flatMap fun i => [Value.int .u8 (accLo i), Value.int .u8 (accHi i)]).toArray
  { w0 with heap := h2 }
theorem laidWorld_met (os : Os) (args : Array Value) : laidMetH Tryd.prog laidL ((laidWorld os).forCall (fun _ _ => 0) ⟨#[], args, []⟩).memory := by
  rw [MakeChecks.laidMetH_plain _ _ _ (by kernel_rfl)]
  exact (LaidIn.of_run (l := laidL) [2, 1] 8 (by kernel_rfl) (by kernel_rfl) (by kernel_rfl) (by kernel_rfl)).met

/-- a value whose numbers lie in their types -/
def InV (v : AVal) : Prop := (0 ≤ v.kind ∧ v.kind < 256) ∧ (-9223372036854775808 ≤ v.n ∧ v.n ≤ 9223372036854775807) ∧ (0 ≤ v.f ∧ v.f < 18446744073709551616) ∧ v.s.size < 18446744073709551616
variable {H : Type} {enc : TypeId × Value → H} {w : World} {base : Nat} {spare : Nat → Bool} {held : Bool}
theorem wf_range {k : IntKind} {n : Int} (h : (Lit.int k n).wf = true) : k.min ≤ n ∧ n ≤ k.max := by
  simpa [Lit.wf] using h
theorem val_of_trodR {n : Nat} {cs : List Value} {y : DataW H × List MemPlace} (h : DataW.trod enc Tryd.prog w base spare held n 30 cs = some y) : ∃ x : AVal, cs = x.cells ∧ InV x := by
  have c2 : Tryd.prog.cellsOf 30 = 4 := by kernel_rfl
  have c3 : Tryd.prog.cellsOf 5 = 1 := by kernel_rfl
  have c4 : Tryd.prog.cellsOf 2 = 1 := by kernel_rfl
  have c5 : Tryd.prog.cellsOf 28 = 1 := by kernel_rfl
  have c6 : Tryd.prog.cellsOf 9 = 1 := by kernel_rfl
  obtain ⟨z0, z1, z2, z3, m', _, hl, g0, g1, g2, g3⟩ := trod_struct4 Tryd.underlying30 h
  rw [c2] at hl
  simp only [c3, c4, c5, c6] at g0 g1 g2 g3
  match cs, hl with
  | [a1, a2, a3, a4], _ =>
    simp only [List.drop_zero, List.take_succ_cons, List.take_zero, List.drop_succ_cons] at g0 g1 g2 g3
    obtain ⟨k0, f0, _, w0⟩ := DataW.trod_int Tryd.underlying5 g0
    obtain ⟨k1, f1, _, w1⟩ := DataW.trod_int Tryd.underlying2 g1
    obtain ⟨k2, f2, _, w2⟩ := DataW.trod_int Tryd.underlying28 g2
    obtain ⟨k3, f3, _, w3⟩ := DataW.trod_string Tryd.underlying9 g3
    cases f0; cases f1; cases f2; cases f3
    refine ⟨⟨k0, k1, k2, k3⟩, rfl, ?_⟩
    have r0 := wf_range w0
    have r1 := wf_range w1
    have r2 := wf_range w2
    have m0 : IntKind.u8.min = 0 ∧ IntKind.u8.max = 255 := by decide
    have m1 : IntKind.i64.min = -9223372036854775808 ∧ IntKind.i64.max = 9223372036854775807 := by decide
    have m2 : IntKind.u64.min = 0 ∧ IntKind.u64.max = 18446744073709551615 := by decide
    rw [m0.1, m0.2] at r0
    rw [m1.1, m1.2] at r1
    rw [m2.1, m2.2] at r2
    have r3 : k3.size ≤ 9223372036854775807 := by
      simp only [Lit.wf, maxLen] at w3
      simpa using w3
    exact ⟨⟨r0.1, show k0 < 256 by omega⟩, r1, ⟨r2.1, show k2 < 18446744073709551616 by omega⟩, show k3.size < 18446744073709551616 by omega⟩
end Go.Proofs.YtmfplfaeibehiaaDoor

namespace Go.K
open Go MapKept

/-- the map at block b, of keys of one plain kind: what each key has -/
def MapG (d : TypeDesc) (w : World) (b : Nat) (f : Value → Option Value) : Prop :=
  ∃ es clock, w.heap[b]? = some (.map es clock) ∧ (∀ x ∈ es.toList, IsKey d x.key) ∧ es.toList.Pairwise (fun x y => x.key ≠ y.key) ∧ ∀ k v, IsKey d k → (f k = some v ↔ ∃ x ∈ es.toList, x.key = k ∧ x.val = v)
theorem MapG.lt {d : TypeDesc} {w : World} {b : Nat} {f : Value → Option Value} (h : MapG d w b f) : b < w.heap.size := by
  obtain ⟨es, c, hb, _⟩ := h
  exact (Array.getElem?_eq_some_iff.1 hb).1
theorem MapG.mod {d : TypeDesc} {M : Nat → Prop} {w w' : World} {b : Nat} {f : Value → Option Value} (h : MapG d w b f) (hm : Mod M w w') (hb : ¬ M b) : MapG d w' b f := by
  have hl := h.lt
  obtain ⟨es, c, h1, h2⟩ := h
  exact ⟨es, c, (hm.same b hl hb).trans h1, h2⟩
theorem MapG.make (d : TypeDesc) (w : World) : MapG d (w.alloc (.map #[] 0)) w.heap.size (fun _ => none) :=
  ⟨#[], 0, (heap_alloc w _).1, by simp, by simp, fun k v _ => by simp⟩
theorem MapG.ext {d : TypeDesc} {w : World} {b : Nat} {f g : Value → Option Value} (h : MapG d w b f) (e : ∀ k, IsKey d k → f k = g k) : MapG d w b g := by
  obtain ⟨es, c, h1, h2, h3, h4⟩ := h
  exact ⟨es, c, h1, h2, h3, fun k v hk => by rw [← e k hk]; exact h4 k v hk⟩
theorem mapg_lookup {P : Program} {d : TypeDesc} {t kt et : TypeId} {z : Value} {w : World} {b : Nat} {f : Value → Option Value} {k : Value} (ht : P.underlying t = some (.map kt et)) (hk : P.underlying kt = some d) (hi : IsKey d k) (hz : (zeroValue et).run P w = .ok z w) (h : MapG d w b f) :
    (Instr.lookup t (.map (some b)) k true).run P w = .ok (.tuple #[(f k).getD z, .bool (f k).isSome]) w := by
  obtain ⟨es, clock, hb, hks, hp, hf⟩ := h
  have hc := fun em => MapKept.run_checkKey (w := w) hk hi em 9999
  rcases findNow_spec hi es.toList 0 hks with ⟨h1, h2⟩ | ⟨j, e, h1, h2, h3⟩
  · have h0 : f k = none := by
      cases hh : f k with
      | none => rfl
      | some v => obtain ⟨x, hx, e, _⟩ := (hf k v hi).1 hh; exact absurd e (h2 x hx)
    simp [Instr.lookup, run_underlying ht, MapKept.run_getObj_map hb, hc, MapKept.run_findKey hk h1, hz, Result.andThen, h0]
  · have h0 : f k = some e.val := (hf k e.val hi).2 ⟨e, List.mem_of_getElem? h2, h3, rfl⟩
    simp [Instr.lookup, run_underlying ht, MapKept.run_getObj_map hb, hc, MapKept.run_findKey hk h1, Result.andThen, h0]
open Classical in
theorem mapg_update {P : Program} {d : TypeDesc} {t kt et : TypeId} {w : World} {b : Nat} {f : Value → Option Value} {k v : Value} (ht : P.underlying t = some (.map kt et)) (hk : P.underlying kt = some d) (hi : IsKey d k) (h : MapG d w b f) (hn : f k = none) :
    ∃ w', (Instr.mapUpdate t (.map (some b)) k v).run P w = .ok () w' ∧ MapG d w' b (fun k' => if k' = k then some v else f k') ∧ Mod (fun x => x = b) w w' := by
  obtain ⟨es, clock, hb, hks, hp, hf⟩ := h
  have hc := fun em => MapKept.run_checkKey (w := w) hk hi em 9999
  rcases findNow_spec hi es.toList 0 hks with ⟨h1, h2⟩ | ⟨j, e, h1, h2, h3⟩
  · refine ⟨{ w with heap := w.heap.setIfInBounds b (.map (es.push ⟨k, v, clock⟩) (clock + 1)) }, by simp [Instr.mapUpdate, run_underlying ht, MapKept.run_getObj_map hb, hc, MapKept.run_findKey hk h1, MapKept.run_setObj_map _ hb, Result.andThen], ⟨_, _, (heap_set hb).1, ?_, ?_, ?_⟩, ⟨rfl, rfl, rfl, by simp, fun x _ hx => (heap_set hb).2 x hx⟩⟩
    · intro x hx
      simp only [Array.toList_push, List.mem_append, List.mem_singleton] at hx
      rcases hx with hx | rfl
      · exact hks x hx
      · exact hi
    · rw [Array.toList_push, List.pairwise_append]
      exact ⟨hp, by simp, fun x hx y hy => by simp at hy; subst hy; exact h2 x hx⟩
    · intro k' v' hk'
      simp only [Array.toList_push, List.mem_append, List.mem_singleton]
      by_cases e : k' = k
      · subst e
        rw [if_pos rfl]
        constructor
        · intro e; cases e; exact ⟨_, .inr rfl, rfl, rfl⟩
        · rintro ⟨x, hx | rfl, e1, e2⟩
          · exact absurd e1 (h2 x hx)
          · rw [← e2]
      · rw [if_neg e, hf k' v' hk']
        constructor
        · rintro ⟨x, hx, e1, e2⟩; exact ⟨x, .inl hx, e1, e2⟩
        · rintro ⟨x, hx | rfl, e1, e2⟩
          · exact ⟨x, hx, e1, e2⟩
          · exact absurd e1.symm e
  · rw [(hf k e.val hi).2 ⟨e, List.mem_of_getElem? h2, h3, rfl⟩] at hn; cases hn
theorem mem_eraseIdx_iff {α : Type} {l : List α} {j : Nat} {x : α} : x ∈ l.eraseIdx j ↔ ∃ i, i ≠ j ∧ l[i]? = some x := by
  rw [List.mem_eraseIdx_iff_getElem?]
open Classical in
theorem mapg_delete {P : Program} {d : TypeDesc} {t kt et ty : TypeId} {w : World} {b : Nat} {f : Value → Option Value} {k : Value} (ht : P.underlying t = some (.map kt et)) (hk : P.underlying kt = some d) (hi : IsKey d k) (h : MapG d w b f) :
    ∃ w', (Builtin.delete_ #[t, kt] ty #[.map (some b), k]).run P w = .ok (.tuple #[]) w' ∧ MapG d w' b (fun k' => if k' = k then none else f k') ∧ Mod (fun x => x = b) w w' := by
  obtain ⟨es, clock, hb, hks, hp, hf⟩ := h
  have hc := fun em => MapKept.run_checkKey (w := w) hk hi em 9999
  rcases findNow_spec hi es.toList 0 hks with ⟨h1, h2⟩ | ⟨j, e, h1, h2, h3⟩
  · refine ⟨{ w with heap := w.heap.setIfInBounds b (.map es clock) }, by simp [Builtin.delete_, run_underlying ht, MapKept.run_getObj_map hb, hc, MapKept.run_findKey hk h1, MapKept.run_setObj_map _ hb, Result.andThen], ⟨_, _, (heap_set hb).1, hks, hp, ?_⟩, ⟨rfl, rfl, rfl, by simp, fun x _ hx => (heap_set hb).2 x hx⟩⟩
    intro k' v' hk'
    show (if k' = k then none else f k') = some v' ↔ _
    by_cases e : k' = k
    · subst e
      rw [if_pos rfl]
      exact ⟨fun h => (by cases h), fun ⟨x, hx, e1, _⟩ => absurd e1 (h2 x hx)⟩
    · rw [if_neg e]; exact hf k' v' hk'
  · have hj : j < es.size := by have := (List.getElem?_eq_some_iff.1 h2).1; simpa using this
    have hel : (es.eraseIdxIfInBounds (0 + j)).toList = es.toList.eraseIdx j := by
      unfold Array.eraseIdxIfInBounds
      rw [dif_pos (by omega)]
      simp
    have hsub : (es.eraseIdxIfInBounds (0 + j)).toList.Sublist es.toList := by rw [hel]; exact List.eraseIdx_sublist _ _
    have hmem : ∀ x, x ∈ (es.eraseIdxIfInBounds (0 + j)).toList ↔ x ∈ es.toList ∧ x.key ≠ k := by
      intro x
      rw [hel, mem_eraseIdx_iff]
      constructor
      · rintro ⟨i, hij, hx⟩
        refine ⟨List.mem_of_getElem? hx, fun e' => ?_⟩
        have hil := (List.getElem?_eq_some_iff.1 hx).1
        have hjl := (List.getElem?_eq_some_iff.1 h2).1
        have pw := List.pairwise_iff_getElem.1 hp
        have ex := (List.getElem?_eq_some_iff.1 hx).2
        have ee := (List.getElem?_eq_some_iff.1 h2).2
        rcases Nat.lt_or_gt_of_ne hij with hlt | hlt
        · exact pw i j hil hjl hlt (by rw [ex, ee, e', h3])
        · exact pw j i hjl hil hlt (by rw [ex, ee, e', h3])
      · rintro ⟨hx, hne⟩
        obtain ⟨i, hi'⟩ := List.mem_iff_getElem?.1 hx
        exact ⟨i, fun e' => hne (by subst e'; rw [h2] at hi'; cases hi'; exact h3), hi'⟩
    refine ⟨{ w with heap := w.heap.setIfInBounds b (.map (es.eraseIdxIfInBounds (0 + j)) clock) }, by simp [Builtin.delete_, run_underlying ht, MapKept.run_getObj_map hb, hc, MapKept.run_findKey hk h1, MapKept.run_setObj_map _ hb, Result.andThen], ⟨_, _, (heap_set hb).1, fun x hx => hks x (hsub.subset hx), hp.sublist hsub, ?_⟩, ⟨rfl, rfl, rfl, by simp, fun x _ hx => (heap_set hb).2 x hx⟩⟩
    intro k' v' hk'
    show (if k' = k then none else f k') = some v' ↔ _
    by_cases e' : k' = k
    · subst e'
      rw [if_pos rfl]
      exact ⟨fun h => (by cases h), fun ⟨x, hx, e1, _⟩ => absurd e1 ((hmem x).1 hx).2⟩
    · rw [if_neg e', hf k' v' hk']
      exact ⟨fun ⟨x, hx, e1, e2⟩ => ⟨x, (hmem x).2 ⟨hx, fun e3 => e' (e1.symm.trans e3)⟩, e1, e2⟩, fun ⟨x, hx, e1, e2⟩ => ⟨x, ((hmem x).1 hx).1, e1, e2⟩⟩
end Go.K

namespace Go.K
open Go

structure Ent (α : Type) where
  set : α
  held : Nat
/-- the table: of each place its set and how often it is held; the free places, the one freed last at the end; how often the empty set is held -/
structure Tab (α : Type) where
  places : List (Ent α)
  free : List Nat
  empty : Nat
def Tab.z (α : Type) : Tab α := ⟨[], [], 0⟩
structure Tab.Inv {α : Type} (G : α → Prop) (t : Tab α) : Prop where
  nod : t.free.Nodup
  fre : ∀ i : Nat, i ∈ t.free ↔ ∃ p, t.places[i]? = some p ∧ p.held = 0
  uni : ∀ (i j : Nat) (p q : Ent α), t.places[i]? = some p → t.places[j]? = some q → 0 < p.held → 0 < q.held → p.set = q.set → i = j
  ok : ∀ (i : Nat) (p : Ent α), t.places[i]? = some p → 0 < p.held → G p.set
/-- a held set's place -/
def Tab.At {α : Type} (t : Tab α) (i : Nat) (s : α) (n : Nat) : Prop := t.places[i]? = some ⟨s, n⟩ ∧ 0 < n
def Tab.setP {α : Type} (t : Tab α) (i : Nat) (p : Ent α) : Tab α := { t with places := t.places.set i p }
/-- a set that is not there, at a place that nobody has, held once -/
def Tab.put {α : Type} (t : Tab α) (s : α) : Nat × Tab α := match t.free.getLast? with
  | some i => (i, { t with places := t.places.set i ⟨s, 1⟩, free := t.free.dropLast })
  | none => (t.places.length, { t with places := t.places ++ [⟨s, 1⟩] })
/-- a place is freed -/
def Tab.drop {α : Type} (t : Tab α) (z : α) (i : Nat) : Tab α := { t with places := t.places.set i ⟨z, 0⟩, free := t.free ++ [i] }
theorem Tab.Inv.z {α : Type} (G : α → Prop) : (Tab.z α).Inv G := ⟨List.nodup_nil, fun i => by simp [Tab.z], fun i j p q h => by simp [Tab.z] at h, fun i p h => by simp [Tab.z] at h⟩
theorem Tab.Inv.setP {α : Type} {G : α → Prop} {t : Tab α} (h : t.Inv G) {i : Nat} {p : Ent α} (hp : t.places[i]? = some p) (h0 : 0 < p.held) {n : Nat} (hn : 0 < n) : (t.setP i ⟨p.set, n⟩).Inv G := by
  have hi := (List.getElem?_eq_some_iff.1 hp).1
  have key : ∀ (j : Nat) (q : Ent α), (t.places.set i ⟨p.set, n⟩)[j]? = some q → ∃ q' : Ent α, t.places[j]? = some q' ∧ q'.set = q.set ∧ (0 < q.held ↔ 0 < q'.held) := by
    intro j q hq
    rw [List.getElem?_set, if_pos hi] at hq
    split at hq
    · rename_i e; subst e
      cases hq
      exact ⟨p, hp, rfl, by simp only; omega⟩
    · exact ⟨q, hq, rfl, Iff.rfl⟩
  refine ⟨h.nod, fun j => ?_, fun j k p1 p2 h1 h2 h3 h4 h5 => ?_, fun j p1 h1 h2 => ?_⟩
  · show j ∈ t.free ↔ ∃ q : Ent α, (t.places.set i ⟨p.set, n⟩)[j]? = some q ∧ q.held = 0
    rw [h.fre, List.getElem?_set, if_pos hi]
    split
    · rename_i e; subst e
      constructor
      · rintro ⟨q, e1, e2⟩; rw [hp] at e1; cases e1; omega
      · rintro ⟨q, e1, e2⟩; cases e1; simp only at e2; omega
    · exact Iff.rfl
  · obtain ⟨q1, e1, e2, e3⟩ := key j p1 h1
    obtain ⟨q2, f1, f2, f3⟩ := key k p2 h2
    exact h.uni j k q1 q2 e1 f1 (e3.1 h3) (f3.1 h4) (by rw [e2, f2, h5])
  · obtain ⟨q1, e1, e2, e3⟩ := key j p1 h1
    rw [← e2]
    exact h.ok j q1 e1 (e3.1 h2)
theorem dropLast_mem {l : List Nat} (h : l.Nodup) {i : Nat} (hi : l.getLast? = some i) (j : Nat) : j ∈ l.dropLast ↔ j ∈ l ∧ j ≠ i := by
  have e : l = l.dropLast ++ [i] := by
    cases l with
    | nil => simp at hi
    | cons a l =>
      rw [List.getLast?_eq_some_getLast (by simp)] at hi
      conv => lhs; rw [← List.dropLast_concat_getLast (l := a :: l) (by simp)]
      rw [Option.some.inj hi]
  have hn : (l.dropLast ++ [i]).Nodup := e ▸ h
  have hm : j ∈ l ↔ j ∈ l.dropLast ++ [i] := by rw [← e]
  rw [List.nodup_append] at hn
  rw [hm, List.mem_append, List.mem_singleton]
  constructor
  · intro hj
    exact ⟨.inl hj, fun e => hn.2.2 j hj i (List.mem_singleton.2 rfl) e⟩
  · rintro ⟨h1 | h1, h2⟩
    · exact h1
    · exact absurd h1 h2
theorem Tab.put_spec {α : Type} {G : α → Prop} {t : Tab α} (h : t.Inv G) {s : α} (hg : G s) (hs : ∀ (i : Nat) (p : Ent α), t.places[i]? = some p → 0 < p.held → p.set ≠ s) :
    (t.put s).2.Inv G ∧ (t.put s).2.places[(t.put s).1]? = some ⟨s, 1⟩ ∧ (∀ p : Ent α, t.places[(t.put s).1]? = some p → p.held = 0) ∧ (∀ j : Nat, j ≠ (t.put s).1 → (t.put s).2.places[j]? = t.places[j]?) ∧ (t.put s).2.empty = t.empty := by
  unfold Tab.put
  cases hl : t.free.getLast? with
  | some i =>
    have him : i ∈ t.free := List.mem_of_getLast? hl
    obtain ⟨p, hp, hp0⟩ := (h.fre i).1 him
    have hi := (List.getElem?_eq_some_iff.1 hp).1
    have hsame : (t.places.set i ⟨s, 1⟩)[i]? = some ⟨s, 1⟩ := by rw [List.getElem?_set_self hi]
    have hoth : ∀ j : Nat, j ≠ i → (t.places.set i ⟨s, 1⟩)[j]? = t.places[j]? := fun j hj => List.getElem?_set_ne (Ne.symm hj)
    refine ⟨⟨h.nod.sublist (List.dropLast_sublist _), fun j => ?_, fun j k p1 p2 h1 h2 h3 h4 h5 => ?_, fun j p1 h1 h2 => ?_⟩, hsame, fun q hq => ?_, hoth, rfl⟩
    · show j ∈ t.free.dropLast ↔ ∃ q : Ent α, (t.places.set i ⟨s, 1⟩)[j]? = some q ∧ q.held = 0
      rw [dropLast_mem h.nod hl, h.fre]
      by_cases e : j = i
      · subst e
        rw [hsame]
        constructor
        · rintro ⟨_, h2⟩; exact absurd rfl h2
        · rintro ⟨q, e1, e2⟩; cases e1; cases e2
      · rw [hoth j e]
        exact ⟨fun h => h.1, fun h => ⟨h, e⟩⟩
    · simp only at h1 h2
      by_cases e1 : j = i <;> by_cases e2 : k = i
      · rw [e1, e2]
      · subst e1
        rw [hsame] at h1; cases h1
        rw [hoth k e2] at h2
        exact absurd h5.symm (hs k p2 h2 h4)
      · subst e2
        rw [hsame] at h2; cases h2
        rw [hoth j e1] at h1
        exact absurd h5 (hs j p1 h1 h3)
      · rw [hoth j e1] at h1; rw [hoth k e2] at h2
        exact h.uni j k p1 p2 h1 h2 h3 h4 h5
    · simp only at h1
      by_cases e1 : j = i
      · subst e1; rw [hsame] at h1; cases h1; exact hg
      · rw [hoth j e1] at h1; exact h.ok j p1 h1 h2
    · simp only at hq; rw [hp] at hq; cases hq; exact hp0
  | none =>
    have hf : t.free = [] := List.getLast?_eq_none_iff.1 hl
    have hsame : (t.places ++ [(⟨s, 1⟩ : Ent α)])[t.places.length]? = some ⟨s, 1⟩ := by simp
    have hoth : ∀ j : Nat, j ≠ t.places.length → (t.places ++ [(⟨s, 1⟩ : Ent α)])[j]? = t.places[j]? := by
      intro j hj
      by_cases hlt : j < t.places.length
      · rw [List.getElem?_append_left hlt]
      · rw [List.getElem?_eq_none (by simp; omega), List.getElem?_eq_none (by omega)]
    refine ⟨⟨h.nod, fun j => ?_, fun j k p1 p2 h1 h2 h3 h4 h5 => ?_, fun j p1 h1 h2 => ?_⟩, hsame, fun q hq => ?_, hoth, rfl⟩
    · show j ∈ t.free ↔ ∃ q : Ent α, (t.places ++ [(⟨s, 1⟩ : Ent α)])[j]? = some q ∧ q.held = 0
      by_cases e : j = t.places.length
      · subst e
        rw [hsame, hf]
        constructor
        · intro h; simp at h
        · rintro ⟨q, e1, e2⟩; cases e1; cases e2
      · rw [hoth j e, h.fre]
    · simp only at h1 h2
      by_cases e1 : j = t.places.length <;> by_cases e2 : k = t.places.length
      · rw [e1, e2]
      · subst e1
        rw [hsame] at h1; cases h1
        rw [hoth k e2] at h2
        exact absurd h5.symm (hs k p2 h2 h4)
      · subst e2
        rw [hsame] at h2; cases h2
        rw [hoth j e1] at h1
        exact absurd h5 (hs j p1 h1 h3)
      · rw [hoth j e1] at h1; rw [hoth k e2] at h2
        exact h.uni j k p1 p2 h1 h2 h3 h4 h5
    · simp only at h1
      by_cases e1 : j = t.places.length
      · subst e1; rw [hsame] at h1; cases h1; exact hg
      · rw [hoth j e1] at h1; exact h.ok j p1 h1 h2
    · simp only at hq; rw [List.getElem?_eq_none (Nat.le_refl _)] at hq; cases hq
theorem Tab.drop_inv {α : Type} {G : α → Prop} {t : Tab α} (h : t.Inv G) {i : Nat} {p : Ent α} (hp : t.places[i]? = some p) (h0 : 0 < p.held) (z : α) : (t.drop z i).Inv G := by
  have hi := (List.getElem?_eq_some_iff.1 hp).1
  have hni : i ∉ t.free := fun hm => by obtain ⟨q, e1, e2⟩ := (h.fre i).1 hm; rw [hp] at e1; cases e1; omega
  have hsame : (t.places.set i ⟨z, 0⟩)[i]? = some ⟨z, 0⟩ := by rw [List.getElem?_set_self hi]
  have hoth : ∀ j : Nat, j ≠ i → (t.places.set i ⟨z, 0⟩)[j]? = t.places[j]? := fun j hj => List.getElem?_set_ne (Ne.symm hj)
  refine ⟨?_, fun j => ?_, fun j k p1 p2 h1 h2 h3 h4 h5 => ?_, fun j p1 h1 h2 => ?_⟩
  · show (t.free ++ [i]).Nodup
    rw [List.nodup_append]
    exact ⟨h.nod, by simp, fun a ha b hb => by rw [List.mem_singleton] at hb; subst hb; intro e; exact hni (e ▸ ha)⟩
  · show j ∈ t.free ++ [i] ↔ ∃ q : Ent α, (t.places.set i ⟨z, 0⟩)[j]? = some q ∧ q.held = 0
    rw [List.mem_append, List.mem_singleton]
    by_cases e : j = i
    · subst e
      rw [hsame]
      exact ⟨fun _ => ⟨_, rfl, rfl⟩, fun _ => .inr rfl⟩
    · rw [hoth j e, h.fre]
      exact ⟨fun h => h.resolve_right e, fun h => .inl h⟩
  · simp only [Tab.drop] at h1 h2
    by_cases e1 : j = i
    · subst e1; rw [hsame] at h1; cases h1; exact absurd h3 (Nat.lt_irrefl _)
    by_cases e2 : k = i
    · subst e2; rw [hsame] at h2; cases h2; exact absurd h4 (Nat.lt_irrefl _)
    rw [hoth j e1] at h1; rw [hoth k e2] at h2
    exact h.uni j k p1 p2 h1 h2 h3 h4 h5
  · simp only [Tab.drop] at h1
    by_cases e1 : j = i
    · subst e1; rw [hsame] at h1; cases h1; exact absurd h2 (Nat.lt_irrefl _)
    · rw [hoth j e1] at h1; exact h.ok j p1 h1 h2
theorem nodup_len : ∀ {l m : List Nat}, l.Nodup → l ⊆ m → l.length ≤ m.length := by
  intro l
  induction l with
  | nil => intro m _ _; exact Nat.zero_le _
  | cons a l ih =>
    intro m hn hs
    rw [List.nodup_cons] at hn
    have ha : a ∈ m := hs List.mem_cons_self
    have h2 : l ⊆ m.erase a := fun x hx => (List.mem_erase_of_ne (fun e : x = a => hn.1 (e ▸ hx))).2 (hs (List.mem_cons_of_mem _ hx))
    have := ih hn.2 h2
    rw [List.length_erase_of_mem ha] at this
    have := List.length_pos_of_mem ha
    simp only [List.length_cons]
    omega
theorem Tab.free_le {α : Type} {G : α → Prop} {t : Tab α} (h : t.Inv G) : t.free.length ≤ t.places.length := by
  have hs : t.free ⊆ List.range t.places.length := fun i hi => by
    obtain ⟨p, hp, _⟩ := (h.fre i).1 hi
    exact List.mem_range.2 (List.getElem?_eq_some_iff.1 hp).1
  have := nodup_len h.nod hs
  simpa using this
end Go.K

namespace Go.Proofs.YtmfplfaeibehiaaDoor
open Go Go.K

def strOf (l : List Int) : ByteArray := ⟨(l.map fun x => UInt8.ofNat x.toNat).toArray⟩
theorem bytesL_strOf {l : List Int} (h : ∀ x ∈ l, 0 ≤ x ∧ x < 256) : bytesL (strOf l) = l := by
  unfold bytesL strOf
  simp only [List.map_map]
  conv => rhs; rw [← List.map_id l]
  refine List.map_congr_left fun x hx => ?_
  have := h x hx
  simp only [Function.comp, UInt8.toNat_ofNat', id]
  omega
theorem encA_byte {a : Attr} (h : InA a) : ∀ x ∈ encA a, 0 ≤ x ∧ x < 256 := by
  obtain ⟨a1, a2, a3, a4, a5⟩ := h
  intro x hx
  simp only [encA, List.mem_append] at hx
  rcases hx with hx | hx | hx | hx | hx | hx
  · exact uv_byte (zigN_lt a1.1 a1.2) x hx
  · exact uv_byte (by omega) x hx
  · exact uv_byte (zigN_lt a3.1 a3.2) x hx
  · exact uv_byte (by omega) x hx
  · exact uv_byte a5 x hx
  · simp only [bytesL, List.mem_map] at hx
    obtain ⟨b, _, rfl⟩ := hx
    have := b.toNat_lt
    omega
theorem encS_byte {l : List Attr} (h : ∀ a ∈ l, InA a) : ∀ x ∈ encS l, 0 ≤ x ∧ x < 256 := by
  intro x hx
  simp only [encS, List.mem_flatMap] at hx
  obtain ⟨a, ha, hx⟩ := hx
  exact encA_byte (h a ha) x hx
/-- a set's text -/
def textOf (l : List Attr) : ByteArray := strOf (encS l)
theorem textOf_inj {l m : List Attr} (hl : ∀ a ∈ l, InA a) (hm : ∀ a ∈ m, InA a) (h : textOf l = textOf m) : l = m := by
  refine encS_inj hl hm ?_
  rw [← bytesL_strOf (encS_byte hl), ← bytesL_strOf (encS_byte hm)]
  exact congrArg bytesL h
/-- what the map must say -/
def IdsOf (t : Tab (List Attr)) (f : Value → Option Value) : Prop := ∀ s v, f (.string s) = some v ↔ ∃ (i : Nat) (p : Ent (List Attr)), t.places[i]? = some p ∧ 0 < p.held ∧ s = textOf p.set ∧ v = .int .i64 ((i : Int) + 1)
/-- what holds of the sets that are held -/
def GoodS (ks : List Attr → Prop) (s : List Attr) : Prop := s ≠ [] ∧ (∀ a ∈ s, InA a) ∧ ks s
theorem IdsOf.some {K : List Attr → Prop} {t : Tab (List Attr)} {f : Value → Option Value} (h : IdsOf t f) (hi : t.Inv (GoodS K)) {s : List Attr} (hs : ∀ a ∈ s, InA a) {v : Value} (hv : f (.string (textOf s)) = some v) : ∃ i n : Nat, t.places[i]? = .some ⟨s, n⟩ ∧ 0 < n ∧ v = .int .i64 ((i : Int) + 1) := by
  obtain ⟨i, p, h1, h2, h3, h4⟩ := (h _ _).1 hv
  have := textOf_inj hs (hi.ok i p h1 h2).2.1 h3
  subst this
  exact ⟨i, p.held, h1, h2, h4⟩
theorem IdsOf.none {t : Tab (List Attr)} {f : Value → Option Value} (h : IdsOf t f) {s : List Attr} (hv : f (.string (textOf s)) = Option.none) : ∀ (i : Nat) (p : Ent (List Attr)), t.places[i]? = .some p → 0 < p.held → p.set ≠ s := by
  rintro i p h1 h2 rfl
  have := (h (textOf p.set) _).2 ⟨i, p, h1, h2, rfl, rfl⟩
  rw [hv] at this; cases this
theorem IdsOf.setP {t : Tab (List Attr)} {f : Value → Option Value} (h : IdsOf t f) {i : Nat} {p : Ent (List Attr)} (hp : t.places[i]? = .some p) (h0 : 0 < p.held) {n : Nat} (hn : 0 < n) : IdsOf (t.setP i ⟨p.set, n⟩) f := by
  intro s v
  rw [h s v]
  have hi := (List.getElem?_eq_some_iff.1 hp).1
  constructor
  · rintro ⟨j, q, h1, h2, h3, h4⟩
    by_cases e : j = i
    · subst e
      rw [hp] at h1; cases h1
      exact ⟨j, ⟨p.set, n⟩, by show (t.places.set j _)[j]? = _; rw [List.getElem?_set_self hi], hn, h3, h4⟩
    · exact ⟨j, q, by show (t.places.set i _)[j]? = _; rw [List.getElem?_set_ne (Ne.symm e)]; exact h1, h2, h3, h4⟩
  · rintro ⟨j, q, h1, h2, h3, h4⟩
    have h1' : (t.places.set i ⟨p.set, n⟩)[j]? = .some q := h1
    by_cases e : j = i
    · subst e
      rw [List.getElem?_set_self hi] at h1'; cases h1'
      exact ⟨j, p, hp, h0, h3, h4⟩
    · rw [List.getElem?_set_ne (Ne.symm e)] at h1'
      exact ⟨j, q, h1', h2, h3, h4⟩
open Classical in
theorem IdsOf.put {K : List Attr → Prop} {t : Tab (List Attr)} {f : Value → Option Value} (h : IdsOf t f) (hi : t.Inv (GoodS K)) {s : List Attr} (hg : GoodS K s) (hv : f (.string (textOf s)) = Option.none) :
    IdsOf (t.put s).2 (fun k' => if k' = .string (textOf s) then Option.some (.int .i64 (((t.put s).1 : Int) + 1)) else f k') := by
  obtain ⟨_, h1, h2, h3, _⟩ := Tab.put_spec hi hg (h.none hv)
  intro s' v
  simp only [Value.string.injEq]
  constructor
  · intro hh
    split at hh
    · rename_i e; subst e; cases hh
      exact ⟨_, _, h1, Nat.one_pos, rfl, rfl⟩
    · obtain ⟨j, p, q1, q2, q3, q4⟩ := (h s' v).1 hh
      have hj : j ≠ (t.put s).1 := by
        rintro rfl
        have := h2 p q1; omega
      exact ⟨j, p, (h3 j hj).trans q1, q2, q3, q4⟩
  · rintro ⟨j, p, q1, q2, q3, q4⟩
    by_cases hj : j = (t.put s).1
    · subst hj
      rw [h1] at q1; cases q1
      rw [if_pos q3, q4]
    · rw [h3 j hj] at q1
      rw [if_neg]
      · exact (h s' v).2 ⟨j, p, q1, q2, q3, q4⟩
      · intro e
        rw [e] at q3
        exact h.none hv j p q1 q2 (textOf_inj (hi.ok j p q1 q2).2.1 hg.2.1 q3.symm)
open Classical in
theorem IdsOf.drop {K : List Attr → Prop} {t : Tab (List Attr)} {f : Value → Option Value} (h : IdsOf t f) (hi : t.Inv (GoodS K)) {i : Nat} {p : Ent (List Attr)} (hp : t.places[i]? = .some p) (h0 : 0 < p.held) :
    IdsOf (t.drop [] i) (fun k' => if k' = .string (textOf p.set) then Option.none else f k') := by
  have hlt := (List.getElem?_eq_some_iff.1 hp).1
  have hsame : (t.places.set i ⟨[], 0⟩)[i]? = .some ⟨[], 0⟩ := List.getElem?_set_self hlt
  have hoth : ∀ j : Nat, j ≠ i → (t.places.set i (⟨[], 0⟩ : Ent (List Attr)))[j]? = t.places[j]? := fun j hj => List.getElem?_set_ne (Ne.symm hj)
  intro s' v
  simp only [Value.string.injEq]
  constructor
  · intro hh
    split at hh
    · cases hh
    · rename_i e
      obtain ⟨j, q, q1, q2, q3, q4⟩ := (h s' v).1 hh
      have hj : j ≠ i := by
        rintro rfl
        rw [hp] at q1; cases q1
        exact e q3
      exact ⟨j, q, (hoth j hj).trans q1, q2, q3, q4⟩
  · rintro ⟨j, q, q1, q2, q3, q4⟩
    have q1' : (t.places.set i (⟨[], 0⟩ : Ent (List Attr)))[j]? = .some q := q1
    by_cases hj : j = i
    · subst hj
      rw [hsame] at q1'; cases q1'
      exact absurd q2 (Nat.lt_irrefl _)
    · rw [hoth j hj] at q1'
      rw [if_neg]
      · exact (h s' v).2 ⟨j, q, q1', q2, q3, q4⟩
      · intro e
        rw [e] at q3
        exact hj (hi.uni j i q p q1' hp q2 h0 (textOf_inj (hi.ok j q q1' q2).2.1 (hi.ok i p hp h0).2.1 q3.symm))
theorem IdsOf.z : IdsOf (Tab.z _) (fun _ => Option.none) := fun s v => by simp [Tab.z]
end Go.Proofs.YtmfplfaeibehiaaDoor

namespace Go.K
open Go
/-- where an iterator over a string stands -/
def posAt (w : World) (r : Nat) : Nat := match w.heap[r]? with | some (.stringIter _ p) => p | _ => 0
theorem run_next_str {P : Program} {w : World} {r : Nat} {s : ByteArray} {pos : Nat} {ty : TypeId} (h : w.heap[r]? = some (.stringIter s pos)) (hp : pos < s.size) :
    (Instr.next (.pointer (some ⟨r, 0, none⟩)) true ty).run P w = .ok (.tuple #[.bool true, .int .i64 pos, .int .i32 (Utf8.decode s pos).1]) { w with heap := w.heap.setIfInBounds r (.stringIter s (pos + (Utf8.decode s pos).2)) } := by
  simp only [Instr.next, getObj, setObj, Sem.run_bind, Sem.run, h, Result.andThen, hp, if_true]
  simp [goInt]
theorem run_next_over {P : Program} {w : World} {r : Nat} {s : ByteArray} {pos : Nat} {ty : TypeId} (h : w.heap[r]? = some (.stringIter s pos)) (hp : ¬ pos < s.size) :
    (Instr.next (.pointer (some ⟨r, 0, none⟩)) true ty).run P w = .ok (.tuple #[.bool false]) w := by
  simp only [Instr.next, getObj, Sem.run_bind, Sem.run, h, Result.andThen, hp, if_false]
  rfl
theorem Mod.setObj (w : World) (r : Nat) (o o' : Obj) (h : w.heap[r]? = some o) : Mod (fun b => b = r) w { w with heap := w.heap.setIfInBounds r o' } :=
  ⟨rfl, rfl, rfl, by simp, fun x _ hx => (MapKept.heap_set h).2 x hx⟩
end Go.K
namespace Go.Proofs.YtmfplfaeibehiaaDoor
open Go Go.K

theorem run_str {S : Nat → Prop} {v : Value} {b : List Int} {w : World} (h : RBytes S w v b) (hb : ByteL b) : (convert 54 9 v).run Tryd.prog w = .ok (.string (strOf b)) w := by
  obtain ⟨a, c, rfl, hm⟩ := h.shape
  cases a with
  | none =>
    have : b = [] := by
      cases b with
      | nil => rfl
      | cons x b => obtain ⟨p, r, e, _⟩ := h.get (i := 0) (by simp); cases e
    subst this
    exact run_convert_bytes_nil w 54 5 (by kernel_rfl) (by kernel_rfl) _ _ _ (by kernel_rfl)
  | some p =>
    have hl : (b.map fun x => UInt8.ofNat x.toNat).length = b.length := by simp
    have := run_convert_bytes_back (P := Tryd.prog) w 54 9 5 p c (b.map fun x => UInt8.ofNat x.toNat) (by kernel_rfl) (by kernel_rfl) (by kernel_rfl) (fun j hj => by
      rw [hl] at hj
      obtain ⟨_, r, e, _, hr, hc, rfl⟩ := h.get hj
      cases e
      have := hc 0 _ rfl
      rw [Nat.mul_one, Nat.add_zero] at this
      rw [this]
      have hbj := hb b[j] (List.getElem_mem hj)
      simp only [List.getElem_map, UInt8.toNat_ofNat']
      congr 2
      omega)
    rw [hl] at this
    exact this
/-- the program's decoding of a rune is the document's -/
theorem decode_next {s : ByteArray} {pos : Nat} {r : Int} {n : Nat} (hp : pos < s.size) (h : nextB ((bytesL s).drop pos) = (r, n)) (hn : n ≠ 0) : ((Utf8.decode s pos).1 : Int) = r ∧ (Utf8.decode s pos).2 = n := by
  have hat : ∀ k c, ((bytesL s).drop pos)[k]? = some c → pos + k < s.size ∧ (((s.get! (pos + k)).toNat : Nat) : Int) = c := by
    intro k c hc
    rw [List.getElem?_drop] at hc
    have hlt : pos + k < s.size := by
      have := (List.getElem?_eq_some_iff.1 hc).1
      rwa [bytesL_len] at this
    refine ⟨hlt, ?_⟩
    have hg : s.get! (pos + k) = s[pos + k]'hlt := by
      simp [ByteArray.get!, getElem!_pos, hlt]
      rfl
    rw [hg]
    simp only [bytesL, List.getElem?_map] at hc
    have hlt' : pos + k < s.data.toList.length := by simpa using hlt
    rw [List.getElem?_eq_getElem hlt'] at hc
    have := Option.some.inj hc
    exact this
  have hB : ByteL ((bytesL s).drop pos) := fun x hx => by
    have := List.mem_of_mem_drop hx
    simp only [bytesL, List.mem_map] at this
    obtain ⟨b, _, rfl⟩ := this
    have := b.toNat_lt
    omega
  have hne : ((bytesL s).drop pos).length ≠ 0 := by rw [List.length_drop, bytesL_len]; omega
  generalize (bytesL s).drop pos = l at h hat hB hne
  obtain ⟨b0, t, rfl⟩ : ∃ x t, l = x :: t := by cases l with | nil => simp at hne | cons x t => exact ⟨x, t, rfl⟩
  obtain ⟨_, e0⟩ := hat 0 b0 rfl
  have h0 := hB b0 List.mem_cons_self
  generalize hm0 : (s.get! (pos + 0)).toNat = m0 at e0
  by_cases ha : b0 < 128
  · rw [next_ascii h0.1 ha] at h
    cases h
    simp only [Utf8.decode, hm0]
    rw [if_pos (by omega)]
    exact ⟨e0, rfl⟩
  rcases hdSize_v b0 with hz | hz | hz | hz
  · rw [next_bad hB (by omega) hz] at h
    cases h; exact absurd rfl hn
  · cases t with
    | nil => rw [next_short h0.2 (by rw [hz]; simp)] at h; cases h; exact absurd rfl hn
    | cons c1 t =>
      have h1 := hB c1 (by simp)
      obtain ⟨l1, e1⟩ := hat 1 c1 rfl
      generalize hm1 : (s.get! (pos + 1)).toNat = m1 at e1
      rw [next_2 hz h1.1 h1.2] at h
      split at h
      · rename_i hc
        cases h
        have hb0 : 194 ≤ b0 ∧ b0 < 224 := by
          unfold hdSize at hz
          (repeat' split at hz) <;> omega
        have hlo : 128 ≤ hdLo b0 := by
          unfold hdLo
          split
          · decide
          · split <;> decide
        have hhi : hdHi b0 ≤ 191 := by
          unfold hdHi
          split
          · decide
          · split <;> decide
        have q1 : (m0 / 32 == 6 && (decide (pos + 1 < s.size) && m1 / 64 == 2)) = true := by
          simp only [Bool.and_eq_true, beq_iff_eq, decide_eq_true_eq]
          exact ⟨by omega, l1, by omega⟩
        simp only [Utf8.decode, hm0, hm1]
        rw [if_neg (by omega), if_pos q1, if_pos (by omega)]
        exact ⟨by omega, rfl⟩
      · cases h; exact absurd rfl hn
  · rcases t with _ | ⟨c1, _ | ⟨c2, t⟩⟩
    · rw [next_short h0.2 (by rw [hz]; simp)] at h; cases h; exact absurd rfl hn
    · rw [next_short h0.2 (by rw [hz]; simp)] at h; cases h; exact absurd rfl hn
    · have h1 := hB c1 (by simp)
      have h2 := hB c2 (by simp)
      obtain ⟨l1, e1⟩ := hat 1 c1 rfl
      obtain ⟨l2, e2⟩ := hat 2 c2 rfl
      generalize hm1 : (s.get! (pos + 1)).toNat = m1 at e1
      generalize hm2 : (s.get! (pos + 2)).toNat = m2 at e2
      rw [next_3 hz h1.1 h1.2 h2.1 h2.2] at h
      split at h
      · rename_i hc
        cases h
        have hb0 : 224 ≤ b0 ∧ b0 < 240 := by
          unfold hdSize at hz
          (repeat' split at hz) <;> omega
        have hlo : (if b0 = 224 then (160 : Int) else 128) ≤ c1 := by
          refine Int.le_trans ?_ hc.1.1
          unfold hdLo
          split
          · decide
          · split <;> decide
        have hhi : c1 ≤ (if b0 = 237 then (159 : Int) else 191) := by
          refine Int.le_trans hc.1.2 ?_
          unfold hdHi
          split
          · decide
          · split <;> decide
        have hlo2 : 128 ≤ c1 := by split at hlo <;> omega
        have hhi2 : c1 ≤ 191 := by split at hhi <;> omega
        have q1 : ¬ (m0 / 32 == 6 && (decide (pos + 1 < s.size) && m1 / 64 == 2)) = true := by
          simp only [Bool.and_eq_true, beq_iff_eq, decide_eq_true_eq]
          rintro ⟨x, _⟩; omega
        have q2 : (m0 / 16 == 14 && (decide (pos + 1 < s.size) && m1 / 64 == 2) && (decide (pos + 2 < s.size) && m2 / 64 == 2)) = true := by
          simp only [Bool.and_eq_true, beq_iff_eq, decide_eq_true_eq]
          exact ⟨⟨by omega, l1, by omega⟩, l2, by omega⟩
        have q3 : (decide (m0 % 16 * 4096 + m1 % 64 * 64 + m2 % 64 ≥ 2048) && Utf8.valid ((m0 % 16 * 4096 + m1 % 64 * 64 + m2 % 64 : Nat) : Int)) = true := by
          simp only [Utf8.valid, Bool.and_eq_true, Bool.or_eq_true, decide_eq_true_eq]
          refine ⟨by split at hlo <;> omega, ?_⟩
          split at hhi
          · left; omega
          · by_cases hb : b0 < 237
            · left; omega
            · right; omega
        simp only [Utf8.decode, hm0, hm1, hm2]
        rw [if_neg (by omega), if_neg q1, if_pos q2, if_pos q3]
        exact ⟨by omega, rfl⟩
      · cases h; exact absurd rfl hn
  · rcases t with _ | ⟨c1, _ | ⟨c2, _ | ⟨c3, t⟩⟩⟩
    · rw [next_short h0.2 (by rw [hz]; simp)] at h; cases h; exact absurd rfl hn
    · rw [next_short h0.2 (by rw [hz]; simp)] at h; cases h; exact absurd rfl hn
    · rw [next_short h0.2 (by rw [hz]; simp)] at h; cases h; exact absurd rfl hn
    · have h1 := hB c1 (by simp)
      have h2 := hB c2 (by simp)
      have h3 := hB c3 (by simp)
      obtain ⟨l1, e1⟩ := hat 1 c1 rfl
      obtain ⟨l2, e2⟩ := hat 2 c2 rfl
      obtain ⟨l3, e3⟩ := hat 3 c3 rfl
      generalize hm1 : (s.get! (pos + 1)).toNat = m1 at e1
      generalize hm2 : (s.get! (pos + 2)).toNat = m2 at e2
      generalize hm3 : (s.get! (pos + 3)).toNat = m3 at e3
      rw [next_4 hz h1.1 h1.2 h2.1 h2.2 h3.1 h3.2] at h
      split at h
      · rename_i hc
        cases h
        have hb0 : 240 ≤ b0 ∧ b0 < 245 := by
          unfold hdSize at hz
          (repeat' split at hz) <;> omega
        have hlo : (if b0 = 240 then (144 : Int) else 128) ≤ c1 := by
          refine Int.le_trans ?_ hc.1.1
          unfold hdLo
          rw [if_neg (show ¬ b0 = 224 by omega)]
          exact Int.le_refl _
        have hhi : c1 ≤ (if b0 = 244 then (143 : Int) else 191) := by
          refine Int.le_trans hc.1.2 ?_
          unfold hdHi
          rw [if_neg (show ¬ b0 = 237 by omega)]
          exact Int.le_refl _
        have hlo2 : 128 ≤ c1 := by split at hlo <;> omega
        have hhi2 : c1 ≤ 191 := by split at hhi <;> omega
        have q1 : ¬ (m0 / 32 == 6 && (decide (pos + 1 < s.size) && m1 / 64 == 2)) = true := by
          simp only [Bool.and_eq_true, beq_iff_eq, decide_eq_true_eq]
          rintro ⟨x, _⟩; omega
        have q2 : ¬ (m0 / 16 == 14 && (decide (pos + 1 < s.size) && m1 / 64 == 2) && (decide (pos + 2 < s.size) && m2 / 64 == 2)) = true := by
          simp only [Bool.and_eq_true, beq_iff_eq, decide_eq_true_eq]
          rintro ⟨⟨x, _⟩, _⟩; omega
        have q3 : (m0 / 8 == 30 && (decide (pos + 1 < s.size) && m1 / 64 == 2) && (decide (pos + 2 < s.size) && m2 / 64 == 2) && (decide (pos + 3 < s.size) && m3 / 64 == 2)) = true := by
          simp only [Bool.and_eq_true, beq_iff_eq, decide_eq_true_eq]
          exact ⟨⟨⟨by omega, l1, by omega⟩, l2, by omega⟩, l3, by omega⟩
        have q4 : (decide (m0 % 8 * 262144 + m1 % 64 * 4096 + m2 % 64 * 64 + m3 % 64 ≥ 65536) && Utf8.valid ((m0 % 8 * 262144 + m1 % 64 * 4096 + m2 % 64 * 64 + m3 % 64 : Nat) : Int)) = true := by
          simp only [Utf8.valid, Bool.and_eq_true, Bool.or_eq_true, decide_eq_true_eq]
          refine ⟨by split at hlo <;> omega, ?_⟩
          right
          split at hhi <;> omega
        simp only [Utf8.decode, hm0, hm1, hm2, hm3]
        rw [if_neg (by omega), if_neg q1, if_neg q2, if_pos q3, if_pos q4]
        exact ⟨by omega, rfl⟩
      · cases h; exact absurd rfl hn
theorem elem_rune' : ElemOK Tryd.prog 116 21 1 4 := elem_rune
theorem runes_ok {S : Nat → Prop} {v : Value} {b : List Int} {w : World} (h : RBytes S w v b) (hb : ByteL b) (hT : Tabs w) (hl : b.length * 4 ≤ 140737488355328) :
    callK Tryd.prog 84 [v] (fun v' w' => Grow w w' ∧ match readB b with
      | some l => ∃ sl, v' = .tuple #[sl, .int .i64 0] ∧ OwnR w.heap.size 21 1 RRune w' sl l
      | none => v' = .tuple #[.slice none 0 0, .int .i64 3]) w := by
  apply S84_ok
  unfold S84
  refine callK_mono (valid_ok h hb hT) ?_
  rintro _ w1 ⟨rfl, g1⟩
  rw [notK_i]
  cases hr : readB b with
  | none => exact condK_t ⟨g1, rfl⟩
  | some rs =>
    refine condK_f (runK_i (run_str (h.grow g1 (by decide) fun _ _ h => h) hb) ?_)
    have hs : bytesL (strOf b) = b := bytesL_strOf hb
    have hsz : (strOf b).size = b.length := by rw [← bytesL_len, hs]
    generalize strOf b = s at hs hsz
    refine runK_i (run_range_string w1 9 s (by kernel_rfl)) ?_
    have hit := World.iter_heap w1 s 0
    have g2 : Grow w1 (w1.iter s 0) := Mod.alloc _ _ _
    have hr1 := g1.size
    generalize w1.iter s 0 = w2 at hit g2
    generalize hrb : w1.heap.size = r at hit
    have hrw : w.heap.size ≤ r := by omega
    refine LoopK_i (fun vs W => ∃ (pos : Nat) (lv : Value) (acc : List Int), pos ≤ b.length ∧ acc.length ≤ pos ∧ vs = [lv] ∧ W.heap[r]? = some (.stringIter s pos) ∧ OwnR w.heap.size 21 1 RRune W lv acc ∧ lv.ownBlock ≠ some r ∧ Grow w W ∧ readB b = (readB (b.drop pos)).map (acc ++ ·)) (fun _ W => b.length - posAt W r)
      ⟨0, _, [], Nat.zero_le _, Nat.le_refl _, rfl, hit, OwnR.nil, (fun h => nomatch h), g1.trans g2, by simp⟩ ?_
    rintro vs W ⟨pos, lv, acc, hpos, hacc, rfl, hi, ho, hrn, gW, hrd⟩ _
    have hposAt : posAt W r = pos := by simp [posAt, hi]
    by_cases hlt : pos < s.size
    · have hlt' : pos < b.length := by omega
      have hne : b.drop pos ≠ [] := by intro e; have := congrArg List.length e; simp at this; omega
      have hnl := nextB_len (b.drop pos)
      rw [List.length_drop] at hnl
      rw [readB_cons hne] at hrd
      have hnx : ∃ q n, nextB (b.drop pos) = (q, n) := ⟨_, _, rfl⟩
      obtain ⟨q, n, hq⟩ := hnx
      rw [hq] at hrd hnl
      simp only at hrd hnl
      have hn : n ≠ 0 := by
        intro e
        rw [if_pos e, hr] at hrd
        cases hrd
      rw [if_neg hn] at hrd
      obtain ⟨d1, d2⟩ := decode_next (s := s) hlt (by rw [hs]; exact hq) hn
      refine runK_i (run_next_str hi hlt) ?_
      rw [d1, d2]
      refine extK_i (vs := [_, _, _]) (by rfl) (condK_t (extK_i (vs := [_, _, _]) (by rfl) ?_))
      have m3 := Mod.setObj W r _ (.stringIter s (pos + n)) hi
      have hi3 := (MapKept.heap_set (o' := .stringIter s (pos + n)) hi).1
      have hi3' : ({ W with heap := W.heap.setIfInBounds r (.stringIter s (pos + n)) } : World).heap[r]? = some (.stringIter s (pos + n)) := hi3
      generalize ({ W with heap := W.heap.setIfInBounds r (.stringIter s (pos + n)) } : World) = W3 at m3 hi3'
      have ho3 : OwnR w.heap.size 21 1 RRune W3 lv acc := OwnR.mod ho m3 (fun g hg e => hrn (e ▸ hg)) fun _ _ _ h => h
      have gW3 : Grow w W3 := gW.next m3 fun x hx e => by omega
      show rowK _ _ _ _ [(0, .int .i32 q)] _ _
      refine push_g elem_rune ho3 gW3.size (cs := [.int .i32 q]) (x := q) (by kernel_rfl) rfl rfl (fun _ _ _ => RRune.one) (fun _ _ _ _ _ _ h => h) (by omega) (by simp only [maxLen]; omega) fun v' w' h1 h2 h3 => ?_
      have hrlt : r < W3.heap.size := (Array.getElem?_eq_some_iff.1 hi3').1
      have hi4 : w'.heap[r]? = some (.stringIter s (pos + n)) := (h2.same r hrlt hrn).trans hi3'
      refine ⟨⟨pos + n, v', acc ++ [q], by omega, by simp; omega, rfl, hi4, h1, fun e => ?_, gW3.next h2 fun x hx e => ?_, ?_⟩, ?_⟩
      · rcases h3 r e with e | e
        · exact hrn e
        · omega
      · have := (OwnR.ownB ho3 x e).1
        omega
      · rw [hrd, List.drop_drop]
        cases readB (b.drop (pos + n)) <;> simp
      · rw [hposAt]
        have : posAt w' r = pos + n := by simp [posAt, hi4]
        rw [this]
        omega
    · refine runK_i (run_next_over hi hlt) ?_
      refine extK_i (vs := [_]) (by rfl) (condK_f ?_)
      have : pos = b.length := by omega
      subst this
      rw [List.drop_length, readB_nil, hr] at hrd
      simp only [Option.map_some, Option.some.injEq, List.append_nil] at hrd
      subst hrd
      exact ⟨gW, lv, rfl, ho⟩
end Go.Proofs.YtmfplfaeibehiaaDoor

namespace Go.Proofs.YtmfplfaeibehiaaDoor
open Go Go.K
/-- rubric/intern.New -/
def S25 (v0 : Value) (K : Cont) (w : World) : Prop :=
  runK Tryd.prog (Instr.makeMap 82 none) (fun t4 w1 =>
  buildK [(0, 1), (1, 1), (2, 1), (3, 1), (4, 1)] [(.pointer none), (.slice none 0 0), (.slice none 0 0), (.map none), (.int .i64 0)] [(0, v0), (3, t4)] fun t5 =>
  boxnK 84 t5 (fun t6 w2 =>
  K t6 w2) w1) w
theorem S25_eq (v0 : Value) (K : Cont) (w : World) : S25 v0 K w = D Tryd.prog okf 7 (bodyOf Tryd.f25) (.node [] [] .nil (.node [] [] .nil .nil)) (retK Tryd.prog [.tmp 2] K) (nth [v0]) w := by kernel_rfl
theorem S25_ok {v0 : Value} {K : Cont} {w : World} (h : S25 v0 K w) : callK Tryd.prog 25 [v0] K w :=
  callK_of (P := Tryd.prog) (ok := okf) (n := 7) (fn := Tryd.f25) (c := bodyOf Tryd.f25) (rs := [.tmp 2]) (an := (.node [] [] .nil (.node [] [] .nil .nil))) good mixed Tryd.func25 (by kernel_rfl) (by kernel_rfl) (by kernel_rfl) (by kernel_rfl) (Eq.mp (S25_eq v0 K w) h)

/-- (*rubric/intern.Table).ready -/
def S48 (v0 : Value) (K : Cont) (w : World) : Prop :=
  pnilK v0 fun b4 =>
  condK (.bool (!b4))
  (nilckK v0 fun t7 =>
  faK 3 t7 fun t8 =>
  ld1K t8 (fun t9 w1 =>
  runK Tryd.prog (binS .neq 82 (.tmp 9) (.const (.map none)) t9 (.map none)) (fun t10 w2 =>
  K t10 w2) w1) w)
  (K (.bool false) w)
theorem S48_eq (v0 : Value) (K : Cont) (w : World) : S48 v0 K w = D Tryd.prog okf 12 (bodyOf Tryd.f48) (.node [] [] .nil (.node [] [] .nil .nil)) (retK Tryd.prog [.tmp 2] K) (nth [v0]) w := by kernel_rfl
theorem S48_ok {v0 : Value} {K : Cont} {w : World} (h : S48 v0 K w) : callK Tryd.prog 48 [v0] K w :=
  callK_of (P := Tryd.prog) (ok := okf) (n := 12) (fn := Tryd.f48) (c := bodyOf Tryd.f48) (rs := [.tmp 2]) (an := (.node [] [] .nil (.node [] [] .nil .nil))) good mixed Tryd.func48 (by kernel_rfl) (by kernel_rfl) (by kernel_rfl) (by kernel_rfl) (Eq.mp (S48_eq v0 K w) h)

/-- rubric/intern.text -/
def S50 (v0 : Value) (K : Cont) (w : World) : Prop :=
  lenK v0 fun t7 =>
  LoopK [(.slice none 0 0), (.int .i64 0)] (fun vs again w1 => ∀ _h : Env,
  ltK .i64 (nth vs 1) t7 fun t9 =>
  condK t9
  (ixK 5 v0 (nth vs 1) fun t10 =>
  ldnK 5 t10 (fun t11 w2 =>
  newK 56 [(.int .i64 0), (.int .u8 0), (.int .i64 0), (.int .u64 0), (.string (ByteArray.mk #[]))] (fun t5 w3 =>
  stnK 5 t5 t11 (fun w4 =>
  faK 0 t5 fun t13 =>
  ld1K t13 (fun t14 w5 =>
  callK Tryd.prog 67 [(nth vs 0), t14] (fun t15 w6 =>
  faK 1 t5 fun t17 =>
  faK 0 t17 fun t18 =>
  ld1K t18 (fun t19 w7 =>
  runK Tryd.prog (convert 5 28 t19) (fun t20 w8 =>
  callK Tryd.prog 68 [t15, t20] (fun t21 w9 =>
  faK 1 t5 fun t23 =>
  faK 1 t23 fun t24 =>
  ld1K t24 (fun t25 w10 =>
  callK Tryd.prog 67 [t21, t25] (fun t26 w11 =>
  faK 1 t5 fun t28 =>
  faK 2 t28 fun t29 =>
  ld1K t29 (fun t30 w12 =>
  callK Tryd.prog 68 [t26, t30] (fun t31 w13 =>
  faK 1 t5 fun t33 =>
  faK 3 t33 fun t34 =>
  ld1K t34 (fun t35 w14 =>
  runK Tryd.prog (convert 9 54 t35) (fun t36 w15 =>
  callK Tryd.prog 69 [t31, t36] (fun t37 w16 =>
  addK .i64 (nth vs 1) (.int .i64 1) fun t38 =>
  again [t37, t38] w16) w15) w14) w13) w12) w11) w10) w9) w8) w7) w6) w5) w4) w3) w2) w1)
  (runK Tryd.prog (convert 54 9 (nth vs 0)) (fun t40 w17 =>
  K t40 w17) w1)) w
theorem S50_eq (v0 : Value) (K : Cont) (w : World) : S50 v0 K w = D Tryd.prog okf 41 (bodyOf Tryd.f50) (.node [] [] .nil (.node [] [] .nil (.node [] [] (.node [] [] .nil (.node [3, 8] [(3, 3), (5, 5), (8, 38)] (.node [] [] .nil (.node [] [] (.node [] [] .nil .nil) (.node [] [] (.node [] [] .nil (.node [] [] .nil (.node [] [] .nil (.node [] [] .nil (.node [] [] .nil .nil))))) .nil))) .nil)) (.node [] [] .nil .nil)))) (retK Tryd.prog [.tmp 2] K) (nth [v0]) w := by kernel_rfl
theorem S50_ok {v0 : Value} {K : Cont} {w : World} (h : S50 v0 K w) : callK Tryd.prog 50 [v0] K w :=
  callK_of (P := Tryd.prog) (ok := okf) (n := 41) (fn := Tryd.f50) (c := bodyOf Tryd.f50) (rs := [.tmp 2]) (an := (.node [] [] .nil (.node [] [] .nil (.node [] [] (.node [] [] .nil (.node [3, 8] [(3, 3), (5, 5), (8, 38)] (.node [] [] .nil (.node [] [] (.node [] [] .nil .nil) (.node [] [] (.node [] [] .nil (.node [] [] .nil (.node [] [] .nil (.node [] [] .nil (.node [] [] .nil .nil))))) .nil))) .nil)) (.node [] [] .nil .nil))))) good mixed Tryd.func50 (by kernel_rfl) (by kernel_rfl) (by kernel_rfl) (by kernel_rfl) (Eq.mp (S50_eq v0 K w) h)

/-- (*rubric/intern.Table).Add -/
def S27 (v0 v1 : Value) (K : Cont) (w : World) : Prop :=
  callK Tryd.prog 48 [v0] (fun t11 w1 =>
  notK t11 fun t12 =>
  condK t12
  (K (.tuple #[(.int .i64 0), (.int .i64 1)]) w1)
  (nilckK v0 fun t14 =>
  faK 0 t14 fun t15 =>
  ld1K t15 (fun t16 w2 =>
  callK Tryd.prog 49 [t16, v1] (fun t18 w3 =>
  neK .i64 t18 (.int .i64 0) fun t20 =>
  condK t20
  (K (.tuple #[(.int .i64 0), t18]) w3)
  (lenK v1 fun t23 =>
  eqK .i64 t23 (.int .i64 0) fun t24 =>
  condK t24
  (nilckK v0 fun t26 =>
  faK 4 t26 fun t27 =>
  ld1K t27 (fun t28 w4 =>
  addK .i64 t28 (.int .i64 1) fun t29 =>
  nilckK v0 fun t30 =>
  faK 4 t30 fun t31 =>
  st1K t31 t29 (fun w5 =>
  K (.tuple #[(.int .i64 0), (.int .i64 0)]) w5) w4) w3)
  (callK Tryd.prog 50 [v1] (fun t33 w6 =>
  nilckK v0 fun t36 =>
  faK 3 t36 fun t37 =>
  ld1K t37 (fun t38 w7 =>
  runK Tryd.prog (Instr.lookup 82 t38 t33 true) (fun t40 w8 =>
  extK 0 t40 fun t41 =>
  extK 1 t40 fun t42 =>
  JoinK (fun vs w9 => ∀ _h : Env,
  nilckK v0 fun t64 =>
  faK 1 t64 fun t65 =>
  ld1K t65 (fun t66 w10 =>
  subK .i64 (nth vs 0) (.int .i64 1) fun t68 =>
  ixK 2 t66 t68 fun t69 =>
  faK 1 t69 fun t70 =>
  ld1K t70 (fun t71 w11 =>
  addK .i64 t71 (.int .i64 1) fun t72 =>
  ixK 2 t66 t68 fun t73 =>
  faK 1 t73 fun t74 =>
  st1K t74 t72 (fun w12 =>
  K (.tuple #[(nth vs 0), (.int .i64 0)]) w12) w11) w10) w9) (fun J =>
  notK t42 fun t44 =>
  condK t44
  (callK Tryd.prog 51 [v0] (fun t46 w13 =>
  DrawC [7, 10] [[], [0], [0, 1], [0, 1, 2], [], [4], [], [6], [0, 1, 2, 3, 4, 5, 6, 7], [0, 1, 2, 3, 4, 5, 6, 7, 8], [0, 1, 2, 3, 4, 5, 6, 7, 8, 9]] w13.drew (fun M St =>
  nilckK v0 fun t48 =>
  faK 1 t48 fun t49 =>
  sld1 (St 3) t49 fun t50 =>
  subK .i64 t46 (.int .i64 1) fun t52 =>
  callK Tryd.prog 52 [v1] (fun t54 w14 =>
  Mod (M 7) w13.drew w14 ∧
  ixK 2 t50 t52 fun t55 =>
  faK 0 t55 fun t56 =>
  st1K t56 t54 (fun w15 =>
  Mod (M 10) w14 w15 ∧
  nilckK v0 fun t58 =>
  faK 3 t58 fun t59 =>
  ld1K t59 (fun t60 w16 =>
  runK Tryd.prog (do Instr.mapUpdate 82 t60 t33 t46; pure undef) (fun _u w17 =>
  J [t46] w17) w16) w15) w14) w13.drew)) w8)
  (J [t41] w8))) w7) w6) w3))) w2) w1)) w
theorem S27_eq (v0 v1 : Value) (K : Cont) (w : World) : S27 v0 v1 K w = D Tryd.prog okf 76 (bodyOf Tryd.f27) (.node [] [] .nil (.node [] [] (.node [] [] .nil (.node [] [] (.node [] [] .nil .nil) .nil)) (.node [] [] (.node [] [] .nil (.node [] [] .nil (.node [] [] (.node [] [] .nil .nil) .nil))) (.node [] [] (.node [] [] .nil (.node [] [] (.node [] [] .nil (.node [] [] .nil .nil)) .nil)) (.node [] [] .nil (.node [] [] .nil (.cut [8] [(8, 8), (43, 62)] (.node [] [] .nil (.node [] [] (.node [] [] .nil (.node [] [] (.dc [7, 10] [[], [0], [0, 1], [0, 1, 2], [], [4], [], [6], [0, 1, 2, 3, 4, 5, 6, 7], [0, 1, 2, 3, 4, 5, 6, 7, 8], [0, 1, 2, 3, 4, 5, 6, 7, 8, 9]] [[7]]) .nil)) .nil)) (.node [] [] .nil (.node [] [] .nil .nil))))))))) (retK Tryd.prog [.tmp 4, .tmp 5] K) (nth [v0, v1]) w := by kernel_rfl
theorem S27_ok {v0 v1 : Value} {K : Cont} {w : World} (h : S27 v0 v1 K w) : callK Tryd.prog 27 [v0, v1] K w :=
  callK_of (P := Tryd.prog) (ok := okf) (n := 76) (fn := Tryd.f27) (c := bodyOf Tryd.f27) (rs := [.tmp 4, .tmp 5]) (an := (.node [] [] .nil (.node [] [] (.node [] [] .nil (.node [] [] (.node [] [] .nil .nil) .nil)) (.node [] [] (.node [] [] .nil (.node [] [] .nil (.node [] [] (.node [] [] .nil .nil) .nil))) (.node [] [] (.node [] [] .nil (.node [] [] (.node [] [] .nil (.node [] [] .nil .nil)) .nil)) (.node [] [] .nil (.node [] [] .nil (.cut [8] [(8, 8), (43, 62)] (.node [] [] .nil (.node [] [] (.node [] [] .nil (.node [] [] (.dc [7, 10] [[], [0], [0, 1], [0, 1, 2], [], [4], [], [6], [0, 1, 2, 3, 4, 5, 6, 7], [0, 1, 2, 3, 4, 5, 6, 7, 8], [0, 1, 2, 3, 4, 5, 6, 7, 8, 9]] [[7]]) .nil)) .nil)) (.node [] [] .nil (.node [] [] .nil .nil)))))))))) good mixed Tryd.func27 (by kernel_rfl) (by kernel_rfl) (by kernel_rfl) (by kernel_rfl) (Eq.mp (S27_eq v0 v1 K w) h)

/-- (*rubric/intern.Table).place -/
def S51 (v0 : Value) (K : Cont) (w : World) : Prop :=
  nilckK v0 fun t6 =>
  faK 2 t6 fun t7 =>
  ld1K t7 (fun t8 w1 =>
  lenK t8 fun t9 =>
  subK .i64 t9 (.int .i64 1) fun t10 =>
  geK .i64 t10 (.int .i64 0) fun t12 =>
  condK t12
  (nilckK v0 fun t14 =>
  faK 2 t14 fun t15 =>
  ld1K t15 (fun t16 w2 =>
  ixK 1 t16 t10 fun t18 =>
  ld1K t18 (fun t19 w3 =>
  nilckK v0 fun t22 =>
  faK 2 t22 fun t23 =>
  ld1K t23 (fun t24 w4 =>
  runK Tryd.prog (Instr.sliceAt 43 t24 none (some t10) none) (fun t26 w5 =>
  nilckK v0 fun t27 =>
  faK 2 t27 fun t28 =>
  st1K t28 t26 (fun w6 =>
  addK .i64 t19 (.int .i64 1) fun t30 =>
  K t30 w6) w5) w4) w3) w2) w1)
  (nilckK v0 fun t33 =>
  faK 1 t33 fun t34 =>
  ld1K t34 (fun t35 w7 =>
  buildK [(0, 1), (1, 1)] [(.slice none 0 0), (.int .i64 0)] [] fun t36 =>
  rowK 100 2 1 [(.slice none 0 0), (.int .i64 0)] [(0, t36)] (fun t37 w8 =>
  runK Tryd.prog (Builtin.append_ #[81, 81] 81 [t35, t37].toArray) (fun t38 w9 =>
  nilckK v0 fun t39 =>
  faK 1 t39 fun t40 =>
  st1K t40 t38 (fun w10 =>
  nilckK v0 fun t42 =>
  faK 1 t42 fun t43 =>
  ld1K t43 (fun t44 w11 =>
  lenK t44 fun t45 =>
  K t45 w11) w10) w9) w8) w7) w1)) w
theorem S51_eq (v0 : Value) (K : Cont) (w : World) : S51 v0 K w = D Tryd.prog okf 46 (bodyOf Tryd.f51) (.node [] [] .nil (.node [] [] (.node [] [] .nil (.node [] [] .nil (.node [] [] (.node [] [] .nil (.node [] [] .nil (.node [] [] .nil .nil))) .nil))) (.node [] [] .nil (.node [] [] .nil .nil)))) (retK Tryd.prog [.tmp 2] K) (nth [v0]) w := by kernel_rfl
theorem S51_ok {v0 : Value} {K : Cont} {w : World} (h : S51 v0 K w) : callK Tryd.prog 51 [v0] K w :=
  callK_of (P := Tryd.prog) (ok := okf) (n := 46) (fn := Tryd.f51) (c := bodyOf Tryd.f51) (rs := [.tmp 2]) (an := (.node [] [] .nil (.node [] [] (.node [] [] .nil (.node [] [] .nil (.node [] [] (.node [] [] .nil (.node [] [] .nil (.node [] [] .nil .nil))) .nil))) (.node [] [] .nil (.node [] [] .nil .nil))))) good mixed Tryd.func51 (by kernel_rfl) (by kernel_rfl) (by kernel_rfl) (by kernel_rfl) (Eq.mp (S51_eq v0 K w) h)

/-- (*rubric/intern.Table).asked -/
def S53 (v0 v1 : Value) (K : Cont) (w : World) : Prop :=
  newK 100 [(.slice none 0 0), (.int .i64 0)] (fun t4 w1 =>
  JoinK (fun _vs w2 => ∀ _h : Env,
  nilckK v0 fun t45 =>
  faK 1 t45 fun t46 =>
  ld1K t46 (fun t47 w3 =>
  subK .i64 v1 (.int .i64 1) fun t49 =>
  ixK 2 t47 t49 fun t50 =>
  ldnK 2 t50 (fun t51 w4 =>
  stnK 2 t4 t51 (fun w5 =>
  ldnK 2 t4 (fun r0 w6 =>
  K (.tuple #[r0, (.int .i64 0)]) w6) w5) w4) w3) w2) (fun J =>
  callK Tryd.prog 48 [v0] (fun t8 w7 =>
  notK t8 fun t9 =>
  condK t9
  (buildK [(0, 1), (1, 1)] [(.slice none 0 0), (.int .i64 0)] [] fun t10 =>
  stnK 2 t4 t10 (fun w8 =>
  ldnK 2 t4 (fun r0_1 w9 =>
  K (.tuple #[r0_1, (.int .i64 1)]) w9) w8) w7)
  (eqK .i64 v1 (.int .i64 0) fun t13 =>
  condK t13
  (nilckK v0 fun t15 =>
  faK 4 t15 fun t16 =>
  ld1K t16 (fun t17 w10 =>
  buildK [(0, 1), (1, 1)] [(.slice none 0 0), (.int .i64 0)] [(1, t17)] fun t18 =>
  stnK 2 t4 t18 (fun w11 =>
  ldnK 2 t4 (fun r0_2 w12 =>
  K (.tuple #[r0_2, (.int .i64 0)]) w12) w11) w10) w7)
  (ltK .i64 v1 (.int .i64 0) fun t21 =>
  condK t21
  (buildK [(0, 1), (1, 1)] [(.slice none 0 0), (.int .i64 0)] [] fun t43 =>
  stnK 2 t4 t43 (fun w13 =>
  ldnK 2 t4 (fun r0_3 w14 =>
  K (.tuple #[r0_3, (.int .i64 5)]) w14) w13) w7)
  (nilckK v0 fun t25 =>
  faK 1 t25 fun t26 =>
  ld1K t26 (fun t27 w15 =>
  lenK t27 fun t28 =>
  gtK .i64 v1 t28 fun t29 =>
  condK t29
  (buildK [(0, 1), (1, 1)] [(.slice none 0 0), (.int .i64 0)] [] fun t43_1 =>
  stnK 2 t4 t43_1 (fun w16 =>
  ldnK 2 t4 (fun r0_4 w17 =>
  K (.tuple #[r0_4, (.int .i64 5)]) w17) w16) w15)
  (nilckK v0 fun t33 =>
  faK 1 t33 fun t34 =>
  ld1K t34 (fun t35 w18 =>
  subK .i64 v1 (.int .i64 1) fun t37 =>
  ixK 2 t35 t37 fun t38 =>
  faK 1 t38 fun t39 =>
  ld1K t39 (fun t40 w19 =>
  eqK .i64 t40 (.int .i64 0) fun t41 =>
  condK t41
  (buildK [(0, 1), (1, 1)] [(.slice none 0 0), (.int .i64 0)] [] fun t43_2 =>
  stnK 2 t4 t43_2 (fun w20 =>
  ldnK 2 t4 (fun r0_5 w21 =>
  K (.tuple #[r0_5, (.int .i64 5)]) w21) w20) w19)
  (J [] w19)) w18) w15)) w7)))) w1)) w
theorem S53_eq (v0 v1 : Value) (K : Cont) (w : World) : S53 v0 v1 K w = D Tryd.prog okf 52 (bodyOf Tryd.f53) (.node [] [] .nil (.cut [] [(5, 43)] (.node [] [] .nil (.node [] [] (.node [] [] .nil .nil) (.node [] [] .nil (.node [] [] (.node [] [] .nil .nil) (.node [] [] .nil (.node [] [] (.node [] [] .nil .nil) .nil)))))) (.node [] [] .nil .nil))) (retK Tryd.prog [.cell 4 100, .tmp 5] K) (nth [v0, v1]) w := by kernel_rfl
theorem S53_ok {v0 v1 : Value} {K : Cont} {w : World} (h : S53 v0 v1 K w) : callK Tryd.prog 53 [v0, v1] K w :=
  callK_of (P := Tryd.prog) (ok := okf) (n := 52) (fn := Tryd.f53) (c := bodyOf Tryd.f53) (rs := [.cell 4 100, .tmp 5]) (an := (.node [] [] .nil (.cut [] [(5, 43)] (.node [] [] .nil (.node [] [] (.node [] [] .nil .nil) (.node [] [] .nil (.node [] [] (.node [] [] .nil .nil) (.node [] [] .nil (.node [] [] (.node [] [] .nil .nil) .nil)))))) (.node [] [] .nil .nil)))) good mixed Tryd.func53 (by kernel_rfl) (by kernel_rfl) (by kernel_rfl) (by kernel_rfl) (Eq.mp (S53_eq v0 v1 K w) h)

/-- (*rubric/intern.Table).Hold -/
def S34 (v0 v1 : Value) (K : Cont) (w : World) : Prop :=
  callK Tryd.prog 53 [v0, v1] (fun t10 w1 =>
  extK 0 t10 fun t11 =>
  extK 1 t10 fun t12 =>
  newK 100 [(.slice none 0 0), (.int .i64 0)] (fun t5 w2 =>
  stnK 2 t5 t11 (fun w3 =>
  neK .i64 t12 (.int .i64 0) fun t27 =>
  condK t27
  (K t12 w3)
  (eqK .i64 v1 (.int .i64 0) fun t31 =>
  condK t31
  (nilckK v0 fun t33 =>
  faK 4 t33 fun t34 =>
  ld1K t34 (fun t35 w4 =>
  addK .i64 t35 (.int .i64 1) fun t36 =>
  nilckK v0 fun t37 =>
  faK 4 t37 fun t38 =>
  st1K t38 t36 (fun w5 =>
  K (.int .i64 0) w5) w4) w3)
  (nilckK v0 fun t14 =>
  faK 1 t14 fun t15 =>
  ld1K t15 (fun t16 w6 =>
  subK .i64 v1 (.int .i64 1) fun t18 =>
  ixK 2 t16 t18 fun t19 =>
  faK 1 t19 fun t20 =>
  ld1K t20 (fun t21 w7 =>
  addK .i64 t21 (.int .i64 1) fun t22 =>
  ixK 2 t16 t18 fun t23 =>
  faK 1 t23 fun t24 =>
  st1K t24 t22 (fun w8 =>
  K (.int .i64 0) w8) w7) w6) w3))) w2) w1) w
theorem S34_eq (v0 v1 : Value) (K : Cont) (w : World) : S34 v0 v1 K w = D Tryd.prog okf 39 (bodyOf Tryd.f34) (.node [] [] .nil (.node [] [] .nil (.node [] [] (.node [] [] .nil (.node [] [] (.node [] [] .nil .nil) (.node [] [] .nil (.node [] [] .nil .nil)))) (.node [] [] .nil .nil)))) (retK Tryd.prog [.tmp 4] K) (nth [v0, v1]) w := by kernel_rfl
theorem S34_ok {v0 v1 : Value} {K : Cont} {w : World} (h : S34 v0 v1 K w) : callK Tryd.prog 34 [v0, v1] K w :=
  callK_of (P := Tryd.prog) (ok := okf) (n := 39) (fn := Tryd.f34) (c := bodyOf Tryd.f34) (rs := [.tmp 4]) (an := (.node [] [] .nil (.node [] [] .nil (.node [] [] (.node [] [] .nil (.node [] [] (.node [] [] .nil .nil) (.node [] [] .nil (.node [] [] .nil .nil)))) (.node [] [] .nil .nil))))) good mixed Tryd.func34 (by kernel_rfl) (by kernel_rfl) (by kernel_rfl) (by kernel_rfl) (Eq.mp (S34_eq v0 v1 K w) h)

/-- (*rubric/intern.Table).Free -/
def S28 (v0 v1 : Value) (K : Cont) (w : World) : Prop :=
  callK Tryd.prog 53 [v0, v1] (fun t10 w1 =>
  extK 0 t10 fun t11 =>
  extK 1 t10 fun t12 =>
  newK 100 [(.slice none 0 0), (.int .i64 0)] (fun t5 w2 =>
  stnK 2 t5 t11 (fun w3 =>
  neK .i64 t12 (.int .i64 0) fun t27 =>
  condK t27
  (K t12 w3)
  (eqK .i64 v1 (.int .i64 0) fun t31 =>
  condK t31
  (nilckK v0 fun t34 =>
  faK 4 t34 fun t35 =>
  ld1K t35 (fun t36 w4 =>
  subK .i64 t36 (.int .i64 1) fun t37 =>
  maxK .i64 t37 (.int .i64 0) fun t38 =>
  nilckK v0 fun t39 =>
  faK 4 t39 fun t40 =>
  st1K t40 t38 (fun w5 =>
  K (.int .i64 0) w5) w4) w3)
  (faK 1 t5 fun t42 =>
  ld1K t42 (fun t43 w6 =>
  eqK .i64 t43 (.int .i64 1) fun t44 =>
  condK t44
  (DrawC [6, 7] [[], [0], [0, 1], [0, 1, 2], [], [4], [4, 5], [0, 1, 2, 3, 4, 5, 6]] w6.drew (fun M St =>
  nilckK v0 fun t46 =>
  faK 3 t46 fun t47 =>
  sld1 (St 3) t47 fun t48 =>
  faK 0 t5 fun t49 =>
  sld1 (St 5) t49 fun t50 =>
  callK Tryd.prog 50 [t50] (fun t51 w7 =>
  Mod (M 6) w6.drew w7 ∧
  runK Tryd.prog (Builtin.delete_ #[82, 9] 0 [t48, t51].toArray) (fun _u w8 =>
  Mod (M 7) w7 w8 ∧
  nilckK v0 fun t53 =>
  faK 1 t53 fun t54 =>
  ld1K t54 (fun t55 w9 =>
  subK .i64 v1 (.int .i64 1) fun t57 =>
  buildK [(0, 1), (1, 1)] [(.slice none 0 0), (.int .i64 0)] [] fun t58 =>
  ixK 2 t55 t57 fun t59 =>
  stnK 2 t59 t58 (fun w10 =>
  nilckK v0 fun t62 =>
  faK 2 t62 fun t63 =>
  ld1K t63 (fun t64 w11 =>
  subK .i64 v1 (.int .i64 1) fun t66 =>
  rowK 3 1 1 [(.int .i64 0)] [(0, t66)] (fun t67 w12 =>
  runK Tryd.prog (Builtin.append_ #[43, 43] 43 [t64, t67].toArray) (fun t68 w13 =>
  nilckK v0 fun t69 =>
  faK 2 t69 fun t70 =>
  st1K t70 t68 (fun w14 =>
  K (.int .i64 0) w14) w13) w12) w11) w10) w9) w8) w7) w6.drew))
  (nilckK v0 fun t14 =>
  faK 1 t14 fun t15 =>
  ld1K t15 (fun t16 w15 =>
  subK .i64 v1 (.int .i64 1) fun t18 =>
  ixK 2 t16 t18 fun t19 =>
  faK 1 t19 fun t20 =>
  ld1K t20 (fun t21 w16 =>
  subK .i64 t21 (.int .i64 1) fun t22 =>
  ixK 2 t16 t18 fun t23 =>
  faK 1 t23 fun t24 =>
  st1K t24 t22 (fun w17 =>
  K (.int .i64 0) w17) w16) w15) w6)) w3))) w2) w1) w
theorem S28_eq (v0 v1 : Value) (K : Cont) (w : World) : S28 v0 v1 K w = D Tryd.prog okf 71 (bodyOf Tryd.f28) (.node [] [] .nil (.node [] [] .nil (.node [] [] (.node [] [] .nil (.node [] [] (.node [] [] .nil .nil) (.node [] [] .nil (.node [] [] .nil (.node [] [] .nil (.node [] [] (.node [] [] (.dc [6, 7] [[], [0], [0, 1], [0, 1, 2], [], [4], [4, 5], [0, 1, 2, 3, 4, 5, 6]] []) (.node [] [] .nil .nil)) .nil)))))) (.node [] [] .nil .nil)))) (retK Tryd.prog [.tmp 4] K) (nth [v0, v1]) w := by kernel_rfl
theorem S28_ok {v0 v1 : Value} {K : Cont} {w : World} (h : S28 v0 v1 K w) : callK Tryd.prog 28 [v0, v1] K w :=
  callK_of (P := Tryd.prog) (ok := okf) (n := 71) (fn := Tryd.f28) (c := bodyOf Tryd.f28) (rs := [.tmp 4]) (an := (.node [] [] .nil (.node [] [] .nil (.node [] [] (.node [] [] .nil (.node [] [] (.node [] [] .nil .nil) (.node [] [] .nil (.node [] [] .nil (.node [] [] .nil (.node [] [] (.node [] [] (.dc [6, 7] [[], [0], [0, 1], [0, 1, 2], [], [4], [4, 5], [0, 1, 2, 3, 4, 5, 6]] []) (.node [] [] .nil .nil)) .nil)))))) (.node [] [] .nil .nil))))) good mixed Tryd.func28 (by kernel_rfl) (by kernel_rfl) (by kernel_rfl) (by kernel_rfl) (Eq.mp (S28_eq v0 v1 K w) h)

/-- (*rubric/intern.Table).Set -/
def S30 (v0 v1 : Value) (K : Cont) (w : World) : Prop :=
  callK Tryd.prog 53 [v0, v1] (fun t11 w1 =>
  extK 0 t11 fun t12 =>
  extK 1 t11 fun t13 =>
  newK 100 [(.slice none 0 0), (.int .i64 0)] (fun t6 w2 =>
  stnK 2 t6 t12 (fun w3 =>
  neK .i64 t13 (.int .i64 0) fun t15 =>
  condK t15
  (K (.tuple #[(.slice none 0 0), t13]) w3)
  (faK 0 t6 fun t17 =>
  ld1K t17 (fun t18 w4 =>
  callK Tryd.prog 52 [t18] (fun t19 w5 =>
  K (.tuple #[t19, (.int .i64 0)]) w5) w4) w3)) w2) w1) w
theorem S30_eq (v0 v1 : Value) (K : Cont) (w : World) : S30 v0 v1 K w = D Tryd.prog okf 20 (bodyOf Tryd.f30) (.node [] [] .nil (.node [] [] .nil (.node [] [] (.node [] [] .nil (.node [] [] (.node [] [] .nil .nil) .nil)) (.node [] [] .nil .nil)))) (retK Tryd.prog [.tmp 4, .tmp 5] K) (nth [v0, v1]) w := by kernel_rfl
theorem S30_ok {v0 v1 : Value} {K : Cont} {w : World} (h : S30 v0 v1 K w) : callK Tryd.prog 30 [v0, v1] K w :=
  callK_of (P := Tryd.prog) (ok := okf) (n := 20) (fn := Tryd.f30) (c := bodyOf Tryd.f30) (rs := [.tmp 4, .tmp 5]) (an := (.node [] [] .nil (.node [] [] .nil (.node [] [] (.node [] [] .nil (.node [] [] (.node [] [] .nil .nil) .nil)) (.node [] [] .nil .nil))))) good mixed Tryd.func30 (by kernel_rfl) (by kernel_rfl) (by kernel_rfl) (by kernel_rfl) (Eq.mp (S30_eq v0 v1 K w) h)

/-- (*rubric/intern.Table).Held -/
def S32 (v0 v1 : Value) (K : Cont) (w : World) : Prop :=
  callK Tryd.prog 53 [v0, v1] (fun t10 w1 =>
  extK 0 t10 fun t11 =>
  extK 1 t10 fun _t12 =>
  newK 100 [(.slice none 0 0), (.int .i64 0)] (fun t5 w2 =>
  stnK 2 t5 t11 (fun w3 =>
  faK 1 t5 fun t13 =>
  ld1K t13 (fun t14 w4 =>
  K t14 w4) w3) w2) w1) w
theorem S32_eq (v0 v1 : Value) (K : Cont) (w : World) : S32 v0 v1 K w = D Tryd.prog okf 15 (bodyOf Tryd.f32) (.node [] [] .nil (.node [] [] .nil (.node [] [] .nil .nil))) (retK Tryd.prog [.tmp 4] K) (nth [v0, v1]) w := by kernel_rfl
theorem S32_ok {v0 v1 : Value} {K : Cont} {w : World} (h : S32 v0 v1 K w) : callK Tryd.prog 32 [v0, v1] K w :=
  callK_of (P := Tryd.prog) (ok := okf) (n := 15) (fn := Tryd.f32) (c := bodyOf Tryd.f32) (rs := [.tmp 4]) (an := (.node [] [] .nil (.node [] [] .nil (.node [] [] .nil .nil)))) good mixed Tryd.func32 (by kernel_rfl) (by kernel_rfl) (by kernel_rfl) (by kernel_rfl) (Eq.mp (S32_eq v0 v1 K w) h)

/-- (*rubric/intern.Table).Len -/
def S29 (v0 : Value) (K : Cont) (w : World) : Prop :=
  callK Tryd.prog 48 [v0] (fun t4 w1 =>
  notK t4 fun t5 =>
  condK t5
  (K (.int .i64 0) w1)
  (DrawK w1 (fun C =>
  nilckK v0 fun t7 =>
  faK 1 t7 fun t8 =>
  qld1K C t8 fun t9 =>
  lenK t9 fun t10 =>
  addK .i64 (.int .i64 1) t10 fun t11 =>
  nilckK v0 fun t13 =>
  faK 2 t13 fun t14 =>
  qld1K C t14 fun t15 =>
  lenK t15 fun t16 =>
  subK .i64 t11 t16 fun t17 =>
  ∀ w2 : World, C w2 →
  K t17 w2))) w
theorem S29_eq (v0 : Value) (K : Cont) (w : World) : S29 v0 K w = D Tryd.prog okf 18 (bodyOf Tryd.f29) (.node [] [] .nil (.node [] [] (.node [] [] .nil (.node [] [] (.node [] [] .nil .nil) .nil)) (.node [] [] .draw .nil))) (retK Tryd.prog [.tmp 2] K) (nth [v0]) w := by kernel_rfl
theorem S29_ok {v0 : Value} {K : Cont} {w : World} (h : S29 v0 K w) : callK Tryd.prog 29 [v0] K w :=
  callK_of (P := Tryd.prog) (ok := okf) (n := 18) (fn := Tryd.f29) (c := bodyOf Tryd.f29) (rs := [.tmp 2]) (an := (.node [] [] .nil (.node [] [] (.node [] [] .nil (.node [] [] (.node [] [] .nil .nil) .nil)) (.node [] [] .draw .nil)))) good mixed Tryd.func29 (by kernel_rfl) (by kernel_rfl) (by kernel_rfl) (by kernel_rfl) (Eq.mp (S29_eq v0 K w) h)

/-- (*rubric/intern.Table).All -/
def S40 (v0 : Value) (K : Cont) (w : World) : Prop :=
  newK 43 [(.slice none 0 0)] (fun t3 w1 =>
  callK Tryd.prog 48 [v0] (fun t7 w2 =>
  condK t7
  (ld1K t3 (fun t8 w3 =>
  rowK 3 1 1 [(.int .i64 0)] [(0, (.int .i64 0))] (fun t9 w4 =>
  runK Tryd.prog (Builtin.append_ #[43, 43] 43 [t8, t9].toArray) (fun t10 w5 =>
  st1K t3 t10 (fun w6 =>
  nilckK v0 fun t12 =>
  faK 1 t12 fun t13 =>
  ld1K t13 (fun t14 w7 =>
  lenK t14 fun t15 =>
  LoopK [(.int .i64 0)] (fun vs again w8 => ∀ _h : Env,
  ltK .i64 (nth vs 0) t15 fun t17 =>
  condK t17
  (ixK 2 t14 (nth vs 0) fun t19 =>
  ldnK 2 t19 (fun t20 w9 =>
  newK 100 [(.slice none 0 0), (.int .i64 0)] (fun t5 w10 =>
  stnK 2 t5 t20 (fun w11 =>
  faK 1 t5 fun t21 =>
  ld1K t21 (fun t22 w12 =>
  gtK .i64 t22 (.int .i64 0) fun t23 =>
  condK t23
  (ld1K t3 (fun t24 w13 =>
  addK .i64 (nth vs 0) (.int .i64 1) fun t26 =>
  rowK 3 1 1 [(.int .i64 0)] [(0, t26)] (fun t27 w14 =>
  runK Tryd.prog (Builtin.append_ #[43, 43] 43 [t24, t27].toArray) (fun t28 w15 =>
  st1K t3 t28 (fun w16 =>
  addK .i64 (nth vs 0) (.int .i64 1) fun t29 =>
  again [t29] w16) w15) w14) w13) w12)
  (addK .i64 (nth vs 0) (.int .i64 1) fun t29_1 =>
  again [t29_1] w12)) w11) w10) w9) w8)
  (K (.func (.func 56) #[] #[t3]) w8)) w7) w6) w5) w4) w3) w2)
  (K (.func (.func 56) #[] #[t3]) w2)) w1) w
theorem S40_eq (v0 : Value) (K : Cont) (w : World) : S40 v0 K w = D Tryd.prog okf 31 (bodyOf Tryd.f40) (.node [] [] .nil (.node [] [] .nil (.node [] [] (.node [] [] .nil (.node [] [] (.node [] [] .nil (.node [] [] .nil (.node [16] [(4, 5), (16, 29)] (.node [] [] .nil (.node [] [] (.node [] [] .nil .nil) (.node [] [] (.node [] [] .nil (.node [] [] .nil (.node [] [] .nil .nil))) .nil))) .nil))) .nil)) (.node [] [] .nil .nil)))) (retK Tryd.prog [.tmp 2] K) (nth [v0]) w := by kernel_rfl
theorem S40_ok {v0 : Value} {K : Cont} {w : World} (h : S40 v0 K w) : callK Tryd.prog 40 [v0] K w :=
  callK_of (P := Tryd.prog) (ok := okf) (n := 31) (fn := Tryd.f40) (c := bodyOf Tryd.f40) (rs := [.tmp 2]) (an := (.node [] [] .nil (.node [] [] .nil (.node [] [] (.node [] [] .nil (.node [] [] (.node [] [] .nil (.node [] [] .nil (.node [16] [(4, 5), (16, 29)] (.node [] [] .nil (.node [] [] (.node [] [] .nil .nil) (.node [] [] (.node [] [] .nil (.node [] [] .nil (.node [] [] .nil .nil))) .nil))) .nil))) .nil)) (.node [] [] .nil .nil))))) good mixed Tryd.func40 (by kernel_rfl) (by kernel_rfl) (by kernel_rfl) (by kernel_rfl) (Eq.mp (S40_eq v0 K w) h)

/-- rubric/attrs.May -/
def S49 (v0 v1 : Value) (K : Cont) (w : World) : Prop :=
  lenK v1 fun t9 =>
  gtK .i64 t9 (.int .i64 64) fun t10 =>
  condK t10
  (K (.int .i64 3) w)
  (lenK v1 fun t12 =>
  LoopK [(.int .i64 0), (.int .i64 0)] (fun vs again w1 => ∀ _h : Env,
  ltK .i64 (nth vs 1) t12 fun t14 =>
  condK t14
  (ixK 5 v1 (nth vs 1) fun t16 =>
  ldnK 5 t16 (fun t17 w2 =>
  newK 56 [(.int .i64 0), (.int .u8 0), (.int .i64 0), (.int .u64 0), (.string (ByteArray.mk #[]))] (fun t7 w3 =>
  stnK 5 t7 t17 (fun w4 =>
  JoinK (fun vs_1 w5 => ∀ _h_1 : Env,
  condK (nth vs_1 0)
  (K (.int .i64 3) w5)
  (faK 0 t7 fun t40 =>
  ld1K t40 (fun t41 w6 =>
  faK 1 t7 fun t42 =>
  ldnK 4 t42 (fun t43 w7 =>
  callK Tryd.prog 14 [v0, t41, t43] (fun t44 w8 =>
  notK t44 fun t45 =>
  condK t45
  (addK .i64 (nth vs 1) (.int .i64 1) fun t46 =>
  again [(.int .i64 4), t46] w8)
  (addK .i64 (nth vs 1) (.int .i64 1) fun t46_1 =>
  again [(nth vs 0), t46_1] w8)) w7) w6) w5)) (fun J =>
  DrawC [16] [[], [0], [0, 1], [0, 1, 2], [0, 1, 2], [0, 1, 2, 4], [0, 1, 2, 3, 4, 5], [0, 1, 2, 3, 4, 5, 6], [0, 1, 2, 3, 4, 5, 6, 7], [0, 1, 2], [0, 1, 2, 9], [0, 1, 2, 3, 4, 5, 6, 7, 8, 9, 10], [0, 1, 2, 3, 4, 5, 6, 7, 8, 9, 10, 11], [0, 1, 2, 3, 4, 5, 6, 7, 8, 9, 10, 11, 12], [0, 1, 2, 3, 4, 5, 6, 7, 8, 9, 10, 11, 12, 13], [0, 1, 2, 3, 4, 5, 6, 7, 8, 9, 10, 11, 12, 13, 14], [0, 1, 2, 3, 4, 5, 6, 7, 8, 9, 10, 11, 12, 13, 14, 15], [0, 1, 2, 3, 4, 5, 6, 7, 8, 9, 10, 11, 12, 13, 14, 15, 16], [0, 1, 2, 3, 4, 5, 6, 7, 8, 9, 10, 11, 12, 13, 14, 15, 16, 17], [0, 1, 2, 3, 4, 5, 6, 7, 8, 9, 10, 11, 12, 13, 14, 15, 16, 17, 18]] w4.drew (fun M St =>
  gtK .i64 (nth vs 1) (.int .i64 0) fun t20 =>
  condK t20
  (subK .i64 (nth vs 1) (.int .i64 1) fun t24 =>
  ixK 5 v1 t24 fun t25 =>
  faK 0 t25 fun t26 =>
  sld1 (St 8) t26 fun t27 =>
  faK 0 t7 fun t28 =>
  sld1 (St 10) t28 fun t29 =>
  geK .i64 t27 t29 fun t30 =>
  condK t30
  (J [(.bool true)] w4.drew)
  (faK 1 t7 fun t33 =>
  sldn (St 15) 4 t33 fun t34 =>
  callK Tryd.prog 46 [t34] (fun t35 w9 =>
  Mod (M 16) w4.drew w9 ∧
  notK t35 fun t36 =>
  J [t36] w9) w4.drew))
  (faK 1 t7 fun t33_1 =>
  sldn (St 15) 4 t33_1 fun t34_1 =>
  callK Tryd.prog 46 [t34_1] (fun t35_1 w10 =>
  Mod (M 16) w4.drew w10 ∧
  notK t35_1 fun t36_1 =>
  J [t36_1] w10) w4.drew)))) w3) w2) w1)
  (K (nth vs 0) w1)) w)
theorem S49_eq (v0 v1 : Value) (K : Cont) (w : World) : S49 v0 v1 K w = D Tryd.prog okf 48 (bodyOf Tryd.f49) (.node [] [] .nil (.node [] [] (.node [] [] .nil (.node [] [] (.node [] [] .nil .nil) .nil)) (.node [] [] .nil (.node [] [] (.node [] [] .nil (.node [5, 13] [(4, 7), (13, 46)] (.node [] [] .nil (.node [] [] (.node [] [] .nil .nil) (.node [] [] (.node [] [] .nil (.cut [18] [(18, 37)] (.dc [16] [[], [0], [0, 1], [0, 1, 2], [0, 1, 2], [0, 1, 2, 4], [0, 1, 2, 3, 4, 5], [0, 1, 2, 3, 4, 5, 6], [0, 1, 2, 3, 4, 5, 6, 7], [0, 1, 2], [0, 1, 2, 9], [0, 1, 2, 3, 4, 5, 6, 7, 8, 9, 10], [0, 1, 2, 3, 4, 5, 6, 7, 8, 9, 10, 11], [0, 1, 2, 3, 4, 5, 6, 7, 8, 9, 10, 11, 12], [0, 1, 2, 3, 4, 5, 6, 7, 8, 9, 10, 11, 12, 13], [0, 1, 2, 3, 4, 5, 6, 7, 8, 9, 10, 11, 12, 13, 14], [0, 1, 2, 3, 4, 5, 6, 7, 8, 9, 10, 11, 12, 13, 14, 15], [0, 1, 2, 3, 4, 5, 6, 7, 8, 9, 10, 11, 12, 13, 14, 15, 16], [0, 1, 2, 3, 4, 5, 6, 7, 8, 9, 10, 11, 12, 13, 14, 15, 16, 17], [0, 1, 2, 3, 4, 5, 6, 7, 8, 9, 10, 11, 12, 13, 14, 15, 16, 17, 18]] []) (.node [] [] (.node [] [] .nil .nil) (.node [] [] .nil (.node [] [] .nil .nil))))) .nil))) .nil)) (.node [] [] .nil .nil))))) (retK Tryd.prog [.tmp 4] K) (nth [v0, v1]) w := by kernel_rfl
theorem S49_ok {v0 v1 : Value} {K : Cont} {w : World} (h : S49 v0 v1 K w) : callK Tryd.prog 49 [v0, v1] K w :=
  callK_of (P := Tryd.prog) (ok := okf) (n := 48) (fn := Tryd.f49) (c := bodyOf Tryd.f49) (rs := [.tmp 4]) (an := (.node [] [] .nil (.node [] [] (.node [] [] .nil (.node [] [] (.node [] [] .nil .nil) .nil)) (.node [] [] .nil (.node [] [] (.node [] [] .nil (.node [5, 13] [(4, 7), (13, 46)] (.node [] [] .nil (.node [] [] (.node [] [] .nil .nil) (.node [] [] (.node [] [] .nil (.cut [18] [(18, 37)] (.dc [16] [[], [0], [0, 1], [0, 1, 2], [0, 1, 2], [0, 1, 2, 4], [0, 1, 2, 3, 4, 5], [0, 1, 2, 3, 4, 5, 6], [0, 1, 2, 3, 4, 5, 6, 7], [0, 1, 2], [0, 1, 2, 9], [0, 1, 2, 3, 4, 5, 6, 7, 8, 9, 10], [0, 1, 2, 3, 4, 5, 6, 7, 8, 9, 10, 11], [0, 1, 2, 3, 4, 5, 6, 7, 8, 9, 10, 11, 12], [0, 1, 2, 3, 4, 5, 6, 7, 8, 9, 10, 11, 12, 13], [0, 1, 2, 3, 4, 5, 6, 7, 8, 9, 10, 11, 12, 13, 14], [0, 1, 2, 3, 4, 5, 6, 7, 8, 9, 10, 11, 12, 13, 14, 15], [0, 1, 2, 3, 4, 5, 6, 7, 8, 9, 10, 11, 12, 13, 14, 15, 16], [0, 1, 2, 3, 4, 5, 6, 7, 8, 9, 10, 11, 12, 13, 14, 15, 16, 17], [0, 1, 2, 3, 4, 5, 6, 7, 8, 9, 10, 11, 12, 13, 14, 15, 16, 17, 18]] []) (.node [] [] (.node [] [] .nil .nil) (.node [] [] .nil (.node [] [] .nil .nil))))) .nil))) .nil)) (.node [] [] .nil .nil)))))) good mixed Tryd.func49 (by kernel_rfl) (by kernel_rfl) (by kernel_rfl) (by kernel_rfl) (Eq.mp (S49_eq v0 v1 K w) h)

/-- rubric/wire.AppendUint -/
def S68 (v0 v1 : Value) (K : Cont) (w : World) : Prop :=
  callK Tryd.prog 87 [v0] (fun t6 w1 =>
  LoopK [t6, v1] (fun vs again w2 => ∀ _h : Env,
  gtK .u64 (nth vs 1) (.int .u64 127) fun t8 =>
  condK t8
  (runK Tryd.prog (convert 28 5 (nth vs 1)) (fun t13 w3 =>
  runK Tryd.prog (binS .or 5 (.tmp 13) (.const (.int .u8 128)) t13 (.int .u8 128)) (fun t14 w4 =>
  rowK 5 1 1 [(.int .u8 0)] [(0, t14)] (fun t15 w5 =>
  runK Tryd.prog (Builtin.append_ #[54, 54] 54 [(nth vs 0), t15].toArray) (fun t16 w6 =>
  runK Tryd.prog (binS .shr 28 (.tmp 9) (.const (.int .u64 7)) (nth vs 1) (.int .u64 7)) (fun t10 w7 =>
  again [t16, t10] w7) w6) w5) w4) w3) w2)
  (runK Tryd.prog (convert 28 5 (nth vs 1)) (fun t19 w8 =>
  rowK 5 1 1 [(.int .u8 0)] [(0, t19)] (fun t20 w9 =>
  runK Tryd.prog (Builtin.append_ #[54, 54] 54 [(nth vs 0), t20].toArray) (fun t21 w10 =>
  K t21 w10) w9) w8) w2)) w1) w
theorem S68_eq (v0 v1 : Value) (K : Cont) (w : World) : S68 v0 v1 K w = D Tryd.prog okf 22 (bodyOf Tryd.f68) (.node [] [] .nil (.node [] [] .nil (.node [] [] (.node [0, 1] [(0, 1), (7, 16)] (.node [] [] (.node [] [] .nil (.node [] [] .nil .nil)) (.node [] [] .nil .nil)) .nil) (.node [] [] .nil .nil)))) (retK Tryd.prog [.tmp 4] K) (nth [v0, v1]) w := by kernel_rfl
theorem S68_ok {v0 v1 : Value} {K : Cont} {w : World} (h : S68 v0 v1 K w) : callK Tryd.prog 68 [v0, v1] K w :=
  callK_of (P := Tryd.prog) (ok := okf) (n := 22) (fn := Tryd.f68) (c := bodyOf Tryd.f68) (rs := [.tmp 4]) (an := (.node [] [] .nil (.node [] [] .nil (.node [] [] (.node [0, 1] [(0, 1), (7, 16)] (.node [] [] (.node [] [] .nil (.node [] [] .nil .nil)) (.node [] [] .nil .nil)) .nil) (.node [] [] .nil .nil))))) good mixed Tryd.func68 (by kernel_rfl) (by kernel_rfl) (by kernel_rfl) (by kernel_rfl) (Eq.mp (S68_eq v0 v1 K w) h)

/-- rubric/wire.AppendInt -/
def S67 (v0 v1 : Value) (K : Cont) (w : World) : Prop :=
  callK Tryd.prog 86 [v1] (fun t7 w1 =>
  callK Tryd.prog 68 [v0, t7] (fun t8 w2 =>
  K t8 w2) w1) w
theorem S67_eq (v0 v1 : Value) (K : Cont) (w : World) : S67 v0 v1 K w = D Tryd.prog okf 9 (bodyOf Tryd.f67) (.node [] [] .nil (.node [] [] .nil .nil)) (retK Tryd.prog [.tmp 4] K) (nth [v0, v1]) w := by kernel_rfl
theorem S67_ok {v0 v1 : Value} {K : Cont} {w : World} (h : S67 v0 v1 K w) : callK Tryd.prog 67 [v0, v1] K w :=
  callK_of (P := Tryd.prog) (ok := okf) (n := 9) (fn := Tryd.f67) (c := bodyOf Tryd.f67) (rs := [.tmp 4]) (an := (.node [] [] .nil (.node [] [] .nil .nil))) good mixed Tryd.func67 (by kernel_rfl) (by kernel_rfl) (by kernel_rfl) (by kernel_rfl) (Eq.mp (S67_eq v0 v1 K w) h)

/-- rubric/wire.AppendBytes -/
def S69 (v0 v1 : Value) (K : Cont) (w : World) : Prop :=
  lenK v1 fun t7 =>
  runK Tryd.prog (convert 3 28 t7) (fun t8 w1 =>
  callK Tryd.prog 68 [v0, t8] (fun t9 w2 =>
  runK Tryd.prog (Builtin.append_ #[54, 54] 54 [t9, v1].toArray) (fun t11 w3 =>
  K t11 w3) w2) w1) w
theorem S69_eq (v0 v1 : Value) (K : Cont) (w : World) : S69 v0 v1 K w = D Tryd.prog okf 12 (bodyOf Tryd.f69) (.node [] [] .nil (.node [] [] .nil .nil)) (retK Tryd.prog [.tmp 4] K) (nth [v0, v1]) w := by kernel_rfl
theorem S69_ok {v0 v1 : Value} {K : Cont} {w : World} (h : S69 v0 v1 K w) : callK Tryd.prog 69 [v0, v1] K w :=
  callK_of (P := Tryd.prog) (ok := okf) (n := 12) (fn := Tryd.f69) (c := bodyOf Tryd.f69) (rs := [.tmp 4]) (an := (.node [] [] .nil (.node [] [] .nil .nil))) good mixed Tryd.func69 (by kernel_rfl) (by kernel_rfl) (by kernel_rfl) (by kernel_rfl) (Eq.mp (S69_eq v0 v1 K w) h)

/-- rubric/wire.zig -/
def S86 (v0 : Value) (K : Cont) (w : World) : Prop :=
  runK Tryd.prog (convert 2 28 v0) (fun t4 w1 =>
  runK Tryd.prog (binS .shl 28 (.tmp 4) (.const (.int .u64 1)) t4 (.int .u64 1)) (fun t5 w2 =>
  runK Tryd.prog (binS .shr 2 (.tmp 6) (.const (.int .u64 63)) v0 (.int .u64 63)) (fun t7 w3 =>
  runK Tryd.prog (convert 2 28 t7) (fun t8 w4 =>
  runK Tryd.prog (binS .xor 28 (.tmp 5) (.tmp 8) t5 t8) (fun t9 w5 =>
  K t9 w5) w4) w3) w2) w1) w
theorem S86_eq (v0 : Value) (K : Cont) (w : World) : S86 v0 K w = D Tryd.prog okf 10 (bodyOf Tryd.f86) (.node [] [] .nil (.node [] [] .nil .nil)) (retK Tryd.prog [.tmp 2] K) (nth [v0]) w := by kernel_rfl
theorem S86_ok {v0 : Value} {K : Cont} {w : World} (h : S86 v0 K w) : callK Tryd.prog 86 [v0] K w :=
  callK_of (P := Tryd.prog) (ok := okf) (n := 10) (fn := Tryd.f86) (c := bodyOf Tryd.f86) (rs := [.tmp 2]) (an := (.node [] [] .nil (.node [] [] .nil .nil))) good mixed Tryd.func86 (by kernel_rfl) (by kernel_rfl) (by kernel_rfl) (by kernel_rfl) (Eq.mp (S86_eq v0 K w) h)

/-- slices.Clone[[]byte,byte] -/
def S87 (v0 : Value) (K : Cont) (w : World) : Prop :=
  snilK v0 fun b4 =>
  condK (.bool b4)
  (K (.slice none 0 0) w)
  (rowK 5 1 0 [] [] (fun t5 w1 =>
  runK Tryd.prog (Builtin.append_ #[54, 54] 54 [t5, v0].toArray) (fun t7 w2 =>
  K t7 w2) w1) w)
theorem S87_eq (v0 : Value) (K : Cont) (w : World) : S87 v0 K w = D Tryd.prog okf 8 (bodyOf Tryd.f87) (.node [] [] .nil (.node [] [] (.node [] [] .nil (.node [] [] (.node [] [] .nil .nil) .nil)) (.node [] [] .nil .nil))) (retK Tryd.prog [.tmp 2] K) (nth [v0]) w := by kernel_rfl
theorem S87_ok {v0 : Value} {K : Cont} {w : World} (h : S87 v0 K w) : callK Tryd.prog 87 [v0] K w :=
  callK_of (P := Tryd.prog) (ok := okf) (n := 8) (fn := Tryd.f87) (c := bodyOf Tryd.f87) (rs := [.tmp 2]) (an := (.node [] [] .nil (.node [] [] (.node [] [] .nil (.node [] [] (.node [] [] .nil .nil) .nil)) (.node [] [] .nil .nil)))) good mixed Tryd.func87 (by kernel_rfl) (by kernel_rfl) (by kernel_rfl) (by kernel_rfl) (Eq.mp (S87_eq v0 K w) h)

/-- rubric/rubriclaw07.flags -/
def S33 (v0 : Value) (K : Cont) (w : World) : Prop :=
  buildK [(0, 1), (1, 1), (2, 1), (3, 1)] [(.int .u8 0), (.int .i64 0), (.int .u64 0), (.string (ByteArray.mk #[]))] [(0, (.int .u8 1)), (1, v0)] fun t4 =>
  buildK [(0, 1), (1, 4)] [(.int .i64 0), (.int .u8 0), (.int .i64 0), (.int .u64 0), (.string (ByteArray.mk #[]))] [(0, (.int .i64 1)), (1, t4)] fun t5 =>
  rowK 56 5 1 [(.int .i64 0), (.int .u8 0), (.int .i64 0), (.int .u64 0), (.string (ByteArray.mk #[]))] [(0, t5)] (fun t6 w1 =>
  K t6 w1) w
theorem S33_eq (v0 : Value) (K : Cont) (w : World) : S33 v0 K w = D Tryd.prog okf 7 (bodyOf Tryd.f33) (.node [] [] .nil (.node [] [] .nil .nil)) (retK Tryd.prog [.tmp 2] K) (nth [v0]) w := by kernel_rfl
theorem S33_ok {v0 : Value} {K : Cont} {w : World} (h : S33 v0 K w) : callK Tryd.prog 33 [v0] K w :=
  callK_of (P := Tryd.prog) (ok := okf) (n := 7) (fn := Tryd.f33) (c := bodyOf Tryd.f33) (rs := [.tmp 2]) (an := (.node [] [] .nil (.node [] [] .nil .nil))) good mixed Tryd.func33 (by kernel_rfl) (by kernel_rfl) (by kernel_rfl) (by kernel_rfl) (Eq.mp (S33_eq v0 K w) h)

/-- rubric/rubriclaw07.known -/
def S24 (K : Cont) (w : World) : Prop :=
  buildK [(0, 1), (1, 1), (2, 1), (3, 1), (4, 1), (5, 1)] [(.int .i64 0), (.bool false), (.int .u8 0), (.bool false), (.bool false), (.int .i64 0)] [(0, (.int .i64 1)), (2, (.int .u8 1))] fun t13 =>
  rowK 34 6 1 [(.int .i64 0), (.bool false), (.int .u8 0), (.bool false), (.bool false), (.int .i64 0)] [(0, t13)] (fun t14 w1 =>
  callK Tryd.prog 12 [t14] (fun t15 w2 =>
  extK 0 t15 fun t16 =>
  extK 1 t15 fun t17 =>
  callK Tryd.prog 25 [t16] (fun t19 w3 =>
  JoinK (fun _vs w4 => ∀ _h : Env,
  callK Tryd.prog 27 [t19, (.slice none 0 0)] (fun t28 w5 =>
  extK 0 t28 fun t29 =>
  extK 1 t28 fun t30 =>
  callK Tryd.prog 33 [(.int .i64 1)] (fun t33 w6 =>
  callK Tryd.prog 27 [t19, t33] (fun t34 w7 =>
  extK 0 t34 fun t35 =>
  extK 1 t34 fun t36 =>
  callK Tryd.prog 33 [(.int .i64 1)] (fun t39 w8 =>
  callK Tryd.prog 27 [t19, t39] (fun t40 w9 =>
  extK 0 t40 fun t41 =>
  extK 1 t40 fun t42 =>
  callK Tryd.prog 33 [(.int .i64 0)] (fun t45 w10 =>
  callK Tryd.prog 27 [t19, t45] (fun t46 w11 =>
  extK 0 t46 fun t47 =>
  extK 1 t46 fun t48 =>
  eqK .i64 t30 (.int .i64 0) fun t50 =>
  condK t50
  (eqK .i64 t36 (.int .i64 0) fun t53 =>
  condK t53
  (eqK .i64 t42 (.int .i64 0) fun t57 =>
  condK t57
  (eqK .i64 t48 (.int .i64 0) fun t61 =>
  condK t61
  (eqK .i64 t29 (.int .i64 0) fun t65 =>
  condK t65
  (eqK .i64 t35 (.int .i64 1) fun t69 =>
  condK t69
  (eqK .i64 t41 (.int .i64 1) fun t73 =>
  condK t73
  (eqK .i64 t47 (.int .i64 2) fun t77 =>
  condK t77
  (callK Tryd.prog 29 [t19] (fun t81 w12 =>
  eqK .i64 t81 (.int .i64 3) fun t82 =>
  condK t82
  (callK Tryd.prog 28 [t19, (.int .i64 1)] (fun t86 w13 =>
  eqK .i64 t86 (.int .i64 0) fun t87 =>
  condK t87
  (callK Tryd.prog 28 [t19, (.int .i64 1)] (fun t91 w14 =>
  eqK .i64 t91 (.int .i64 0) fun t92 =>
  condK t92
  (callK Tryd.prog 28 [t19, (.int .i64 1)] (fun t96 w15 =>
  eqK .i64 t96 (.int .i64 5) fun t97 =>
  condK t97
  (callK Tryd.prog 29 [t19] (fun t101 w16 =>
  eqK .i64 t101 (.int .i64 2) fun t102 =>
  condK t102
  (callK Tryd.prog 32 [t19, (.int .i64 2)] (fun t106 w17 =>
  eqK .i64 t106 (.int .i64 1) fun t107 =>
  K t107 w17) w16)
  (K (.bool false) w16)) w15)
  (K (.bool false) w15)) w14)
  (K (.bool false) w14)) w13)
  (K (.bool false) w13)) w12)
  (K (.bool false) w12)) w11)
  (K (.bool false) w11))
  (K (.bool false) w11))
  (K (.bool false) w11))
  (K (.bool false) w11))
  (K (.bool false) w11))
  (K (.bool false) w11))
  (K (.bool false) w11))
  (K (.bool false) w11)) w10) w9) w8) w7) w6) w5) w4) (fun J =>
  neK .i64 t17 (.int .i64 0) fun t21 =>
  condK t21
  (K (.bool false) w3)
  (pnilK t19 fun b24 =>
  condK (.bool b24)
  (K (.bool false) w3)
  (J [] w3)))) w2) w1) w
theorem S24_eq (K : Cont) (w : World) : S24  K w = D Tryd.prog okf 109 (bodyOf Tryd.f24) (.node [] [] .nil (.node [] [] .nil (.node [] [] .nil (.cut [] [(0, 0), (20, 25)] (.node [] [] .nil (.node [] [] (.node [] [] .nil .nil) .nil)) (.node [] [] .nil (.node [] [] .nil (.node [] [] .nil (.node [] [] .nil (.node [] [] .nil .nil))))))))) (retK Tryd.prog [.tmp 0] K) (nth []) w := by kernel_rfl
theorem S24_ok {K : Cont} {w : World} (h : S24  K w) : callK Tryd.prog 24 [] K w :=
  callK_of (P := Tryd.prog) (ok := okf) (n := 109) (fn := Tryd.f24) (c := bodyOf Tryd.f24) (rs := [.tmp 0]) (an := (.node [] [] .nil (.node [] [] .nil (.node [] [] .nil (.cut [] [(0, 0), (20, 25)] (.node [] [] .nil (.node [] [] (.node [] [] .nil .nil) .nil)) (.node [] [] .nil (.node [] [] .nil (.node [] [] .nil (.node [] [] .nil (.node [] [] .nil .nil)))))))))) good mixed Tryd.func24 (by kernel_rfl) (by kernel_rfl) (by kernel_rfl) (by kernel_rfl) (Eq.mp (S24_eq  K w) h)

/-- rubric/rubriclaw07.InternReuse -/
def S6 (v0 v1 : Value) (K : Cont) (w : World) : Prop :=
  JoinK (fun _vs w1 => ∀ _h : Env,
  buildK [(0, 1), (1, 1), (2, 1), (3, 1), (4, 1), (5, 1)] [(.int .i64 0), (.bool false), (.int .u8 0), (.bool false), (.bool false), (.int .i64 0)] [(0, (.int .i64 3)), (2, (.int .u8 4))] fun t25 =>
  rowK 34 6 1 [(.int .i64 0), (.bool false), (.int .u8 0), (.bool false), (.bool false), (.int .i64 0)] [(0, t25)] (fun t26 w2 =>
  callK Tryd.prog 12 [t26] (fun t27 w3 =>
  extK 0 t27 fun t28 =>
  extK 1 t27 fun t29 =>
  callK Tryd.prog 25 [t28] (fun t31 w4 =>
  JoinK (fun _vs_1 w5 => ∀ _h_1 : Env,
  LoopK [(.int .i64 0)] (fun vs_2 again w6 => ∀ _h_2 : Env,
  ltK .i64 (nth vs_2 0) v0 fun t40 =>
  condK t40
  (callyK Tryd.prog okf (.func (.func 26) #[] #[]) [(nth vs_2 0)] (fun t46 w7 =>
  callK Tryd.prog 27 [t31, t46] (fun t47 w8 =>
  extK 0 t47 fun t48 =>
  extK 1 t47 fun t49 =>
  neK .i64 t49 (.int .i64 0) fun t51 =>
  condK t51
  (K (.bool false) w8)
  (addK .i64 (nth vs_2 0) (.int .i64 1) fun t55 =>
  neK .i64 t48 t55 fun t56 =>
  condK t56
  (K (.bool false) w8)
  (addK .i64 (nth vs_2 0) (.int .i64 1) fun t58_1 =>
  again [t58_1] w8))) w7) w6)
  (runK Tryd.prog (convert 3 28 v1) (fun t60 w9 =>
  runK Tryd.prog (convert 3 28 v0) (fun t62 w10 =>
  runK Tryd.prog (binS .rem 28 (.tmp 60) (.tmp 62) t60 t62) (fun t63 w11 =>
  runK Tryd.prog (convert 28 3 t63) (fun t64 w12 =>
  addK .i64 t64 (.int .i64 1) fun t65 =>
  callK Tryd.prog 28 [t31, t65] (fun t68 w13 =>
  neK .i64 t68 (.int .i64 0) fun t69 =>
  condK t69
  (K (.bool false) w13)
  (callyK Tryd.prog okf (.func (.func 26) #[] #[]) [v0] (fun t74 w14 =>
  callK Tryd.prog 27 [t31, t74] (fun t75 w15 =>
  extK 0 t75 fun t76 =>
  extK 1 t75 fun t77 =>
  addK .i64 v0 (.int .i64 1) fun t82 =>
  callyK Tryd.prog okf (.func (.func 26) #[] #[]) [t82] (fun t83 w16 =>
  callK Tryd.prog 27 [t31, t83] (fun t84 w17 =>
  extK 0 t84 fun t85 =>
  extK 1 t84 fun t86 =>
  eqK .i64 t77 (.int .i64 0) fun t88 =>
  condK t88
  (eqK .i64 t86 (.int .i64 0) fun t91 =>
  condK t91
  (eqK .i64 t76 t65 fun t96 =>
  condK t96
  (addK .i64 v0 (.int .i64 1) fun t101 =>
  eqK .i64 t85 t101 fun t102 =>
  condK t102
  (callK Tryd.prog 29 [t31] (fun t106 w18 =>
  addK .i64 v0 (.int .i64 2) fun t108 =>
  eqK .i64 t106 t108 fun t109 =>
  condK t109
  (callK Tryd.prog 24 [] (fun t112 w19 =>
  K t112 w19) w18)
  (K (.bool false) w18)) w17)
  (K (.bool false) w17))
  (K (.bool false) w17))
  (K (.bool false) w17))
  (K (.bool false) w17)) w16) w15) w14) w13)) w12) w11) w10) w9) w6)) w5) (fun J_1 =>
  neK .i64 t29 (.int .i64 0) fun t33 =>
  condK t33
  (K (.bool false) w4)
  (pnilK t31 fun b36 =>
  condK (.bool b36)
  (K (.bool false) w4)
  (J_1 [] w4)))) w3) w2) w1) (fun J =>
  ltK .i64 v0 (.int .i64 1) fun t18 =>
  condK t18
  (callK Tryd.prog 24 [] (fun t23 w20 =>
  K t23 w20) w)
  (gtK .i64 v0 (.int .i64 40) fun t21 =>
  condK t21
  (callK Tryd.prog 24 [] (fun t23_1 w21 =>
  K t23_1 w21) w)
  (J [] w)))
theorem S6_eq (v0 v1 : Value) (K : Cont) (w : World) : S6 v0 v1 K w = D Tryd.prog okf 114 (bodyOf Tryd.f6) (.node [] [] .nil (.cut [] [(4, 4), (17, 23)] (.node [] [] .nil (.node [] [] (.node [] [] .nil .nil) .nil)) (.node [] [] .nil (.node [] [] .nil (.cut [] [(4, 4), (32, 37)] (.node [] [] .nil (.node [] [] (.node [] [] .nil .nil) .nil)) (.node [] [] .nil (.node [] [] (.node [] [] .nil (.node [39] [(4, 4), (9, 11), (39, 58)] (.node [] [] .nil (.node [] [] (.node [] [] .nil .nil) (.node [] [] (.node [] [] .nil (.node [] [] .nil (.node [] [] .nil (.node [] [] (.node [] [] .nil .nil) .nil)))) .nil))) .nil)) (.node [] [] .nil (.node [] [] (.node [] [] .nil (.node [] [] (.node [] [] .nil .nil) .nil)) (.node [] [] .nil (.node [] [] .nil (.node [] [] .nil .nil)))))))))))) (retK Tryd.prog [.tmp 4] K) (nth [v0, v1]) w := by kernel_rfl
theorem S6_ok {v0 v1 : Value} {K : Cont} {w : World} (h : S6 v0 v1 K w) : callK Tryd.prog 6 [v0, v1] K w :=
  callK_of (P := Tryd.prog) (ok := okf) (n := 114) (fn := Tryd.f6) (c := bodyOf Tryd.f6) (rs := [.tmp 4]) (an := (.node [] [] .nil (.cut [] [(4, 4), (17, 23)] (.node [] [] .nil (.node [] [] (.node [] [] .nil .nil) .nil)) (.node [] [] .nil (.node [] [] .nil (.cut [] [(4, 4), (32, 37)] (.node [] [] .nil (.node [] [] (.node [] [] .nil .nil) .nil)) (.node [] [] .nil (.node [] [] (.node [] [] .nil (.node [39] [(4, 4), (9, 11), (39, 58)] (.node [] [] .nil (.node [] [] (.node [] [] .nil .nil) (.node [] [] (.node [] [] .nil (.node [] [] .nil (.node [] [] .nil (.node [] [] (.node [] [] .nil .nil) .nil)))) .nil))) .nil)) (.node [] [] .nil (.node [] [] (.node [] [] .nil (.node [] [] (.node [] [] .nil .nil) .nil)) (.node [] [] .nil (.node [] [] .nil (.node [] [] .nil .nil))))))))))))) good mixed Tryd.func6 (by kernel_rfl) (by kernel_rfl) (by kernel_rfl) (by kernel_rfl) (Eq.mp (S6_eq v0 v1 K w) h)

/-- rubric/rubriclaw07.InternReuse$1 -/
def S26 (v0 : Value) (K : Cont) (w : World) : Prop :=
  runK Tryd.prog (binS .rem 3 (.tmp 3) (.const (.int .i64 26)) v0 (.int .i64 26)) (fun t4 w1 =>
  addK .i64 (.int .i64 97) t4 fun t5 =>
  runK Tryd.prog (convert 3 5 t5) (fun t6 w2 =>
  runK Tryd.prog (binS .quo 3 (.tmp 7) (.const (.int .i64 26)) v0 (.int .i64 26)) (fun t8 w3 =>
  addK .i64 (.int .i64 97) t8 fun t9 =>
  runK Tryd.prog (convert 3 5 t9) (fun t10 w4 =>
  rowK 5 1 2 [(.int .u8 0)] [(0, t6), (1, t10)] (fun t11 w5 =>
  runK Tryd.prog (convert 54 9 t11) (fun t12 w6 =>
  buildK [(0, 1), (1, 1), (2, 1), (3, 1)] [(.int .u8 0), (.int .i64 0), (.int .u64 0), (.string (ByteArray.mk #[]))] [(0, (.int .u8 4)), (3, t12)] fun t13 =>
  buildK [(0, 1), (1, 4)] [(.int .i64 0), (.int .u8 0), (.int .i64 0), (.int .u64 0), (.string (ByteArray.mk #[]))] [(0, (.int .i64 3)), (1, t13)] fun t14 =>
  rowK 56 5 1 [(.int .i64 0), (.int .u8 0), (.int .i64 0), (.int .u64 0), (.string (ByteArray.mk #[]))] [(0, t14)] (fun t15 w7 =>
  K t15 w7) w6) w5) w4) w3) w2) w1) w
theorem S26_eq (v0 : Value) (K : Cont) (w : World) : S26 v0 K w = D Tryd.prog okf 16 (bodyOf Tryd.f26) (.node [] [] .nil (.node [] [] .nil .nil)) (retK Tryd.prog [.tmp 2] K) (nth [v0]) w := by kernel_rfl
theorem S26_ok {v0 : Value} {K : Cont} {w : World} (h : S26 v0 K w) : callK Tryd.prog 26 [v0] K w :=
  callK_of (P := Tryd.prog) (ok := okf) (n := 16) (fn := Tryd.f26) (c := bodyOf Tryd.f26) (rs := [.tmp 2]) (an := (.node [] [] .nil (.node [] [] .nil .nil))) good mixed Tryd.func26 (by kernel_rfl) (by kernel_rfl) (by kernel_rfl) (by kernel_rfl) (Eq.mp (S26_eq v0 K w) h)

/-- rubric/rubriclaw07.InternOne -/
def S7 (v0 v1 : Value) (K : Cont) (w : World) : Prop :=
  callK Tryd.prog 12 [v0] (fun t21 w1 =>
  extK 0 t21 fun t22 =>
  extK 1 t21 fun t23 =>
  JoinK (fun _vs w2 => ∀ _h : Env,
  callK Tryd.prog 25 [t22] (fun t33 w3 =>
  pnilK t33 fun b35 =>
  condK (.bool b35)
  (K (.bool false) w3)
  (lenK v1 fun t37 =>
  LoopK [(.slice none 0 0), (.slice none 0 0), (.int .i64 0)] (fun vs_1 again w4 => ∀ _h_1 : Env,
  ltK .i64 (nth vs_1 2) t37 fun t39 =>
  condK t39
  (ixK 1 v1 (nth vs_1 2) fun t40 =>
  ld1K t40 (fun t41 w5 =>
  lenK t41 fun t43 =>
  gtK .i64 t43 (.int .i64 70) fun t44 =>
  condK t44
  (addK .i64 (nth vs_1 2) (.int .i64 1) fun t61 =>
  again [(nth vs_1 0), (nth vs_1 1), t61] w5)
  (callK Tryd.prog 27 [t33, t41] (fun t48 w6 =>
  extK 0 t48 fun t49 =>
  extK 1 t48 fun t50 =>
  eqK .i64 t50 (.int .i64 0) fun t52 =>
  condK t52
  (rowK 3 1 1 [(.int .i64 0)] [(0, t49)] (fun t55 w7 =>
  runK Tryd.prog (Builtin.append_ #[43, 43] 43 [(nth vs_1 0), t55].toArray) (fun t56 w8 =>
  rowK 53 1 1 [(.slice none 0 0)] [(0, t41)] (fun t59 w9 =>
  runK Tryd.prog (Builtin.append_ #[62, 62] 62 [(nth vs_1 1), t59].toArray) (fun t60 w10 =>
  addK .i64 (nth vs_1 2) (.int .i64 1) fun t61_1 =>
  again [t56, t60, t61_1] w10) w9) w8) w7) w6)
  (addK .i64 (nth vs_1 2) (.int .i64 1) fun t61_2 =>
  again [(nth vs_1 0), (nth vs_1 1), t61_2] w6)) w5)) w4)
  (lenK (nth vs_1 0) fun t63 =>
  LoopK [(.int .i64 0)] (fun vs_2 again_1 w11 => ∀ _h_2 : Env,
  ltK .i64 (nth vs_2 0) t63 fun t65 =>
  condK t65
  (ixK 1 (nth vs_1 0) (nth vs_2 0) fun t71 =>
  ld1K t71 (fun t72 w12 =>
  callK Tryd.prog 30 [t33, t72] (fun t73 w13 =>
  extK 0 t73 fun t74 =>
  extK 1 t73 fun t75 =>
  JoinK (fun _vs_3 w14 => ∀ _h_3 : Env,
  LoopK [(.int .i64 0)] (fun vs_4 again_2 w15 => ∀ _h_4 : Env,
  ltK .i64 (nth vs_4 0) (nth vs_2 0) fun t103 =>
  condK t103
  (DrawC [17] [[], [], [0, 1], [0, 1, 2], [], [], [4, 5], [4, 5, 6], [0, 1, 2, 3, 4, 5, 6, 7], [], [], [9, 10], [9, 10, 11], [], [], [13, 14], [13, 14, 15], [9, 10, 11, 12, 13, 14, 15, 16], [0, 1, 2, 3, 4, 5, 6, 7, 8, 9, 10, 11, 12, 13, 14, 15, 16, 17]] w15.drew (fun M St =>
  ixK 1 (nth vs_1 0) (nth vs_2 0) fun t107 =>
  sld1 (St 3) t107 fun t108 =>
  ixK 1 (nth vs_1 0) (nth vs_4 0) fun t111 =>
  sld1 (St 7) t111 fun t112 =>
  eqK .i64 t108 t112 fun t113 =>
  ixK 1 (nth vs_1 1) (nth vs_2 0) fun t116 =>
  sld1 (St 12) t116 fun t117 =>
  ixK 1 (nth vs_1 1) (nth vs_4 0) fun t120 =>
  sld1 (St 16) t120 fun t121 =>
  callK Tryd.prog 31 [t117, t121] (fun t122 w16 =>
  Mod (M 17) w15.drew w16 ∧
  bneK t113 t122 fun t123 =>
  condK t123
  (K (.bool false) w16)
  (addK .i64 (nth vs_4 0) (.int .i64 1) fun t124 =>
  again_2 [t124] w16)) w15.drew))
  (addK .i64 (nth vs_2 0) (.int .i64 1) fun t125 =>
  again_1 [t125] w15)) w14) (fun J_1 =>
  DrawC [8] [[], [0], [0, 1], [0, 1, 2], [0, 1, 2], [0, 1, 2], [0, 1, 2, 4, 5], [0, 1, 2, 4, 5, 6], [0, 1, 2, 3, 4, 5, 6, 7], [0, 1, 2, 3, 4, 5, 6, 7, 8], [0, 1, 2, 3, 4, 5, 6, 7, 8, 9], [0, 1, 2, 3, 4, 5, 6, 7, 8, 9, 10], [0, 1, 2, 3, 4, 5, 6, 7, 8, 9, 10, 11], [0, 1, 2, 3, 4, 5, 6, 7, 8, 9, 10, 11], [0, 1, 2, 3, 4, 5, 6, 7, 8, 9, 10, 11, 12, 13], [0, 1, 2, 3, 4, 5, 6, 7, 8, 9, 10, 11, 12, 13, 14], [0, 1, 2, 3, 4, 5, 6, 7, 8, 9, 10, 11, 12, 13, 14, 15], [0, 1, 2, 3, 4, 5, 6, 7, 8, 9, 10, 11], [0, 1, 2, 3, 4, 5, 6, 7, 8, 9, 10, 11], [0, 1, 2, 3, 4, 5, 6, 7, 8, 9, 10, 11, 17, 18], [0, 1, 2, 3, 4, 5, 6, 7, 8, 9, 10, 11, 17, 18, 19], [0, 1, 2, 3, 4, 5, 6, 7, 8, 9, 10, 11, 17, 18, 19, 20], [0, 1, 2, 3, 4, 5, 6, 7, 8, 9, 10, 11, 17, 18, 19, 20, 21], [0, 1, 2, 3, 4, 5, 6, 7, 8, 9, 10, 11, 12, 13, 14, 15, 16, 17, 18, 19, 20, 21, 22], [0, 1, 2, 3, 4, 5, 6, 7, 8, 9, 10, 11, 12, 13, 14, 15, 16, 17, 18, 19, 20, 21, 22, 23]] w13.drew (fun M_1 St_1 =>
  neK .i64 t75 (.int .i64 0) fun t77 =>
  condK t77
  (K (.bool false) w13.drew)
  (ixK 1 (nth vs_1 1) (nth vs_2 0) fun t82 =>
  sld1 (St_1 7) t82 fun t83 =>
  callK Tryd.prog 31 [t74, t83] (fun t84 w17 =>
  Mod (M_1 8) w13.drew w17 ∧
  notK t84 fun t85 =>
  condK t85
  (K (.bool false) w17)
  (ixK 1 (nth vs_1 0) (nth vs_2 0) fun t90 =>
  sld1 (St_1 15) t90 fun t91 =>
  eqK .i64 t91 (.int .i64 0) fun t92 =>
  ixK 1 (nth vs_1 1) (nth vs_2 0) fun t95 =>
  sld1 (St_1 20) t95 fun t96 =>
  lenK t96 fun t97 =>
  eqK .i64 t97 (.int .i64 0) fun t98 =>
  bneK t92 t98 fun t99 =>
  condK t99
  (K (.bool false) w17)
  (J_1 [] w17))) w13.drew)))) w12) w11)
  (lenK (nth vs_1 0) fun t127 =>
  LoopK [(.int .i64 0)] (fun vs_5 again_3 w18 => ∀ _h_5 : Env,
  ltK .i64 (nth vs_5 0) t127 fun t129 =>
  condK t129
  (ixK 1 (nth vs_1 0) (nth vs_5 0) fun t134 =>
  ld1K t134 (fun t135 w19 =>
  callK Tryd.prog 28 [t33, t135] (fun t136 w20 =>
  neK .i64 t136 (.int .i64 0) fun t137 =>
  condK t137
  (K (.bool false) w20)
  (addK .i64 (nth vs_5 0) (.int .i64 1) fun t138 =>
  again_3 [t138] w20)) w19) w18)
  (callK Tryd.prog 29 [t33] (fun t140 w21 =>
  eqK .i64 t140 (.int .i64 1) fun t141 =>
  condK t141
  (callK Tryd.prog 32 [t33, (.int .i64 0)] (fun t144 w22 =>
  eqK .i64 t144 (.int .i64 0) fun t145 =>
  condK t145
  (callK Tryd.prog 24 [] (fun t148 w23 =>
  K t148 w23) w22)
  (K (.bool false) w22)) w21)
  (K (.bool false) w21)) w18)) w11)) w4)) w3)) w2) (fun J =>
  neK .i64 t23 (.int .i64 0) fun t25 =>
  condK t25
  (callK Tryd.prog 24 [] (fun t31 w24 =>
  K t31 w24) w1)
  (lenK v1 fun t28 =>
  gtK .i64 t28 (.int .i64 60) fun t29 =>
  condK t29
  (callK Tryd.prog 24 [] (fun t31_1 w25 =>
  K t31_1 w25) w1)
  (J [] w1)))) w
theorem S7_eq (v0 v1 : Value) (K : Cont) (w : World) : S7 v0 v1 K w = D Tryd.prog okf 150 (bodyOf Tryd.f7) (.node [] [] .nil (.node [] [] .nil (.cut [] [(4, 4), (24, 31)] (.node [] [] .nil (.node [] [] (.node [] [] .nil .nil) .nil)) (.node [] [] .nil (.node [] [] (.node [] [] .nil (.node [] [] (.node [] [] .nil .nil) .nil)) (.node [] [] .nil (.node [] [] .nil (.node [] [] (.node [] [] .nil (.node [8, 9, 38] [(8, 9), (11, 13), (38, 61)] (.node [] [] .nil (.node [] [] (.node [] [] .nil .nil) (.node [] [] (.node [] [] .nil (.node [] [] (.node [] [] .nil (.node [] [] .nil .nil)) (.node [] [] .nil (.node [] [] .nil (.node [] [] .nil .nil))))) .nil))) .nil)) (.node [] [] (.node [] [] .nil (.node [64] [(4, 4), (14, 17), (64, 125)] (.node [] [] .nil (.node [] [] (.node [] [] .nil .nil) (.node [] [] (.node [] [] .nil (.node [] [] .nil (.cut [] [(4, 4), (76, 100)] (.node [] [] (.dc [8] [[], [0], [0, 1], [0, 1, 2], [0, 1, 2], [0, 1, 2], [0, 1, 2, 4, 5], [0, 1, 2, 4, 5, 6], [0, 1, 2, 3, 4, 5, 6, 7], [0, 1, 2, 3, 4, 5, 6, 7, 8], [0, 1, 2, 3, 4, 5, 6, 7, 8, 9], [0, 1, 2, 3, 4, 5, 6, 7, 8, 9, 10], [0, 1, 2, 3, 4, 5, 6, 7, 8, 9, 10, 11], [0, 1, 2, 3, 4, 5, 6, 7, 8, 9, 10, 11], [0, 1, 2, 3, 4, 5, 6, 7, 8, 9, 10, 11, 12, 13], [0, 1, 2, 3, 4, 5, 6, 7, 8, 9, 10, 11, 12, 13, 14], [0, 1, 2, 3, 4, 5, 6, 7, 8, 9, 10, 11, 12, 13, 14, 15], [0, 1, 2, 3, 4, 5, 6, 7, 8, 9, 10, 11], [0, 1, 2, 3, 4, 5, 6, 7, 8, 9, 10, 11], [0, 1, 2, 3, 4, 5, 6, 7, 8, 9, 10, 11, 17, 18], [0, 1, 2, 3, 4, 5, 6, 7, 8, 9, 10, 11, 17, 18, 19], [0, 1, 2, 3, 4, 5, 6, 7, 8, 9, 10, 11, 17, 18, 19, 20], [0, 1, 2, 3, 4, 5, 6, 7, 8, 9, 10, 11, 17, 18, 19, 20, 21], [0, 1, 2, 3, 4, 5, 6, 7, 8, 9, 10, 11, 12, 13, 14, 15, 16, 17, 18, 19, 20, 21, 22], [0, 1, 2, 3, 4, 5, 6, 7, 8, 9, 10, 11, 12, 13, 14, 15, 16, 17, 18, 19, 20, 21, 22, 23]] []) (.node [] [] (.node [] [] .nil .nil) .nil)) (.node [] [] .nil (.node [102] [(4, 4), (17, 17), (102, 124)] (.node [] [] .nil (.node [] [] (.node [] [] .nil .nil) (.node [] [] (.node [] [] .nil (.node [] [] (.dc [17] [[], [], [0, 1], [0, 1, 2], [], [], [4, 5], [4, 5, 6], [0, 1, 2, 3, 4, 5, 6, 7], [], [], [9, 10], [9, 10, 11], [], [], [13, 14], [13, 14, 15], [9, 10, 11, 12, 13, 14, 15, 16], [0, 1, 2, 3, 4, 5, 6, 7, 8, 9, 10, 11, 12, 13, 14, 15, 16, 17]] []) (.node [] [] (.node [] [] .nil .nil) .nil))) .nil))) .nil))))) .nil))) .nil)) (.node [] [] (.node [] [] .nil (.node [128] [(4, 4), (18, 18), (128, 138)] (.node [] [] .nil (.node [] [] (.node [] [] .nil .nil) (.node [] [] (.node [] [] .nil (.node [] [] .nil (.node [] [] (.node [] [] .nil .nil) .nil))) .nil))) .nil)) (.node [] [] .nil .nil))))))))))) (retK Tryd.prog [.tmp 4] K) (nth [v0, v1]) w := by kernel_rfl
theorem S7_ok {v0 v1 : Value} {K : Cont} {w : World} (h : S7 v0 v1 K w) : callK Tryd.prog 7 [v0, v1] K w :=
  callK_of (P := Tryd.prog) (ok := okf) (n := 150) (fn := Tryd.f7) (c := bodyOf Tryd.f7) (rs := [.tmp 4]) (an := (.node [] [] .nil (.node [] [] .nil (.cut [] [(4, 4), (24, 31)] (.node [] [] .nil (.node [] [] (.node [] [] .nil .nil) .nil)) (.node [] [] .nil (.node [] [] (.node [] [] .nil (.node [] [] (.node [] [] .nil .nil) .nil)) (.node [] [] .nil (.node [] [] .nil (.node [] [] (.node [] [] .nil (.node [8, 9, 38] [(8, 9), (11, 13), (38, 61)] (.node [] [] .nil (.node [] [] (.node [] [] .nil .nil) (.node [] [] (.node [] [] .nil (.node [] [] (.node [] [] .nil (.node [] [] .nil .nil)) (.node [] [] .nil (.node [] [] .nil (.node [] [] .nil .nil))))) .nil))) .nil)) (.node [] [] (.node [] [] .nil (.node [64] [(4, 4), (14, 17), (64, 125)] (.node [] [] .nil (.node [] [] (.node [] [] .nil .nil) (.node [] [] (.node [] [] .nil (.node [] [] .nil (.cut [] [(4, 4), (76, 100)] (.node [] [] (.dc [8] [[], [0], [0, 1], [0, 1, 2], [0, 1, 2], [0, 1, 2], [0, 1, 2, 4, 5], [0, 1, 2, 4, 5, 6], [0, 1, 2, 3, 4, 5, 6, 7], [0, 1, 2, 3, 4, 5, 6, 7, 8], [0, 1, 2, 3, 4, 5, 6, 7, 8, 9], [0, 1, 2, 3, 4, 5, 6, 7, 8, 9, 10], [0, 1, 2, 3, 4, 5, 6, 7, 8, 9, 10, 11], [0, 1, 2, 3, 4, 5, 6, 7, 8, 9, 10, 11], [0, 1, 2, 3, 4, 5, 6, 7, 8, 9, 10, 11, 12, 13], [0, 1, 2, 3, 4, 5, 6, 7, 8, 9, 10, 11, 12, 13, 14], [0, 1, 2, 3, 4, 5, 6, 7, 8, 9, 10, 11, 12, 13, 14, 15], [0, 1, 2, 3, 4, 5, 6, 7, 8, 9, 10, 11], [0, 1, 2, 3, 4, 5, 6, 7, 8, 9, 10, 11], [0, 1, 2, 3, 4, 5, 6, 7, 8, 9, 10, 11, 17, 18], [0, 1, 2, 3, 4, 5, 6, 7, 8, 9, 10, 11, 17, 18, 19], [0, 1, 2, 3, 4, 5, 6, 7, 8, 9, 10, 11, 17, 18, 19, 20], [0, 1, 2, 3, 4, 5, 6, 7, 8, 9, 10, 11, 17, 18, 19, 20, 21], [0, 1, 2, 3, 4, 5, 6, 7, 8, 9, 10, 11, 12, 13, 14, 15, 16, 17, 18, 19, 20, 21, 22], [0, 1, 2, 3, 4, 5, 6, 7, 8, 9, 10, 11, 12, 13, 14, 15, 16, 17, 18, 19, 20, 21, 22, 23]] []) (.node [] [] (.node [] [] .nil .nil) .nil)) (.node [] [] .nil (.node [102] [(4, 4), (17, 17), (102, 124)] (.node [] [] .nil (.node [] [] (.node [] [] .nil .nil) (.node [] [] (.node [] [] .nil (.node [] [] (.dc [17] [[], [], [0, 1], [0, 1, 2], [], [], [4, 5], [4, 5, 6], [0, 1, 2, 3, 4, 5, 6, 7], [], [], [9, 10], [9, 10, 11], [], [], [13, 14], [13, 14, 15], [9, 10, 11, 12, 13, 14, 15, 16], [0, 1, 2, 3, 4, 5, 6, 7, 8, 9, 10, 11, 12, 13, 14, 15, 16, 17]] []) (.node [] [] (.node [] [] .nil .nil) .nil))) .nil))) .nil))))) .nil))) .nil)) (.node [] [] (.node [] [] .nil (.node [128] [(4, 4), (18, 18), (128, 138)] (.node [] [] .nil (.node [] [] (.node [] [] .nil .nil) (.node [] [] (.node [] [] .nil (.node [] [] .nil (.node [] [] (.node [] [] .nil .nil) .nil))) .nil))) .nil)) (.node [] [] .nil .nil)))))))))))) good mixed Tryd.func7 (by kernel_rfl) (by kernel_rfl) (by kernel_rfl) (by kernel_rfl) (Eq.mp (S7_eq v0 v1 K w) h)

/-- rubric/rubriclaw07.InternStays -/
def S8 (v0 v1 v2 : Value) (K : Cont) (w : World) : Prop :=
  callK Tryd.prog 12 [v0] (fun t22 w1 =>
  extK 0 t22 fun t23 =>
  extK 1 t22 fun t24 =>
  JoinK (fun _vs w2 => ∀ _h : Env,
  callK Tryd.prog 25 [t23] (fun t39 w3 =>
  pnilK t39 fun b41 =>
  condK (.bool b41)
  (K (.bool false) w3)
  (callK Tryd.prog 27 [t39, v1] (fun t45 w4 =>
  extK 0 t45 fun t46 =>
  extK 1 t45 fun t47 =>
  neK .i64 t47 (.int .i64 0) fun t49 =>
  condK t49
  (callK Tryd.prog 24 [] (fun t50 w5 =>
  K t50 w5) w4)
  (lenK v2 fun t52 =>
  LoopK [(.int .i64 0)] (fun vs_1 again w6 => ∀ _h_1 : Env,
  ltK .i64 (nth vs_1 0) t52 fun t54 =>
  condK t54
  (JoinK (fun _vs_2 w7 => ∀ _h_2 : Env,
  addK .i64 (nth vs_1 0) (.int .i64 1) fun t100 =>
  again [t100] w7) (fun J_1 =>
  ixK 1 v2 (nth vs_1 0) fun t56 =>
  ld1K t56 (fun t57 w8 =>
  lenK t57 fun t59 =>
  gtK .i64 t59 (.int .i64 70) fun t60 =>
  condK t60
  (J_1 [] w8)
  (callK Tryd.prog 27 [t39, t57] (fun t64 w9 =>
  extK 0 t64 fun t65 =>
  extK 1 t64 fun t66 =>
  JoinK (fun _vs_3 w10 => ∀ _h_3 : Env,
  callK Tryd.prog 30 [t39, t46] (fun t83 w11 =>
  extK 0 t83 fun t84 =>
  extK 1 t83 fun t85 =>
  neK .i64 t85 (.int .i64 0) fun t87 =>
  condK t87
  (K (.bool false) w11)
  (callK Tryd.prog 31 [t84, v1] (fun t91 w12 =>
  notK t91 fun t92 =>
  condK t92
  (K (.bool false) w12)
  (callK Tryd.prog 32 [t39, t46] (fun t97 w13 =>
  ltK .i64 t97 (.int .i64 1) fun t98 =>
  condK t98
  (K (.bool false) w13)
  (J_1 [] w13)) w12)) w11)) w10) (fun J_2 =>
  eqK .i64 t66 (.int .i64 0) fun t68 =>
  condK t68
  (runK Tryd.prog (binS .rem 3 (.tmp 70) (.const (.int .i64 2)) (nth vs_1 0) (.int .i64 2)) (fun t71 w14 =>
  eqK .i64 t71 (.int .i64 0) fun t72 =>
  condK t72
  (callK Tryd.prog 28 [t39, t65] (fun t77 w15 =>
  neK .i64 t77 (.int .i64 0) fun t78 =>
  condK t78
  (K (.bool false) w15)
  (J_2 [] w15)) w14)
  (J_2 [] w14)) w9)
  (J_2 [] w9))) w8)) w6))
  (callK Tryd.prog 27 [t39, v1] (fun t104 w16 =>
  extK 0 t104 fun t105 =>
  extK 1 t104 fun t106 =>
  eqK .i64 t106 (.int .i64 0) fun t108 =>
  condK t108
  (eqK .i64 t105 t46 fun t112 =>
  condK t112
  (callK Tryd.prog 24 [] (fun t115 w17 =>
  K t115 w17) w16)
  (K (.bool false) w16))
  (K (.bool false) w16)) w6)) w4)) w3)) w2) (fun J =>
  neK .i64 t24 (.int .i64 0) fun t26 =>
  condK t26
  (callK Tryd.prog 24 [] (fun t37 w18 =>
  K t37 w18) w1)
  (lenK v2 fun t29 =>
  gtK .i64 t29 (.int .i64 60) fun t30 =>
  condK t30
  (callK Tryd.prog 24 [] (fun t37_1 w19 =>
  K t37_1 w19) w1)
  (lenK v1 fun t34 =>
  gtK .i64 t34 (.int .i64 70) fun t35 =>
  condK t35
  (callK Tryd.prog 24 [] (fun t37_2 w20 =>
  K t37_2 w20) w1)
  (J [] w1))))) w
theorem S8_eq (v0 v1 v2 : Value) (K : Cont) (w : World) : S8 v0 v1 v2 K w = D Tryd.prog okf 117 (bodyOf Tryd.f8) (.node [] [] .nil (.node [] [] .nil (.cut [] [(6, 6), (25, 37)] (.node [] [] .nil (.node [] [] (.node [] [] .nil .nil) .nil)) (.node [] [] .nil (.node [] [] (.node [] [] .nil (.node [] [] (.node [] [] .nil .nil) .nil)) (.node [] [] .nil (.node [] [] (.node [] [] .nil (.node [] [] (.node [] [] .nil .nil) .nil)) (.node [] [] (.node [] [] .nil (.node [53] [(6, 6), (12, 17), (53, 100)] (.node [] [] .nil (.node [] [] (.node [] [] .nil .nil) (.cut [] [(6, 6), (12, 17), (55, 99)] (.node [] [] .nil (.node [] [] (.node [] [] .nil (.node [] [] .nil .nil)) (.node [] [] .nil (.cut [] [(6, 6), (67, 79)] (.node [] [] .nil (.node [] [] (.node [] [] .nil .nil) .nil)) (.node [] [] .nil (.node [] [] .nil (.node [] [] (.node [] [] .nil .nil) .nil))))))) .nil))) .nil)) (.node [] [] .nil (.node [] [] .nil .nil)))))))))) (retK Tryd.prog [.tmp 6] K) (nth [v0, v1, v2]) w := by kernel_rfl
theorem S8_ok {v0 v1 v2 : Value} {K : Cont} {w : World} (h : S8 v0 v1 v2 K w) : callK Tryd.prog 8 [v0, v1, v2] K w :=
  callK_of (P := Tryd.prog) (ok := okf) (n := 117) (fn := Tryd.f8) (c := bodyOf Tryd.f8) (rs := [.tmp 6]) (an := (.node [] [] .nil (.node [] [] .nil (.cut [] [(6, 6), (25, 37)] (.node [] [] .nil (.node [] [] (.node [] [] .nil .nil) .nil)) (.node [] [] .nil (.node [] [] (.node [] [] .nil (.node [] [] (.node [] [] .nil .nil) .nil)) (.node [] [] .nil (.node [] [] (.node [] [] .nil (.node [] [] (.node [] [] .nil .nil) .nil)) (.node [] [] (.node [] [] .nil (.node [53] [(6, 6), (12, 17), (53, 100)] (.node [] [] .nil (.node [] [] (.node [] [] .nil .nil) (.cut [] [(6, 6), (12, 17), (55, 99)] (.node [] [] .nil (.node [] [] (.node [] [] .nil (.node [] [] .nil .nil)) (.node [] [] .nil (.cut [] [(6, 6), (67, 79)] (.node [] [] .nil (.node [] [] (.node [] [] .nil .nil) .nil)) (.node [] [] .nil (.node [] [] .nil (.node [] [] (.node [] [] .nil .nil) .nil))))))) .nil))) .nil)) (.node [] [] .nil (.node [] [] .nil .nil))))))))))) good mixed Tryd.func8 (by kernel_rfl) (by kernel_rfl) (by kernel_rfl) (by kernel_rfl) (Eq.mp (S8_eq v0 v1 v2 K w) h)

/-- rubric/rubriclaw07.InternHolds -/
def S9 (v0 v1 : Value) (K : Cont) (w : World) : Prop :=
  JoinK (fun _vs w1 => ∀ _h : Env,
  buildK [(0, 1), (1, 1), (2, 1), (3, 1), (4, 1), (5, 1)] [(.int .i64 0), (.bool false), (.int .u8 0), (.bool false), (.bool false), (.int .i64 0)] [(0, (.int .i64 1)), (2, (.int .u8 1))] fun t20 =>
  rowK 34 6 1 [(.int .i64 0), (.bool false), (.int .u8 0), (.bool false), (.bool false), (.int .i64 0)] [(0, t20)] (fun t21 w2 =>
  callK Tryd.prog 12 [t21] (fun t22 w3 =>
  extK 0 t22 fun t23 =>
  extK 1 t22 fun t24 =>
  callK Tryd.prog 25 [t23] (fun t26 w4 =>
  JoinK (fun _vs_1 w5 => ∀ _h_1 : Env,
  callK Tryd.prog 33 [(.int .i64 0)] (fun t33 w6 =>
  JoinK (fun vs_2 w7 => ∀ _h_2 : Env,
  callK Tryd.prog 27 [t26, (nth vs_2 0)] (fun t39 w8 =>
  extK 0 t39 fun t40 =>
  extK 1 t39 fun t41 =>
  JoinK (fun _vs_3 w9 => ∀ _h_3 : Env,
  LoopK [(.int .i64 0)] (fun vs_4 again w10 => ∀ _h_4 : Env,
  ltK .i64 (nth vs_4 0) v0 fun t50 =>
  condK t50
  (callK Tryd.prog 34 [t26, t40] (fun t53 w11 =>
  neK .i64 t53 (.int .i64 0) fun t54 =>
  condK t54
  (K (.bool false) w11)
  (addK .i64 (nth vs_4 0) (.int .i64 1) fun t55 =>
  again [t55] w11)) w10)
  (addK .i64 v0 (.int .i64 1) fun t57 =>
  LoopK [(.int .i64 0)] (fun vs_5 again_1 w12 => ∀ _h_5 : Env,
  ltK .i64 (nth vs_5 0) t57 fun t59 =>
  condK t59
  (callK Tryd.prog 32 [t26, t40] (fun t63 w13 =>
  addK .i64 v0 (.int .i64 1) fun t65 =>
  subK .i64 t65 (nth vs_5 0) fun t67 =>
  neK .i64 t63 t67 fun t68 =>
  condK t68
  (K (.bool false) w13)
  (callK Tryd.prog 28 [t26, t40] (fun t72 w14 =>
  neK .i64 t72 (.int .i64 0) fun t73 =>
  condK t73
  (K (.bool false) w14)
  (addK .i64 (nth vs_5 0) (.int .i64 1) fun t75_1 =>
  again_1 [t75_1] w14)) w13)) w12)
  (callK Tryd.prog 32 [t26, t40] (fun t78 w15 =>
  eqK .i64 t78 (.int .i64 0) fun t79 =>
  condK t79
  (callK Tryd.prog 34 [t26, t40] (fun t83 w16 =>
  eqK .i64 t83 (.int .i64 5) fun t84 =>
  condK t84
  (callK Tryd.prog 29 [t26] (fun t88 w17 =>
  eqK .i64 t88 (.int .i64 1) fun t89 =>
  condK t89
  (callK Tryd.prog 24 [] (fun t92 w18 =>
  K t92 w18) w17)
  (K (.bool false) w17)) w16)
  (K (.bool false) w16)) w15)
  (K (.bool false) w15)) w12)) w10)) w9) (fun J_3 =>
  neK .i64 t41 (.int .i64 0) fun t43 =>
  condK t43
  (K (.bool false) w8)
  (ltK .i64 t40 (.int .i64 1) fun t46 =>
  condK t46
  (K (.bool false) w8)
  (J_3 [] w8)))) w7) (fun J_2 =>
  condK v1
  (callK Tryd.prog 33 [(.int .i64 1)] (fun t35 w19 =>
  J_2 [t35] w19) w6)
  (J_2 [t33] w6))) w5) (fun J_1 =>
  neK .i64 t24 (.int .i64 0) fun t28 =>
  condK t28
  (K (.bool false) w4)
  (pnilK t26 fun b31 =>
  condK (.bool b31)
  (K (.bool false) w4)
  (J_1 [] w4)))) w3) w2) w1) (fun J =>
  ltK .i64 v0 (.int .i64 0) fun t13 =>
  condK t13
  (callK Tryd.prog 24 [] (fun t18 w20 =>
  K t18 w20) w)
  (gtK .i64 v0 (.int .i64 50) fun t16 =>
  condK t16
  (callK Tryd.prog 24 [] (fun t18_1 w21 =>
  K t18_1 w21) w)
  (J [] w)))
theorem S9_eq (v0 v1 : Value) (K : Cont) (w : World) : S9 v0 v1 K w = D Tryd.prog okf 94 (bodyOf Tryd.f9) (.node [] [] .nil (.cut [] [(4, 4), (12, 18)] (.node [] [] .nil (.node [] [] (.node [] [] .nil .nil) .nil)) (.node [] [] .nil (.node [] [] .nil (.cut [] [(4, 4), (27, 32)] (.node [] [] .nil (.node [] [] (.node [] [] .nil .nil) .nil)) (.node [] [] .nil (.cut [8] [(8, 8), (34, 35)] (.node [] [] .nil (.node [] [] .nil .nil)) (.node [] [] .nil (.cut [] [(4, 4), (42, 47)] (.node [] [] .nil (.node [] [] (.node [] [] .nil .nil) .nil)) (.node [] [] (.node [] [] .nil (.node [49] [(4, 4), (49, 55)] (.node [] [] .nil (.node [] [] (.node [] [] .nil .nil) (.node [] [] (.node [] [] .nil (.node [] [] (.node [] [] .nil .nil) .nil)) .nil))) .nil)) (.node [] [] (.node [] [] .nil (.node [58] [(4, 4), (11, 11), (58, 75)] (.node [] [] .nil (.node [] [] (.node [] [] .nil .nil) (.node [] [] (.node [] [] .nil (.node [] [] .nil (.node [] [] (.node [] [] .nil .nil) .nil))) .nil))) .nil)) (.node [] [] .nil .nil)))))))))))) (retK Tryd.prog [.tmp 4] K) (nth [v0, v1]) w := by kernel_rfl
theorem S9_ok {v0 v1 : Value} {K : Cont} {w : World} (h : S9 v0 v1 K w) : callK Tryd.prog 9 [v0, v1] K w :=
  callK_of (P := Tryd.prog) (ok := okf) (n := 94) (fn := Tryd.f9) (c := bodyOf Tryd.f9) (rs := [.tmp 4]) (an := (.node [] [] .nil (.cut [] [(4, 4), (12, 18)] (.node [] [] .nil (.node [] [] (.node [] [] .nil .nil) .nil)) (.node [] [] .nil (.node [] [] .nil (.cut [] [(4, 4), (27, 32)] (.node [] [] .nil (.node [] [] (.node [] [] .nil .nil) .nil)) (.node [] [] .nil (.cut [8] [(8, 8), (34, 35)] (.node [] [] .nil (.node [] [] .nil .nil)) (.node [] [] .nil (.cut [] [(4, 4), (42, 47)] (.node [] [] .nil (.node [] [] (.node [] [] .nil .nil) .nil)) (.node [] [] (.node [] [] .nil (.node [49] [(4, 4), (49, 55)] (.node [] [] .nil (.node [] [] (.node [] [] .nil .nil) (.node [] [] (.node [] [] .nil (.node [] [] (.node [] [] .nil .nil) .nil)) .nil))) .nil)) (.node [] [] (.node [] [] .nil (.node [58] [(4, 4), (11, 11), (58, 75)] (.node [] [] .nil (.node [] [] (.node [] [] .nil .nil) (.node [] [] (.node [] [] .nil (.node [] [] .nil (.node [] [] (.node [] [] .nil .nil) .nil))) .nil))) .nil)) (.node [] [] .nil .nil))))))))))))) good mixed Tryd.func9 (by kernel_rfl) (by kernel_rfl) (by kernel_rfl) (by kernel_rfl) (Eq.mp (S9_eq v0 v1 K w) h)

/-- (*rubric/intern.Table).All$1 -/
def S56 (v0 v1 : Value) (K : Cont) (w : World) : Prop :=
  ld1K v1 (fun t5 w1 =>
  lenK t5 fun t6 =>
  LoopK [(.int .i64 0)] (fun vs again w2 => ∀ _h : Env,
  ltK .i64 (nth vs 0) t6 fun t8 =>
  condK t8
  (ixK 1 t5 (nth vs 0) fun t9 =>
  ld1K t9 (fun t10 w3 =>
  callyK Tryd.prog okf v0 [t10] (fun t13 w4 =>
  notK t13 fun t14 =>
  condK t14
  (K (.tuple #[]) w4)
  (addK .i64 (nth vs 0) (.int .i64 1) fun t15 =>
  again [t15] w4)) w3) w2)
  (K (.tuple #[]) w2)) w1) w
theorem S56_eq (v0 v1 : Value) (K : Cont) (w : World) : S56 v0 v1 K w = D Tryd.prog okf 16 (bodyOf Tryd.f56) (.node [] [] .nil (.node [7] [(4, 4), (7, 15)] (.node [] [] .nil (.node [] [] (.node [] [] .nil .nil) (.node [] [] (.node [] [] .nil (.node [] [] .nil (.node [] [] .nil .nil))) .nil))) .nil)) (retK Tryd.prog [] K) (nth [v0, v1]) w := by kernel_rfl
theorem S56_ok {v0 v1 : Value} {K : Cont} {w : World} (h : S56 v0 v1 K w) : callK Tryd.prog 56 [v0, v1] K w :=
  callK_of (P := Tryd.prog) (ok := okf) (n := 16) (fn := Tryd.f56) (c := bodyOf Tryd.f56) (rs := []) (an := (.node [] [] .nil (.node [7] [(4, 4), (7, 15)] (.node [] [] .nil (.node [] [] (.node [] [] .nil .nil) (.node [] [] (.node [] [] .nil (.node [] [] .nil (.node [] [] .nil .nil))) .nil))) .nil))) good mixed Tryd.func56 (by kernel_rfl) (by kernel_rfl) (by kernel_rfl) (by kernel_rfl) (Eq.mp (S56_eq v0 v1 K w) h)

end Go.Proofs.YtmfplfaeibehiaaDoor

namespace Go.Proofs.YtmfplfaeibehiaaDoor
open Go Go.K

theorem elem_byte : ElemOK Tryd.prog 54 5 1 1 := ⟨Tryd.t5, .int .u8 0, by kernel_rfl, by kernel_rfl, by kernel_rfl, by kernel_rfl, by kernel_rfl, by rfl, by decide⟩
theorem RByte.one {w : World} {r : List Value} {x : Int} (h : RByte w r x) : ∀ u ∈ r, u.oneCell' = true := by
  subst h; intro u hu; simp at hu; subst hu; rfl
abbrev OBytes (B : Nat) (w : World) (v : Value) (l : List Int) : Prop := OwnR B 5 1 RByte w v l
theorem wrapu8 {x : Int} (h0 : 0 ≤ x) (h1 : x < 256) : IntKind.u8.wrap x = x := by
  have e1 : (2 : Int) ^ IntKind.u8.bits = 256 := by decide
  simp only [IntKind.wrap, e1, IntKind.signed, Bool.false_and]
  rw [if_neg (by decide)]
  omega
theorem wrapu8_mod {x : Int} : IntKind.u8.wrap x = x % 256 := by
  have e1 : (2 : Int) ^ IntKind.u8.bits = 256 := by decide
  simp only [IntKind.wrap, e1, IntKind.signed, Bool.false_and]
  rw [if_neg (by decide)]
theorem or128 : ∀ a : Nat, a < 256 → (a ||| 128) = a % 128 + 128 := by decide +kernel
theorem run_or8 {t : TypeId} {xo yo : Operand} {a : Int} (w : World) (h0 : 0 ≤ a) (h1 : a < 256) : (binS .or t xo yo (.int .u8 a) (.int .u8 128)).run Tryd.prog w = .ok (.int .u8 (a % 128 + 128)) w := by
  rw [(run_bits w).1]
  have e : ((BitVec.ofInt IntKind.u8.bits a ||| BitVec.ofInt IntKind.u8.bits 128).toNat : Int) = ((a.toNat ||| 128 : Nat) : Int) := by
    show ((BitVec.ofInt 8 a ||| BitVec.ofInt 8 128).toNat : Int) = _
    rw [BitVec.toNat_or, BitVec.toNat_ofInt, BitVec.toNat_ofInt]
    have e : ((2 ^ 8 : Nat) : Int) = 256 := by decide
    rw [e, Int.emod_eq_of_lt h0 h1]
    rfl
  rw [e, or128 _ (by omega), wrapu8 (by omega) (by omega)]
  congr 2
  omega
theorem clone_bytes {S : Nat → Prop} {v : Value} {l : List Int} {w : World} (h : RBytes S w v l) (hl : l.length ≤ 1099511627776) :
    callK Tryd.prog 87 [v] (fun v' w' => OBytes w.heap.size w' v' l ∧ Grow w w') w := by
  apply S87_ok
  unfold S87
  obtain ⟨a, c, rfl, hm⟩ := h.shape
  rw [snilK_i]
  cases a with
  | none =>
    have : l = [] := by
      cases l with
      | nil => rfl
      | cons x l => obtain ⟨p, r, e, _⟩ := h.get (i := 0) (by simp); cases e
    subst this
    exact condK_t ⟨OwnR.nil, Mod.refl _ _⟩
  | some p =>
    refine condK_f ?_
    refine rowK_empty ?_
    have hg : Grow w (w.alloc (.cells #[] 5)) := Mod.alloc _ _ _
    have ho : OBytes w.heap.size (w.alloc (.cells #[] 5)) (.slice (some ⟨w.heap.size, 0, none⟩) 0 0) [] := OwnR.made (Nat.le_refl _)
    obtain ⟨v', w', h1, h2, h3, h4⟩ := OwnR.append (ty := 54) elem_byte ho (h.grow hg (by decide) fun _ _ h => h) (fun _ _ => RByte.one) (by simp; omega) (by simp) (by simpa using hm) (fun _ _ _ _ h => h)
    refine runK_i h1 ⟨?_, hg.next (Mod.of_grownBy h3) ?_⟩
    · refine h2.base fun g hg' => ?_
      rcases h4 g hg' with h | h
      · cases h; exact Nat.le_refl _
      · simp only [World.size_alloc] at h; omega
    · intro b hb e; simp only [Value.ownBlock, Option.some.injEq] at e; omega
theorem conv64_8 {n : Int} {K : Cont} {w : World} (h : K (.int .u8 (n % 256)) w) : runK Tryd.prog (convert 28 5 (.int .u64 n)) K w := by
  refine runK_i (run_conv (k := .u8) w (by kernel_rfl) (by kernel_rfl)) ?_
  rw [wrapu8_mod]; exact h
theorem auint_ok {S : Nat → Prop} {v : Value} {l : List Int} {n : Nat} {w : World} (h : RBytes S w v l) (hl : l.length + 20 ≤ 1099511627776) (hn : n < 18446744073709551616) :
    callK Tryd.prog 68 [v, .int .u64 n] (fun v' w' => OBytes w.heap.size w' v' (l ++ uv n) ∧ Grow w w') w := by
  apply S68_ok
  unfold S68
  refine callK_mono (clone_bytes h (by omega)) ?_
  rintro v1 w1 ⟨o1, g1⟩
  have e128 : (128 : Nat) ^ (9 + 1) = 1180591620717411303424 := by decide
  refine LoopK_i (fun vs W => ∃ (f m : Nat) (pre : List Int) (lv : Value), vs = [lv, .int .u64 m] ∧ uv n = pre ++ uvB f m ∧ m < 128 ^ (f + 1) ∧ m < 18446744073709551616 ∧ pre.length + f = 9 ∧ OBytes w.heap.size W lv (l ++ pre) ∧ Grow w W) (fun vs _ => iOf vs 1)
    ⟨9, n, [], v1, rfl, rfl, by omega, hn, rfl, by rw [List.append_nil]; exact o1, g1⟩ ?_
  rintro vs W ⟨f, m, pre, lv, rfl, hu, hm, hm2, hf, ho, g⟩ _
  simp only [nth_s, nth_z, List.headD_cons, List.tail_cons]
  rw [gtK_i]
  refine condK_p (fun hgt => ?_) fun hle => ?_
  · cases f with
    | zero => simp at hm; omega
    | succ f =>
      have hstep : uvB (f + 1) m = ((m % 128 + 128 : Nat) : Int) :: uvB f (m / 128) := by
        simp only [uvB]; rw [if_neg (by omega)]
      refine conv64_8 (runK_i (run_or8 W (by omega) (by omega)) ?_)
      have e8 : ((m : Int) % 256 % 128 + 128) = ((m % 128 + 128 : Nat) : Int) := by omega
      rw [e8]
      refine push_n (w0 := w) elem_byte ho g (cs := [.int .u8 ((m % 128 + 128 : Nat) : Int)]) (x := ((m % 128 + 128 : Nat) : Int)) (by kernel_rfl) rfl rfl (fun _ _ _ => RByte.one) (fun _ _ _ _ _ _ h => h) (by simp only [List.length_append]; omega) (by simp only [List.length_append, maxLen]; omega) fun v' w' o' g' => ?_
      refine runK_i (run_shr (n := 7) w' (by decide)) ?_
      have e7 : ((m : Int)).fdiv (2 ^ 7) = ((m / 128 : Nat) : Int) := by
        rw [Int.fdiv_eq_ediv_of_nonneg _ (by decide)]; show (m : Int) / 128 = _; omega
      rw [e7]
      refine ⟨⟨f, m / 128, pre ++ [((m % 128 + 128 : Nat) : Int)], v', rfl, by rw [hu, hstep]; simp, ?_, by omega, by simp; omega, by rw [← List.append_assoc]; exact o', g'⟩, ?_⟩
      · rw [Nat.pow_succ] at hm
        exact Nat.div_lt_of_lt_mul (by omega)
      · show (((m / 128 : Nat) : Int)).toNat < ((m : Nat) : Int).toNat
        omega
  · have hend : uvB f m = [(m : Int)] := by
      cases f with
      | zero => rfl
      | succ f => simp only [uvB]; rw [if_pos (by omega)]
    refine conv64_8 ?_
    rw [show ((m : Int) % 256) = m by omega]
    refine push_n (w0 := w) elem_byte ho g (cs := [.int .u8 (m : Int)]) (x := (m : Int)) (by kernel_rfl) rfl rfl (fun _ _ _ => RByte.one) (fun _ _ _ _ _ _ h => h) (by simp only [List.length_append]; omega) (by simp only [List.length_append, maxLen]; omega) fun v' w' o' g' => ?_
    refine ⟨?_, g'⟩
    rw [hu, hend, ← List.append_assoc]; exact o'
theorem run_xor64 {t : TypeId} {xo yo : Operand} {a b : Int} (w : World) (ha : U64 a) (hb : U64 b) : (binS .xor t xo yo (.int .u64 a) (.int .u64 b)).run Tryd.prog w = .ok (.int .u64 ((a.toNat ^^^ b.toNat : Nat) : Int)) w := by
  have e0 : (binS .xor t xo yo (.int .u64 a) (.int .u64 b)).run Tryd.prog w = .ok (.int .u64 (IntKind.u64.wrap (BitVec.ofInt IntKind.u64.bits a ^^^ BitVec.ofInt IntKind.u64.bits b).toNat)) w := by
    simp [binS, eqGuard, binOp, Op.intBits]
  rw [e0]
  have e : ((BitVec.ofInt IntKind.u64.bits a ^^^ BitVec.ofInt IntKind.u64.bits b).toNat : Int) = ((a.toNat ^^^ b.toNat : Nat) : Int) := by
    show ((BitVec.ofInt 64 a ^^^ BitVec.ofInt 64 b).toNat : Int) = _
    unfold U64 at ha hb
    rw [BitVec.toNat_xor, BitVec.toNat_ofInt, BitVec.toNat_ofInt]
    have e : ((2 ^ 64 : Nat) : Int) = 18446744073709551616 := by decide
    rw [e, Int.emod_eq_of_lt ha.1 ha.2, Int.emod_eq_of_lt hb.1 hb.2]
  have hlt : a.toNat ^^^ b.toNat < 2 ^ 64 := Nat.xor_lt_two_pow (by unfold U64 at ha; omega) (by unfold U64 at hb; omega)
  rw [e, wrapu64 ⟨by omega, by omega⟩]
theorem wrapu64_mod {x : Int} : IntKind.u64.wrap x = x % 18446744073709551616 := by
  have e1 : (2 : Int) ^ IntKind.u64.bits = 18446744073709551616 := by decide
  simp only [IntKind.wrap, e1, IntKind.signed, Bool.false_and]
  rw [if_neg (by decide)]
theorem zig_ok {n : Int} {w : World} (h0 : -9223372036854775808 ≤ n) (h1 : n ≤ 9223372036854775807) :
    callK Tryd.prog 86 [.int .i64 n] (fun v' w' => v' = .int .u64 (zigN n : Nat) ∧ w' = w) w := by
  apply S86_ok
  unfold S86
  refine runK_i (run_conv (k := .u64) w (by kernel_rfl) (by kernel_rfl)) ?_
  refine runK_i (run_shl (n := 1) w (by decide)) ?_
  refine runK_i (run_shr (n := 63) w (by decide)) ?_
  refine runK_i (run_conv (k := .u64) w (by kernel_rfl) (by kernel_rfl)) ?_
  have ua : U64 (IntKind.u64.wrap (IntKind.u64.wrap n * 2 ^ 1)) := by
    rw [wrapu64_mod]; exact ⟨by omega, by omega⟩
  have ub : U64 (IntKind.u64.wrap (n.fdiv (2 ^ 63))) := by
    rw [wrapu64_mod]; exact ⟨by omega, by omega⟩
  refine runK_i (run_xor64 w ua ub) ⟨?_, rfl⟩
  congr 1
  rw [wrapu64_mod, wrapu64_mod, wrapu64_mod, Int.fdiv_eq_ediv_of_nonneg _ (by decide)]
  have e63 : ((2 : Int) ^ 63) = 9223372036854775808 := by decide
  have e1 : ((2 : Int) ^ 1) = 2 := by decide
  rw [e63, e1]
  by_cases hn : 0 ≤ n
  · have q : n / 9223372036854775808 = 0 := by omega
    rw [q]
    simp only [Int.zero_emod, Int.toNat_zero, Nat.xor_zero]
    unfold zigN
    rw [if_pos hn]
    omega
  · have q : n / 9223372036854775808 = -1 := by omega
    rw [q]
    have r : ((-1 : Int) % 18446744073709551616).toNat = 2 ^ 64 - 1 := by decide
    rw [r, Nat.xor_comm, Lib.xor_ones64 _ (by omega)]
    unfold zigN
    rw [if_neg hn]
    omega
theorem aint_ok {S : Nat → Prop} {v : Value} {l : List Int} {n : Int} {w : World} (h : RBytes S w v l) (hl : l.length + 20 ≤ 1099511627776) (h0 : -9223372036854775808 ≤ n) (h1 : n ≤ 9223372036854775807) :
    callK Tryd.prog 67 [v, .int .i64 n] (fun v' w' => OBytes w.heap.size w' v' (l ++ uv (zigN n)) ∧ Grow w w') w := by
  apply S67_ok
  unfold S67
  refine callK_mono (zig_ok h0 h1) ?_
  rintro _ _ ⟨rfl, rfl⟩
  exact callK_mono (auint_ok h hl (zigN_lt h0 h1)) fun _ _ h => h
theorem abytes_ok {S S' : Nat → Prop} {v xv : Value} {l x : List Int} {w : World} (h : RBytes S w v l) (hx : RBytes S' w xv x) (hl : l.length + x.length + 40 ≤ 1099511627776) :
    callK Tryd.prog 69 [v, xv] (fun v' w' => OBytes w.heap.size w' v' (l ++ (uv x.length ++ x)) ∧ Grow w w') w := by
  apply S69_ok
  unfold S69
  obtain ⟨a, c, rfl, _⟩ := hx.shape
  rw [lenK_i]
  refine runK_i (run_conv (k := .u64) w (by kernel_rfl) (by kernel_rfl)) ?_
  rw [wrapu64 ⟨by omega, by omega⟩]
  refine callK_mono (auint_ok h (by omega) (by omega)) ?_
  rintro v1 w1 ⟨o1, g1⟩
  have hul : (uv x.length).length ≤ 10 := (uvB_len 9 x.length).2
  obtain ⟨v', w', h1, h2, h3, h4⟩ := OwnR.append (ty := 54) elem_byte o1 (hx.grow g1 (by decide) fun _ _ h => h) (fun _ _ => RByte.one) (by simp only [List.length_append]; omega) g1.size (by simp only [List.length_append, maxLen]; omega) (fun _ _ _ _ h => h)
  refine runK_i h1 ⟨?_, g1.next (Mod.of_grownBy h3) fun b hb e => by have := (OwnR.ownB o1 b e).1; omega⟩
  rw [List.append_assoc] at h2
  exact h2
end Go.Proofs.YtmfplfaeibehiaaDoor

namespace Go.Proofs.YtmfplfaeibehiaaDoor
open Go Go.K

theorem ext_bits {n : Nat} {w : World} : (callFunc 83 #[.float .f64 n]).run Tryd.prog w = .ok (.value (.int .u64 n)) w := by
  have h : Tryd.prog.funcs[83]? = some Tryd.f83 := Tryd.func83
  have e0 : (Tryd.f83.name == "runtime.NumGoroutine") = false := by kernel_rfl
  have e1 : Tryd.f83.body.isNone = true := by kernel_rfl
  have e2 : Extern.findNext Tryd.f83 = none := by kernel_rfl
  have e3 : Extern.find Tryd.f83 = some Extern.MathFloatBits.float64bits := by kernel_rfl
  simp only [callFunc, program, mark, Sem.run_bind, Sem.run, Result.andThen, h, e0, e1, e2, e3, Bool.false_eq_true, if_false, if_true]
  rfl
theorem ext_from {n : Int} {w : World} : (callFunc 63 #[.int .u64 n]).run Tryd.prog w = .ok (.value (.float .f64 n.toNat)) w := by
  have h : Tryd.prog.funcs[63]? = some Tryd.f63 := Tryd.func63
  have e0 : (Tryd.f63.name == "runtime.NumGoroutine") = false := by kernel_rfl
  have e1 : Tryd.f63.body.isNone = true := by kernel_rfl
  have e2 : Extern.findNext Tryd.f63 = none := by kernel_rfl
  have e3 : Extern.find Tryd.f63 = some Extern.MathFloatBits.float64frombits := by kernel_rfl
  simp only [callFunc, program, mark, Sem.run_bind, Sem.run, Result.andThen, h, e0, e1, e2, e3, Bool.false_eq_true, if_false, if_true]
  rfl
theorem isnan_ok {n : Nat} {w : World} : callK Tryd.prog 82 [.float .f64 n] (fun v w' => v = .bool (decide (NoNum (n : Int))) ∧ w' = w) w := by
  apply S82_ok
  unfold S82
  refine runK_i (v := .bool (decide (NoNum (n : Int)))) (w' := w) ?_ ⟨rfl, rfl⟩
  rw [← order_self]
  simp [binS, eqGuard, binOp, Op.floatCmp]
theorem flag_ok {b : Bool} {w : World} : callK Tryd.prog 60 [.bool b] (fun v w' => v = .agg (⟨1, if b then 1 else 0, 0, noS⟩ : AVal).cells.toArray ∧ Grow w w') w := by
  apply S60_ok
  unfold S60
  refine newz_i fun b2 w1 hb2 hz2 g2 _ hl2 => ?_
  refine ⟨(⟨1, 0, 0, noS⟩ : AVal).cells.toArray, by kernel_rfl, ?_⟩
  refine newst_n (vs := (⟨1, 0, 0, noS⟩ : AVal).cells) rfl rfl (AVal.one _) fun b3 w2 hb3 hz3 g3 hc3 hl3 => ?_
  have g23 := g2.trans g3
  cases b with
  | true =>
    refine condK_t ?_
    rw [faK_i]
    refine (hl3 1 (by decide)).st rfl rfl ?_
    rw [addr0]
    have m := Mod.setCell (M := fun x => x = b3) w2 ⟨b3, 1, none⟩ (.int .i64 1) rfl
    have hc : ∀ j u, (⟨1, 1, 0, noS⟩ : AVal).cells[j]? = some u → (w2.setCell ⟨b3, 1, none⟩ (.int .i64 1)).cell? ((⟨b3, 0, none⟩ : Addr).add j) = some u := by
      intro j u hu
      rw [addr0]
      by_cases e : j = 1
      · subst e
        have h1 := (hl3 1 (by decide)).1
        rw [addr0] at h1
        obtain ⟨u', hu'⟩ := Option.isSome_iff_exists.1 h1
        cases hu
        exact World.cell?_setCell_same _ _ _ hu'
      · rw [World.cell?_setCell_other _ _ _ _ (fun e' => by simp only [Addr.mk.injEq] at e'; exact e e'.2.1.symm)]
        have := hc3 j u (by
          rcases j with _ | _ | _ | _ | j
          · exact hu
          · exact absurd rfl e
          · exact hu
          · exact hu
          · exact hu)
        rwa [addr0] at this
    have hl2' := fun j hj => ((hl2 j hj).mod g3 fun h => h).mod m (fun e => by rw [addr0] at e; have : b2 = b3 := e; omega)
    generalize w2.setCell ⟨b3, 1, none⟩ (.int .i64 1) = w3 at m hc hl2' ⊢
    refine ldnK_i (vs := (⟨1, 1, 0, noS⟩ : AVal).cells) rfl hc ?_
    refine stn_over rfl (AVal.one _) (fun j hj => hl2' j hj) fun w4 m4 hc4 _ => ?_
    refine ldnK_i (vs := (⟨1, 1, 0, noS⟩ : AVal).cells) rfl hc4 ⟨rfl, ?_⟩
    exact (g23.next m fun x hx e => by omega).next m4 fun x hx e => by omega
  | false =>
    refine condK_f ?_
    refine ldnK_i (vs := (⟨1, 0, 0, noS⟩ : AVal).cells) rfl hc3 ?_
    refine stn_over rfl (AVal.one _) (fun j hj => (hl2 j hj).mod g3 fun h => h) fun w4 m4 hc4 _ => ?_
    refine ldnK_i (vs := (⟨1, 0, 0, noS⟩ : AVal).cells) rfl hc4 ⟨rfl, ?_⟩
    exact g23.next m4 fun x hx e => by omega
theorem int_ok {n : Int} {w : World} : callK Tryd.prog 61 [.int .i64 n] (fun v w' => v = .agg (⟨2, n, 0, noS⟩ : AVal).cells.toArray ∧ Grow w w') w := by
  apply S61_ok
  unfold S61
  refine newz_i fun b2 w1 hb2 hz2 g2 _ hl2 => ?_
  refine ⟨(⟨2, n, 0, noS⟩ : AVal).cells.toArray, by kernel_rfl, ?_⟩
  refine stn_over rfl (AVal.one _) (fun j hj => hl2 j hj) fun w4 m4 hc4 _ => ?_
  refine ldnK_i (vs := (⟨2, n, 0, noS⟩ : AVal).cells) rfl hc4 ⟨rfl, ?_⟩
  exact g2.next m4 fun x hx e => by omega
theorem float_ok {n : Nat} {w : World} : callK Tryd.prog 62 [.float .f64 n] (fun v w' => v = .agg (⟨3, 0, if NoNum (n : Int) then 9221120237041090560 else n, noS⟩ : AVal).cells.toArray ∧ Grow w w') w := by
  apply S62_ok
  unfold S62
  refine newz_i fun b2 w1 hb2 hz2 g2 _ hl2 => ?_
  refine callK_mono isnan_ok ?_
  rintro _ _ ⟨rfl, rfl⟩
  rename World => w1
  by_cases hn : NoNum (n : Int)
  · rw [decide_eq_true hn]
    refine condK_t ⟨(⟨3, 0, 9221120237041090560, noS⟩ : AVal).cells.toArray, by kernel_rfl, ?_⟩
    refine stn_over rfl (AVal.one _) (fun j hj => hl2 j hj) fun w4 m4 hc4 _ => ?_
    refine ldnK_i (vs := (⟨3, 0, 9221120237041090560, noS⟩ : AVal).cells) rfl hc4 ⟨by rw [if_pos hn], ?_⟩
    exact g2.next m4 fun x hx e => by omega
  · rw [decide_eq_false hn]
    refine condK_f ⟨_, _, ext_bits, ?_⟩
    refine ⟨(⟨3, 0, (n : Int), noS⟩ : AVal).cells.toArray, by kernel_rfl, ?_⟩
    refine stn_over rfl (AVal.one _) (fun j hj => hl2 j hj) fun w4 m4 hc4 _ => ?_
    refine ldnK_i (vs := (⟨3, 0, (n : Int), noS⟩ : AVal).cells) rfl hc4 ⟨by rw [if_neg hn], ?_⟩
    exact g2.next m4 fun x hx e => by omega
/-- whether a text may be a value's -/
def TextOK (s : ByteArray) : Prop := s.size ≤ 64 ∧ (readB (bytesL s)).isSome = true
instance (s : ByteArray) : Decidable (TextOK s) := by unfold TextOK; infer_instance
theorem bytesL_byte (s : ByteArray) : ByteL (bytesL s) := fun x hx => by
  simp only [bytesL, List.mem_map] at hx
  obtain ⟨b, _, rfl⟩ := hx
  have := b.toNat_lt
  omega
theorem text_ok {s : ByteArray} {w : World} (hT : Tabs w) : callK Tryd.prog 64 [.string s] (fun v w' => v = (if TextOK s then .tuple #[.agg (⟨4, 0, 0, s⟩ : AVal).cells.toArray, .int .i64 0] else .tuple #[.agg (⟨0, 0, 0, noS⟩ : AVal).cells.toArray, .int .i64 3]) ∧ Grow w w') w := by
  apply S64_ok
  unfold S64
  refine newz_i fun b2 w1 hb2 hz2 g2 _ hl2 => ?_
  rw [slenK_i, gtK_i]
  refine condK_p (fun hbig => ?_) fun hle => ?_
  · refine ⟨(⟨0, 0, 0, noS⟩ : AVal).cells.toArray, by kernel_rfl, ?_⟩
    refine stn_over rfl (AVal.one _) (fun j hj => hl2 j hj) fun w4 m4 hc4 _ => ?_
    refine ldnK_i (vs := (⟨0, 0, 0, noS⟩ : AVal).cells) rfl hc4 ⟨by rw [if_neg (fun h => by have := h.1; omega)], ?_⟩
    exact g2.next m4 fun x hx e => by omega
  · refine strbytes (by omega) fun v3 w3 g3 hb3 => ?_
    have g23 := g2.trans g3
    have hl3 : ∀ j, j < 4 → Live w3 ((⟨b2, 0, none⟩ : Addr).add j) := fun j hj => (hl2 j hj).mod g3 fun h => h
    refine callK_mono (runes_ok hb3 (bytesL_byte s) (hT.grow g23) (by rw [bytesL_len]; omega)) ?_
    rintro v5 w5 ⟨g5, hm⟩
    have hl5 : ∀ j, j < 4 → Live w5 ((⟨b2, 0, none⟩ : Addr).add j) := fun j hj => (hl3 j hj).mod g5 fun h => h
    have g25 := g23.trans g5
    cases hr : readB (bytesL s) with
    | none =>
      rw [hr] at hm
      subst hm
      refine extK_i (vs := [_, _]) (by rfl) (extK_i (vs := [_, _]) (by rfl) ?_)
      rw [neK_i]
      refine condK_neg (fun e => by cases e) fun _ => ?_
      refine ⟨(⟨0, 0, 0, noS⟩ : AVal).cells.toArray, by kernel_rfl, ?_⟩
      refine stn_over rfl (AVal.one _) (fun j hj => hl5 j hj) fun w6 m6 hc6 _ => ?_
      refine ldnK_i (vs := (⟨0, 0, 0, noS⟩ : AVal).cells) rfl hc6 ⟨by rw [if_neg (fun h => by have := h.2; rw [hr] at this; cases this)], ?_⟩
      exact g25.next m6 fun x hx e => by omega
    | some l =>
      rw [hr] at hm
      obtain ⟨sl, rfl, _⟩ := hm
      refine extK_i (vs := [_, _]) (by rfl) (extK_i (vs := [_, _]) (by rfl) ?_)
      rw [neK_i]
      refine condK_neg (fun _ => ?_) fun e => (e rfl).elim
      refine ⟨(⟨4, 0, 0, s⟩ : AVal).cells.toArray, by kernel_rfl, ?_⟩
      refine stn_over rfl (AVal.one _) (fun j hj => hl5 j hj) fun w6 m6 hc6 _ => ?_
      refine ldnK_i (vs := (⟨4, 0, 0, s⟩ : AVal).cells) rfl hc6 ⟨by rw [if_pos ⟨by omega, by rw [hr]; rfl⟩], ?_⟩
      exact g25.next m6 fun x hx e => by omega
theorem vmay_ok {v : AVal} {w : World} (hT : Tabs w) (h0 : 0 ≤ v.f) :
    callK Tryd.prog 46 [.agg v.cells.toArray] (fun v' w' => v' = .bool (decide (ValOK v)) ∧ Grow w w') w := by
  apply S46_ok
  unfold S46
  refine boxn_i fun b w1 _ hz g hc _ => ?_
  have l0 := hc 0 _ rfl
  have l1 := hc 1 _ rfl
  have l2 := hc 2 _ rfl
  have l3 := hc 3 _ rfl
  have key : ∀ (b : Bool) w', Grow w w' → (b = true ↔ ValOK v) → Value.bool b = .bool (decide (ValOK v)) ∧ Grow w w' := fun b w' g h => ⟨by congr 1; rw [Bool.eq_iff_iff, h, decide_eq_true_eq], g⟩
  have no : ∀ w', Grow w w' → ¬ ValOK v → Value.bool false = .bool (decide (ValOK v)) ∧ Grow w w' := fun w' g h => key false w' g (by simp only [Bool.false_eq_true, false_iff]; exact h)
  have hall : ∀ j u, v.cells[j]? = some u → w1.cell? ((⟨b, 0, none⟩ : Addr).add j) = some u := hc
  simp only [faK_i]
  refine ld1K_i l0 ?_
  rw [eqK_i]
  refine condK_p (fun k1 => ?_) fun k1 => ?_
  · refine drawK_i (fun w2 => Grow w1 w2) (Mod.drew _ _) ?_
    refine qldnK_i (vs := v.cells) rfl (fun w2 g2 j u hu => g2.cell (hall j u hu) fun h => h) (qld1K_i (fun w2 g2 => g2.cell l1 fun h => h) ?_)
    rw [eqK_i]
    refine ⟨_, fun w2 g2 => callK_mono flag_ok (by rintro _ w3 ⟨rfl, g3⟩; exact ⟨rfl, g2.trans g3⟩), ?_⟩
    refine ⟨_, fun w2 _ => run_eq_val _ _ v ⟨1, if decide (v.n = 1) then 1 else 0, 0, noS⟩ w2, ?_⟩
    intro w3 g3
    refine key _ _ (g.trans g3) ?_
    rw [decide_eq_true_eq]
    constructor
    · intro e
      refine .inl ⟨k1, ?_, ?_⟩
      · by_cases h1 : v.n = 1
        · rw [h1]; simpa [h1] using e
        · have en : v.n = 0 := by rw [e]; simp [h1]
          rw [en]; simpa [h1] using e
      · by_cases h1 : v.n = 1
        · exact .inr h1
        · left; rw [e]; simp [h1]
    · rintro (h | h | h | h)
      · obtain ⟨_, e, hn⟩ := h
        rcases hn with hn | hn
        · rw [hn] at e ⊢; exact e
        · rw [hn] at e ⊢; exact e
      · omega
      · omega
      · omega
  rw [eqK_i]
  refine condK_p (fun k2 => ?_) fun k2 => ?_
  · refine drawK_i (fun w2 => Grow w1 w2) (Mod.drew _ _) ?_
    refine qldnK_i (vs := v.cells) rfl (fun w2 g2 j u hu => g2.cell (hall j u hu) fun h => h) (qld1K_i (fun w2 g2 => g2.cell l1 fun h => h) ?_)
    refine ⟨_, fun w2 g2 => callK_mono int_ok (by rintro _ w3 ⟨rfl, g3⟩; exact ⟨rfl, g2.trans g3⟩), ?_⟩
    refine ⟨_, fun w2 _ => run_eq_val _ _ v ⟨2, v.n, 0, noS⟩ w2, ?_⟩
    intro w3 g3
    refine key _ _ (g.trans g3) ?_
    rw [decide_eq_true_eq]
    refine ⟨fun h => .inr (.inl ⟨k2, h⟩), fun h => ?_⟩
    rcases h with h | h | h | h
    · omega
    · exact h.2
    · omega
    · omega
  rw [eqK_i]
  refine condK_p (fun k3 => ?_) fun k3 => ?_
  · refine drawK_i (fun w2 => Grow w1 w2) (Mod.drew _ _) ?_
    refine qldnK_i (vs := v.cells) rfl (fun w2 g2 j u hu => g2.cell (hall j u hu) fun h => h) (qld1K_i (fun w2 g2 => g2.cell l2 fun h => h) ?_)
    refine ⟨_, fun w2 _ => ext_from, ?_⟩
    refine ⟨_, fun w2 g2 => callK_mono float_ok (by rintro _ w3 ⟨rfl, g3⟩; exact ⟨rfl, g2.trans g3⟩), ?_⟩
    refine ⟨_, fun w2 _ => run_eq_val _ _ v _ w2, ?_⟩
    intro w3 g3
    refine key _ _ (g.trans g3) ?_
    have ef : ((v.f.toNat : Nat) : Int) = v.f := by omega
    rw [decide_eq_true_eq, ef]
    constructor
    · intro e
      refine .inr (.inr (.inl ⟨k3, ?_, ?_⟩))
      · by_cases hn : NoNum v.f
        · rw [if_pos hn] at e
          have e2 : v.f = 9221120237041090560 := congrArg AVal.f e
          rw [e2]; exact e
        · rw [if_neg hn] at e; exact e
      · by_cases hn : NoNum v.f
        · rw [if_pos hn] at e
          exact .inr (congrArg AVal.f e)
        · exact .inl hn
    · rintro (h | h | h | h)
      · omega
      · omega
      · obtain ⟨_, e, hn⟩ := h
        by_cases hh : NoNum v.f
        · rw [if_pos hh]
          rw [hn.resolve_left fun x => x hh] at e
          exact e
        · rw [if_neg hh]; exact e
      · omega
  rw [eqK_i]
  refine condK_p (fun k4 => ?_) fun k4 => no _ g ?_
  · refine ld1K_i l3 (callK_mono (text_ok (hT.grow g)) ?_)
    rintro v3 w3 ⟨rfl, g3⟩
    have g03 := g.trans g3
    by_cases hx : TextOK v.s
    · rw [if_pos hx]
      refine extK_i (vs := [_, _]) (by rfl) (extK_i (vs := [_, _]) (by rfl) ?_)
      refine newst_n (vs := (⟨4, 0, 0, v.s⟩ : AVal).cells) rfl rfl (AVal.one _) fun b4 w4 _ _ g4 hc4 _ => ?_
      rw [eqK_i]
      refine condK_p (fun _ => ?_) fun e => (e rfl).elim
      refine ldnK_i (vs := v.cells) rfl (fun j u hu => (g3.trans g4).cell (hall j u hu) fun h => h) ?_
      refine ldnK_i (vs := (⟨4, 0, 0, v.s⟩ : AVal).cells) rfl hc4 (runK_i (run_eq_val _ _ v ⟨4, 0, 0, v.s⟩ w4) ?_)
      refine key _ _ (g03.trans g4) ?_
      rw [decide_eq_true_eq]
      refine ⟨fun e => .inr (.inr (.inr ⟨k4, e, hx.1, hx.2⟩)), fun h => ?_⟩
      rcases h with h | h | h | h
      · omega
      · omega
      · omega
      · exact h.2.1
    · rw [if_neg hx]
      refine extK_i (vs := [_, _]) (by rfl) (extK_i (vs := [_, _]) (by rfl) ?_)
      refine newst_n (vs := (⟨0, 0, 0, noS⟩ : AVal).cells) rfl rfl (AVal.one _) fun b4 w4 _ _ g4 hc4 _ => ?_
      rw [eqK_i]
      refine condK_p (fun e => by cases e) fun _ => no _ (g03.trans g4) ?_
      rintro (h | h | h | h)
      · omega
      · omega
      · omega
      · exact hx ⟨h.2.2.1, h.2.2.2⟩
  · rintro (h | h | h | h)
    · exact k1 h.1
    · exact k2 h.1
    · exact k3 h.1
    · exact k4 h.1
end Go.Proofs.YtmfplfaeibehiaaDoor

namespace Go.Proofs.YtmfplfaeibehiaaDoor
open Go Go.K

theorem filt_len {ks : List DKey} {f : DKey → Bool} (n : Nat) : ((ks.take n).filter f).length ≤ ks.length := Nat.le_trans (List.length_filter_le _ _) (by rw [List.length_take]; omega)
theorem sgroup_ok {D : Nat → Prop} {v : Value} {ks : List DKey} {w : World} (h : SchR D w v ks) (hl : ks.length ≤ 1099511627776) (id : Int) :
    callK Tryd.prog 21 [v, .int .i64 id] (fun v' w' => OwnR w.heap.size 3 1 RNum w' v' (groupK ks id) ∧ Grow w w') w := by
  apply S21_ok
  unfold S21
  refine callK_mono (sfind_ok h id) ?_
  rintro _ w1 ⟨rfl, g1⟩
  refine extK_i (vs := [_, _]) (by rfl) (extK_i (vs := [_, _]) (by rfl) ?_)
  generalize hk : (findK ks id).getD DKey.zero = k
  refine newst_n (vs := k.cells) rfl rfl (RKey.one (w := w) (x := k) rfl) fun b5 w3 hb5 hz5 g5 hc5 _ => ?_
  have g3 := g1.trans g5
  have none' : groupK ks id = [] → (∀ w', Grow w w' → (fun v' w' => OwnR w.heap.size 3 1 RNum w' v' (groupK ks id) ∧ Grow w w') (Value.slice none 0 0) w') := fun e w' g => ⟨by rw [e]; exact OwnR.nil, g⟩
  refine JoinK_i (fun _ w4 => w4 = w3 ∧ findK ks id = some k ∧ k.group ≠ 0) ?_ ?_
  · rintro _ _ ⟨rfl, hf, h0⟩ _
    rename World => w3
    obtain ⟨b, m, kv, l, rfl, _, _, h3, h4, h5, h6, h7⟩ := h.grow g3
    refine nilckK_s ?_
    rw [faK_i]
    refine ld1K_i (by rw [addr0]; exact h3) ?_
    obtain ⟨a, c, rfl, hm⟩ := h5.shape
    simp only [maxLen] at hm
    rw [lenK_i]
    have hG : groupK ks id = (ks.filter fun o => decide (o.group = k.group ∧ o.id ≠ id)).map (·.id) := by
      unfold groupK; rw [hf]; exact if_neg h0
    rw [hG]
    generalize hp : (fun o : DKey => decide (o.group = k.group ∧ o.id ≠ id)) = p
    have hpd : ∀ o : DKey, p o = true ↔ o.group = k.group ∧ o.id ≠ id := fun o => by rw [← hp]; exact decide_eq_true_iff
    refine LoopK_i (fun vs w6 => ∃ (i : Nat) (ov : Value), i ≤ ks.length ∧ vs = [ov, .int .i64 i] ∧ OwnR w3.heap.size 3 1 RNum w6 ov (((ks.take i).filter p).map (·.id)) ∧ Grow w3 w6) (fun vs _ => ks.length - iOf vs 1)
      ⟨0, _, Nat.zero_le _, rfl, OwnR.nil, Mod.refl _ _⟩ ?_
    rintro vs w6 ⟨i, ov, hi, rfl, ho, g6⟩ _
    show ltK .i64 (.int .i64 i) _ _
    rw [ltK_i]
    refine condK_p (fun hlt => ?_) fun hge => ?_
    · have hlt' : i < ks.length := by omega
      have e1 : (ks.take (i + 1)).filter p = (ks.take i).filter p ++ (if p ks[i] = true then [ks[i]] else []) := by
        rw [List.take_add_one, List.getElem?_eq_getElem hlt', List.filter_append]
        simp [List.filter_cons]
      have hfl : ((ks.take i).filter p).length ≤ ks.length := filt_len i
      refine JoinK_i (fun vs w7 => ∃ ov', vs = [ov'] ∧ OwnR w3.heap.size 3 1 RNum w7 ov' (((ks.take (i + 1)).filter p).map (·.id)) ∧ Grow w3 w7) ?_ ?_
      · rintro _ w7 ⟨ov', rfl, ho', g7⟩ _
        show addK .i64 (.int .i64 i) _ _
        rw [addK_i, loop_step (by omega)]
        exact ⟨⟨i + 1, ov', hlt', rfl, ho', g7⟩, by rw [iOf1, iOf1]; omega⟩
      · obtain ⟨q, r, rfl, _, hr, hc, rfl⟩ := (h5.grow g6 (by decide) fun _ _ h => h).get hlt'
        refine ixK_n hlt' (ldnK_i hr (fun j u hu => by rw [Addr.add_add]; exact hc j u hu) ?_)
        refine newst_n (vs := ks[i].cells) rfl rfl (RKey.one (w := w) (x := ks[i]) rfl) fun b9 w10 hb9 hz9 g9 hc9 _ => ?_
        have g10 := g6.trans g9
        have ho10 : OwnR w3.heap.size 3 1 RNum w10 ov (((ks.take i).filter p).map (·.id)) := OwnR.mod ho g9 (fun _ _ h => h) fun _ _ _ h => h
        have skip : p ks[i] = false → ∃ ov', [ov] = [ov'] ∧ OwnR w3.heap.size 3 1 RNum w10 ov' (((ks.take (i + 1)).filter p).map (·.id)) ∧ Grow w3 w10 := fun e => ⟨ov, rfl, by rw [e1, e]; simpa using ho10, g10⟩
        have pf : ¬ (ks[i].group = k.group ∧ ks[i].id ≠ id) → p ks[i] = false := fun hn => by
          cases hb : p ks[i] with
          | false => rfl
          | true => exact (hn ((hpd _).1 hb)).elim
        simp only [faK_i]
        refine ld1K_i (hc9 5 _ rfl) (ld1K_i (g10.cell (hc5 5 _ rfl) fun h => h) ?_)
        rw [eqK_i]
        refine condK_p (fun he => ?_) fun he => skip (pf fun h => he h.1)
        refine ld1K_i (hc9 0 _ rfl) ?_
        rw [neK_i]
        refine condK_neg (fun hn => skip (pf fun h => h.2 hn)) fun hn => ?_
        refine ld1K_i (hc9 0 _ rfl) ?_
        refine push_n (w0 := w3) elem_int ho10 g10 (cs := [.int .i64 ks[i].id]) (x := ks[i].id) (by kernel_rfl) rfl rfl (fun _ _ _ => RNum.one) (fun _ _ _ _ _ _ h => h) (by rw [List.length_map]; omega) (by rw [List.length_map]; simp only [maxLen]; omega) fun v' w' o' g' => ?_
        refine ⟨v', rfl, ?_, g'⟩
        rw [e1, if_pos ((hpd _).2 ⟨he, hn⟩), List.map_append]
        exact o'
    · have : i = ks.length := by omega
      subst this
      rw [List.take_length] at ho
      exact ⟨ho.base fun g hg => Nat.le_trans g3.size (OwnR.ownB ho g hg).1, g3.trans g6⟩
  · cases hf : findK ks id with
    | none =>
      show notK (.bool false) _
      rw [notK_i]
      exact condK_t (none' (by unfold groupK; rw [hf]) _ g3)
    | some k' =>
      have : k' = k := by rw [hf] at hk; exact hk
      subst this
      show notK (.bool true) _
      rw [notK_i]
      refine condK_f ?_
      rw [faK_i]
      refine ld1K_i (hc5 5 _ rfl) ?_
      rw [eqK_i]
      exact condK_p (fun h0 => none' (by unfold groupK; rw [hf]; exact if_pos h0) _ g3) fun h0 => ⟨rfl, rfl, h0⟩
end Go.Proofs.YtmfplfaeibehiaaDoor

namespace Go.K
open Go

section
variable {α : Type} [Inhabited α]
theorem flatK_toList (enc : α → List Value) (k : Nat) (hk : ∀ x, (enc x).length = k) (d : Array α) : (Sort.flatK enc k d).toList = (d.toList.map enc).flatten := by
  refine List.ext_getElem? fun t => ?_
  have hl : ∀ r ∈ d.toList.map enc, r.length = k := fun r hr => by obtain ⟨x, _, rfl⟩ := List.mem_map.1 hr; exact hk x
  have hfl : (d.toList.map enc).flatten.length = d.size * k := by rw [flat_len _ hl, List.length_map, Array.length_toList]
  by_cases ht : t < d.size * k
  · have k0 : 0 < k := by rcases Nat.eq_zero_or_pos k with h | h; · subst h; simp at ht
                          · exact h
    have hi : t / k < d.size := (Nat.div_lt_iff_lt_mul k0).2 ht
    have h1 := Sort.get_flatK enc k d t ht
    have h2 : (Sort.flatK enc k d).toList[t]? = some (Sort.flatK enc k d)[t]! := by
      have hs : t < (Sort.flatK enc k d).size := by simpa using ht
      rw [Array.getElem?_toList, Array.getElem?_eq_getElem hs, getElem!_pos _ t hs]
    rw [h2, h1]
    have h3 := flat_get (d.toList.map enc) (t / k) (t % k) (enc d[t / k]!) hl (by simp [hi]) (Nat.mod_lt _ k0)
    rw [Nat.div_add_mod' t k] at h3
    rw [h3]
    have hm : t % k < (enc d[t / k]!).length := by rw [hk]; exact Nat.mod_lt _ k0
    rw [List.getElem?_eq_getElem hm, getElem!_pos (enc d[t / k]!) _ hm]
  · rw [List.getElem?_eq_none (by simp; omega), List.getElem?_eq_none (by omega)]
theorem putCells_take (F cur : Array Value) (h : F.size ≤ cur.size) : (Sort.putCells id 0 F cur).size = cur.size ∧ (Sort.putCells id 0 F cur).toList.take F.size = F.toList := by
  refine ⟨by simp [Sort.putCells], List.ext_getElem? fun t => ?_⟩
  by_cases ht : t < F.size
  · rw [List.getElem?_take, if_pos ht, Array.getElem?_toList, Array.getElem?_toList]
    have h1 : t < cur.size := by omega
    simp [Sort.putCells, ht, h1]
  · rw [List.getElem?_take, if_neg ht, List.getElem?_eq_none (by simp; omega)]
theorem sortWorld_heap {enc : α → List Value} {k : Nat} {w : World} {g m e : Nat} {d : Array α} {os : Array Obj} {cur : Array Value} (hg : w.heap[g]? = some (.cells cur e (0, 0))) :
    (Go.Proofs.sortWorldK enc k w g 0 m d os).heap[g]? = some (.cells (Sort.putCells id 0 (Sort.flatK enc k d) cur) e (0, 0)) ∧ Mod (fun b => b = g) w (Go.Proofs.sortWorldK enc k w g 0 m d os) := by
  have hlt : g < w.heap.size := (Array.getElem?_eq_some_iff.1 hg).1
  have hsz : (w.heap.modify g (Sort.onCells (Sort.putCells id 0 (Sort.flatK enc k d)))).size = w.heap.size := by simp
  have eh : (Go.Proofs.sortWorldK enc k w g 0 m d os).heap = w.heap.modify g (Sort.onCells (Sort.putCells id 0 (Sort.flatK enc k d))) ++ os := rfl
  refine ⟨?_, ⟨rfl, rfl, rfl, by rw [eh, Array.size_append, hsz]; omega, fun b hb hn => ?_⟩⟩
  · rw [eh, Array.getElem?_append_left (by rw [hsz]; exact hlt), Array.getElem?_modify, if_pos rfl, hg]; rfl
  · rw [eh, Array.getElem?_append_left (by rw [hsz]; exact hb), Array.getElem?_modify, if_neg (fun h => hn h.symm)]
/-- a row of one's own holds what the sort's contract asks; and behind the sort it is one of one's own -/
theorem OwnR.sorted {B e k : Nat} {R : World → List Value → α → Prop} {enc : α → List Value} (hk : ∀ x, (enc x).length = k) (h1 : ∀ x, ∀ v ∈ enc x, v.oneCell' = true) (hR : ∀ w r x, R w r x ↔ r = enc x) {w : World} {g n c : Nat} {l : List α} (h : OwnR B e k R w (.slice (some ⟨g, 0, none⟩) n c) l) :
    n = l.length ∧ g < w.heap.size ∧ Sort.HoldsK enc k w g 0 l.toArray ∧ ∀ (m : Nat) (d : Array α) (os : Array Obj), d.size = l.length → OwnR B e k R (Go.Proofs.sortWorldK enc k w g 0 m d os) (.slice (some ⟨g, 0, none⟩) n c) d.toList ∧ Mod (fun b => b = g) w (Go.Proofs.sortWorldK enc k w g 0 m d os) := by
  obtain ⟨rows, h2, h3, h4, h5⟩ := h
  obtain ⟨q1, q2⟩ := h2
  rcases q2 with ⟨q, _⟩ | ⟨g', cap, cur, q, hg, hh, hn, hm, hcs, hcur⟩
  · cases q
  cases q
  have hlt : g < w.heap.size := (Array.getElem?_eq_some_iff.1 hh).1
  have hrows : rows = l.map enc := by
    refine List.ext_getElem? fun i => ?_
    rw [List.getElem?_map]
    by_cases hi : i < l.length
    · have hir : i < rows.length := by omega
      rw [List.getElem?_eq_getElem hi, List.getElem?_eq_getElem hir, Option.map_some]
      rw [(hR w rows[i] l[i]).1 (h5 i _ _ (List.getElem?_eq_getElem hir) (List.getElem?_eq_getElem hi))]
    · rw [List.getElem?_eq_none (by omega), List.getElem?_eq_none (by omega)]; rfl
  have hle : l.length * k ≤ c * k := Nat.mul_le_mul_right _ hn
  refine ⟨rfl, hlt, fun j hj => ?_, fun m d os hd => ?_⟩
  · rw [Sort.size_flatK] at hj
    have hjl : j < l.length * k := by simpa using hj
    have hjc : j < cur.size := by rw [hcs]; omega
    have e0 : (Sort.flatK enc k l.toArray).toList = rows.flatten := by rw [flatK_toList enc k hk, hrows]
    have e1 : rows.flatten[j]? = some (Sort.flatK enc k l.toArray)[j]! := by
      have hs : j < (Sort.flatK enc k l.toArray).size := by rw [Sort.size_flatK]; exact hj
      rw [← e0, Array.getElem?_toList, Array.getElem?_eq_getElem hs, getElem!_pos _ j hs]
    rw [← hcur, List.getElem?_take, if_pos hjl, Array.getElem?_toList] at e1
    rw [Nat.zero_add]
    refine ⟨?_, ?_⟩
    · simp only [World.cell?, hh]; exact e1
    · simp [World.frozen?, hh]
  · obtain ⟨r1, r2⟩ := sortWorld_heap (enc := enc) (k := k) (m := m) (d := d) (os := os) hh
    refine ⟨⟨d.toList.map enc, ⟨?_, .inr ⟨g, c, _, by have e : d.toList.length = l.length := hd; rw [e], hg, r1, ?_, hm, ?_, ?_⟩⟩, by simp, fun r hr => ?_, fun i r x hr hx => ?_⟩, r2⟩
    · have := flat_len (d.toList.map enc) (k := k) fun r hr => by obtain ⟨x, _, rfl⟩ := List.mem_map.1 hr; exact hk x
      simpa using this
    · rw [Array.length_toList, hd]; exact hn
    · rw [(putCells_take (Sort.flatK enc k d) cur (by rw [Sort.size_flatK, hd, hcs]; exact hle)).1]; exact hcs
    · have := (putCells_take (Sort.flatK enc k d) cur (by rw [Sort.size_flatK, hd, hcs]; exact hle)).2
      rw [Sort.size_flatK] at this
      rw [Array.length_toList, this, flatK_toList enc k hk]
    · obtain ⟨x, _, rfl⟩ := List.mem_map.1 hr
      exact ⟨hk x, h1 x⟩
    · rw [List.getElem?_map] at hr
      rw [hx] at hr
      exact (hR _ _ _).2 (Option.some.inj hr).symm
end
end Go.K

namespace Go.Proofs.YtmfplfaeibehiaaDoor
open Go Go.K

/-- (the shelf's laying, written by a program off the shelf's own command) -/
def sortKey_ren : Go.Shelf.Ren := ⟨fun | 6 => 43 | 15 => 58 | 14 => 57 | 28 => 80 | 29 => 81 | 20 => 72 | 21 => 73 | 22 => 74 | 23 => 75 | 24 => 76 | 25 => 77 | 26 => 78 | 27 => 79 | 46 => 88 | 47 => 89 | 48 => 90 | 49 => 91 | 50 => 92 | 57 => 96 | n => n, fun | 22 => 22 | 24 => 34 | 25 => 93 | 3 => 3 | 39 => 107 | 0 => 0 | 53 => 131 | 55 => 28 | 4 => 4 | 46 => 125 | 45 => 124 | 50 => 97 | 5 => 5 | 9 => 9 | 66 => 139 | 70 => 143 | 76 => 148 | 77 => 149 | n => n, fun | n => n⟩
theorem sortKey : Go.Proofs.SlLaysF0.n6 Tryd.prog sortKey_ren := {
  mixed := by kernel_rfl,
  f6 := ⟨Tryd.f43.name, by decide, Tryd.func43.trans (congrArg some (by kernel_rfl))⟩,
  f14 := ⟨Tryd.f57.name, by decide, Tryd.func57.trans (congrArg some (by kernel_rfl))⟩,
  f15 := Tryd.func58.trans (congrArg some (by kernel_rfl)),
  f20 := ⟨Tryd.f72.name, by decide, Tryd.func72.trans (congrArg some (by kernel_rfl))⟩,
  f21 := ⟨Tryd.f73.name, by decide, Tryd.func73.trans (congrArg some (by kernel_rfl))⟩,
  f22 := ⟨Tryd.f74.name, by decide, Tryd.func74.trans (congrArg some (by kernel_rfl))⟩,
  f23 := ⟨Tryd.f75.name, by decide, Tryd.func75.trans (congrArg some (by kernel_rfl))⟩,
  f24 := ⟨Tryd.f76.name, by decide, Tryd.func76.trans (congrArg some (by kernel_rfl))⟩,
  f25 := ⟨Tryd.f77.name, by decide, Tryd.func77.trans (congrArg some (by kernel_rfl))⟩,
  f26 := ⟨Tryd.f78.name, by decide, Tryd.func78.trans (congrArg some (by kernel_rfl))⟩,
  f27 := ⟨Tryd.f79.name, by decide, Tryd.func79.trans (congrArg some (by kernel_rfl))⟩,
  f28 := Tryd.func80.trans (congrArg some (by kernel_rfl)),
  f29 := Tryd.func81.trans (congrArg some (by kernel_rfl)),
  f46 := ⟨Tryd.f88.name, by decide, Tryd.func88.trans (congrArg some (by kernel_rfl))⟩,
  f47 := Tryd.func89.trans (congrArg some (by kernel_rfl)),
  f48 := Tryd.func90.trans (congrArg some (by kernel_rfl)),
  f49 := ⟨Tryd.f91.name, by decide, Tryd.func91.trans (congrArg some (by kernel_rfl))⟩,
  f50 := ⟨Tryd.f92.name, by decide, Tryd.func92.trans (congrArg some (by kernel_rfl))⟩,
  f57 := ⟨Tryd.f96.name, by decide, Tryd.func96.trans (congrArg some (by kernel_rfl))⟩,
  t0 := Tryd.underlying0,
  a0 := Tryd.isAgg0,
  z0 := Tryd.sizeOf0,
  v0 := Tryd.zeroValue0,
  t3 := Tryd.underlying3,
  a3 := Tryd.isAgg3,
  z3 := Tryd.sizeOf3,
  v3 := Tryd.zeroValue3,
  t4 := Tryd.underlying4,
  a4 := Tryd.isAgg4,
  z4 := Tryd.sizeOf4,
  v4 := Tryd.zeroValue4,
  t5 := Tryd.underlying5,
  a5 := Tryd.isAgg5,
  z5 := Tryd.sizeOf5,
  v5 := Tryd.zeroValue5,
  t9 := Tryd.underlying9,
  a9 := Tryd.isAgg9,
  z9 := Tryd.sizeOf9,
  v9 := Tryd.zeroValue9,
  t22 := Tryd.underlying22,
  a22 := Tryd.isAgg22,
  z22 := Tryd.sizeOf22,
  v22 := Tryd.zeroValue22,
  t25 := Tryd.underlying93,
  a25 := Tryd.isAgg93,
  z25 := Tryd.sizeOf93,
  v25 := Tryd.zeroValue93,
  t39 := Tryd.underlying107,
  a39 := Tryd.isAgg107,
  z39 := Tryd.sizeOf107,
  v39 := Tryd.zeroValue107,
  t45 := Tryd.underlying124,
  a45 := Tryd.isAgg124,
  z45 := Tryd.sizeOf124,
  v45 := Tryd.zeroValue124,
  t46 := Tryd.underlying125,
  a46 := Tryd.isAgg125,
  z46 := Tryd.sizeOf125,
  v46 := Tryd.zeroValue125,
  t50 := Tryd.underlying97,
  a50 := Tryd.isAgg97,
  z50 := Tryd.sizeOf97,
  v50 := Tryd.zeroValue97,
  t53 := Tryd.underlying131,
  a53 := Tryd.isAgg131,
  z53 := Tryd.sizeOf131,
  v53 := Tryd.zeroValue131,
  t55 := Tryd.underlying28,
  a55 := Tryd.isAgg28,
  z55 := Tryd.sizeOf28,
  v55 := Tryd.zeroValue28,
  t66 := Tryd.underlying139,
  a66 := Tryd.isAgg139,
  z66 := Tryd.sizeOf139,
  v66 := Tryd.zeroValue139,
  t70 := Tryd.underlying143,
  a70 := Tryd.isAgg143,
  z70 := Tryd.sizeOf143,
  v70 := Tryd.zeroValue143,
  t76 := Tryd.underlying148,
  a76 := Tryd.isAgg148,
  z76 := Tryd.sizeOf148,
  v76 := Tryd.zeroValue148,
  t77 := Tryd.underlying149,
  a77 := Tryd.isAgg149,
  z77 := Tryd.sizeOf149,
  v77 := Tryd.zeroValue149 }
theorem cmpk_ok (x y : DKey) (W : World) : Calls Tryd.prog 44 #[.agg x.cells.toArray, .agg y.cells.toArray] W fun e w' => e = .returned (.int .i64 (cmpI x.id y.id)) ∧ ∃ q os', w' = Sort.grow (W.drewN q) os' := by
  have h : callK Tryd.prog 44 [.agg x.cells.toArray, .agg y.cells.toArray] (fun v w' => v = .int .i64 (cmpI x.id y.id) ∧ ∃ os', w' = Sort.grow W os') W := by
    apply S44_ok
    unfold S44
    refine ⟨x.cells, rfl, ⟨y.cells, rfl, newK_i ?_⟩⟩
    rw [faK_i]
    have c1 : ∀ j u, x.cells[j]? = some u → ((W.alloc (.cells x.cells.toArray 34)).alloc (.cells y.cells.toArray 34)).cell? ((⟨W.heap.size, 0, none⟩ : Addr).add j) = some u := fun j u hu => (Mod.alloc (fun _ => False) _ _).cell (cell_box hu) fun h => h
    have c2 : ∀ j u, y.cells[j]? = some u → ((W.alloc (.cells x.cells.toArray 34)).alloc (.cells y.cells.toArray 34)).cell? ((⟨(W.alloc (.cells x.cells.toArray 34)).heap.size, 0, none⟩ : Addr).add j) = some u := fun j u hu => cell_box hu
    refine ld1K_i (c1 0 _ rfl) ?_
    rw [faK_i]
    refine ld1K_i (c2 0 _ rfl) ?_
    refine callK_mono cmp_ok ?_
    rintro _ _ ⟨rfl, rfl⟩
    exact ⟨rfl, _, by rw [Sort.alloc_eq_grow, Sort.alloc_eq_grow, Sort.grow_grow]⟩
  refine Calls.mono h ?_
  rintro e w' ⟨v, rfl, rfl, os', rfl⟩
  exact ⟨rfl, 0, os', rfl⟩
theorem swo_id : Sort.SWO (Go.Proofs.ltOf fun x y : DKey => cmpI x.id y.id) := by
  have e : ∀ x y : DKey, Go.Proofs.ltOf (fun x y : DKey => cmpI x.id y.id) x y = decide (x.id < y.id) := fun x y => by
    unfold Go.Proofs.ltOf cmpI
    by_cases h1 : x.id < y.id
    · simp [h1]
    · by_cases h2 : y.id < x.id <;> simp [h1, h2]
  exact ⟨fun x => by rw [e]; simp, fun x y z h1 h2 => by rw [e] at *; simp at *; omega, fun x y z h1 h2 => by rw [e] at *; simp at *; omega⟩
instance : Inhabited DKey := ⟨DKey.zero⟩
/-- slices.SortFunc at keys, by their ids -/
theorem sortk_ok {B : Nat} {v : Value} {keys : List DKey} {w : World} (h : OwnR B 34 6 RKey w v keys) (hl : keys.length ≤ 1099511627776) :
    callK Tryd.prog 43 [v, .func (.func 44) #[] #[]] (fun _ w' => ∃ ks : List DKey, ks.Perm keys ∧ ks.Pairwise (fun x y => x.id ≤ y.id) ∧ OwnR B 34 6 RKey w' v ks ∧ Mod (fun b => v.ownBlock = some b) w w') w := by
  obtain ⟨a, c, rfl, _, _, hp, hn⟩ := h.shape
  cases a with
  | none =>
    have e := hn rfl
    subst e
    refine Calls.mono (Go.Proofs.AnyF.slices_SortFunc_none sortKey none c _ w) ?_
    rintro _ _ ⟨rfl, rfl⟩
    exact ⟨_, rfl, [], List.Perm.refl _, List.Pairwise.nil, h, Mod.refl _ _⟩
  | some p =>
    obtain ⟨g, rfl, _, hlt, hob⟩ := hp p rfl
    obtain ⟨_, _, hH, hS⟩ := OwnR.sorted (enc := DKey.cells) (fun _ => rfl) (fun x => RKey.one (w := w) (x := x) rfl) (fun _ _ _ => Iff.rfl) h
    have hc := Go.Proofs.AnyQ.slices_SortFunc sortKey 6 Tryd.isAgg34 Tryd.sizeOf34 DKey.cells (fun _ => rfl) (fun x => RKey.one (w := w) (x := x) rfl) (fun x y => cmpI x.id y.id) swo_id 44 #[] g 0 c keys.toArray w (good _ rfl) (fun m os dk _ x y => cmpk_ok x y _) hH hlt (by simp; omega)
    rw [List.size_toArray] at hc
    refine Calls.mono hc ?_
    rintro _ _ ⟨rfl, d', m, os, hperm, hsort, rfl⟩
    obtain ⟨h1, h2, h3⟩ := hperm
    have hd : d'.size = keys.length := by rw [h1, List.size_toArray]
    obtain ⟨o1, o2⟩ := hS m d' os hd
    refine ⟨_, rfl, d'.toList, ?_, ?_, o1, o2.mono fun b _ e => by rw [e]; rfl⟩
    · have e1 : d'.extract 0 keys.length = d' := by rw [← hd]; exact Array.extract_size
      have e2 : keys.toArray.extract 0 keys.length = keys.toArray := by
        have := Array.extract_size (xs := keys.toArray); rwa [List.size_toArray] at this
      rw [e1, e2] at h3
      simpa using h3
    · rw [List.pairwise_iff_getElem]
      intro i j hi hj hij
      simp only [Array.length_toList] at hi hj
      have := hsort i j (Nat.zero_le _) hij (by omega)
      rw [getElem!_pos d' i hi, getElem!_pos d' j hj] at this
      have e : Go.Proofs.ltOf (fun x y : DKey => cmpI x.id y.id) d'[j] d'[i] = decide (d'[j].id < d'[i].id) := by
        unfold Go.Proofs.ltOf cmpI
        by_cases h1 : d'[j].id < d'[i].id
        · simp [h1]
        · by_cases h2 : d'[i].id < d'[j].id <;> simp [h1, h2]
      rw [e] at this
      simp only [decide_eq_false_iff_not] at this
      simp only [Array.getElem_toList]
      omega
end Go.Proofs.YtmfplfaeibehiaaDoor
