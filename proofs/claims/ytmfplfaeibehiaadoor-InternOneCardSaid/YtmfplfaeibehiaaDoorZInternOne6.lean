/- InternOne: for every input the law returns true, and each argument reads behind the call as it read before; the two tables tied. No conditions. -/
import Derived.Test.YtmfplfaeibehiaaDoorZInternOne5
import Derived.Test.YtmfplfaeibehiaaDoorRows
import Derived.Lib.LaidU8
import Derived.Lib.LaidIn
import Derived.LaidHandle
import Derived.LaidMore
import Derived.MakeChecks
import Derived.Test.YtmfplfaeibehiaaDoorTie
import Derived.Test.YtmfplfaeibehiaaDoorCards
import Derived.WalkKit
import Derived.OpenShut
import Derived.ShutString
import Derived.ChangeOld
import Derived.ChangeVars
import Derived.JoinedOf
import Derived.SevenTiedAt
namespace Go.Proofs.YtmfplfaeibehiaaDoor
open Go Go.K
open Go.ChangeShapes Go.Joins
variable {H : Type} {enc : TypeId × Value → H} {w : World} {base : Nat} {spare : Nat → Bool} {held : Bool}
theorem len4 {α : Type} {l : List α} (h : l.length = 4) : ∃ a b c d, l = [a, b, c, d] := by
  match l, h with | [a, b, c, d], _ => exact ⟨a, b, c, d, rfl⟩
theorem len5 {α : Type} {l : List α} (h : l.length = 5) : ∃ a b c d e, l = [a, b, c, d, e] := by
  match l, h with | [a, b, c, d, e], _ => exact ⟨a, b, c, d, e, rfl⟩
theorem len6 {α : Type} {l : List α} (h : l.length = 6) : ∃ a b c d e f, l = [a, b, c, d, e, f] := by
  match l, h with | [a, b, c, d, e, f], _ => exact ⟨a, b, c, d, e, f, rfl⟩
theorem bulk_app (l m : List (DataW H)) : Rows.uptoBulkAll (l ++ m) = Rows.uptoBulkAll l + Rows.uptoBulkAll m := by
  induction l with
  | nil => simp [Rows.uptoBulkAll]
  | cons d l ih => simp only [List.cons_append, Rows.uptoBulkAll, ih]; omega
theorem SlR.of_trodU {α : Type} {t e k : Nat} {R : World → List Value → α → Prop} {μ : α → Nat} {fuel : Nat} {cs : List Value} {x : DataW H × List MemPlace} (ht : Tryd.prog.underlying t = some (.slice e)) (hk : Tryd.prog.cellsOf e = k)
    (hel : ∀ n cs' y, DataW.trod enc Tryd.prog w base spare held n e cs' = some y → ∃ x, R w cs' x ∧ μ x ≤ Rows.uptoBulk y.1) (h : DataW.trod enc Tryd.prog w base spare held fuel t cs = some x) :
    ∃ v l, cs = [v] ∧ SlR (fun _ => True) k R w v l ∧ (l.map μ).sum + 1 ≤ Rows.uptoBulk x.1 := by
  rcases Go.Deep.open_slice ht h with ⟨rfl, rfl⟩ | ⟨a, len, cap, m, n, D, Pl, rfl, hb, hl, hm, hmm, rfl, hall⟩
  · exact ⟨_, [], rfl, SlR.nil, by simp [Rows.uptoBulk]⟩
  · have hlm : len ≤ m := by rw [hmm]; split <;> omega
    have one : ∀ i, i < len → ∃ (cs' : List Value) (x : α), cs'.length = k ∧ (∀ j u, cs'[j]? = some u → w.cell? (a.add (i * k + j)) = some u) ∧ R w cs' x ∧ μ x ≤ Rows.uptoBulk (D i) := by
      intro i hi
      obtain ⟨cs', h1, h2⟩ := hall i (by omega)
      obtain ⟨x, hx, hmu⟩ := hel n cs' _ h2
      obtain ⟨_, hlen, hc⟩ := World.cells?_some h1
      rw [hk] at hlen hc
      refine ⟨cs', x, hlen, fun j u hu => ?_, hx, hmu⟩
      have hj : j < k := by rw [← hlen]; exact (List.getElem?_eq_some_iff.1 hu).1
      have := hc j hj
      rw [Addr.add_add] at this
      rw [this]; exact hu
    have build : ∀ q, q ≤ len → ∃ l : List α, l.length = q ∧ (l.map μ).sum ≤ Rows.uptoBulkAll ((List.range q).map D) ∧ ∀ i x, l[i]? = some x → ∃ cs' : List Value, cs'.length = k ∧ (∀ j u, cs'[j]? = some u → w.cell? (a.add (i * k + j)) = some u) ∧ R w cs' x := by
      intro q
      induction q with
      | zero => exact fun _ => ⟨[], rfl, by simp [Rows.uptoBulkAll], fun i x h => by simp at h⟩
      | succ q ih =>
        intro hq
        obtain ⟨l, h1, hs, h2⟩ := ih (by omega)
        obtain ⟨cs', x, h3, h4, h5, h6⟩ := one q (by omega)
        refine ⟨l ++ [x], by simp [h1], ?_, fun i y hy => ?_⟩
        · rw [List.range_succ, List.map_append (f := D), bulk_app]
          simp only [List.map_append, List.sum_append, List.map_cons, List.map_nil, List.sum_cons, List.sum_nil, Rows.uptoBulkAll]
          omega
        by_cases hi : i < q
        · rw [List.getElem?_append_left (by omega)] at hy; exact h2 i y hy
        · have : i = q := by have := (List.getElem?_eq_some_iff.1 hy).1; simp [h1] at this; omega
          subst this
          rw [List.getElem?_append_right (by omega)] at hy
          simp [h1] at hy; subst hy
          exact ⟨cs', h3, h4, h5⟩
    obtain ⟨l, h1, hs, h2⟩ := build len (Nat.le_refl _)
    subst h1
    refine ⟨_, l, rfl, ⟨a, cap, rfl, hl, hm, fun i x hx => ?_⟩, ?_⟩
    · obtain ⟨cs', h3, h4, h5⟩ := h2 i x hx
      exact ⟨a, cs', rfl, trivial, h3, h4, h5⟩
    · simp only [Rows.uptoBulk]; omega
theorem val_of_trodU {n : Nat} {cs : List Value} {y : DataW H × List MemPlace} (h : DataW.trod enc Tryd.prog w base spare held n 30 cs = some y) : ∃ x : AVal, cs = x.cells ∧ x.s.size + 1 ≤ Rows.uptoBulk y.1 := by
  have c2 : Tryd.prog.cellsOf 30 = 4 := by kernel_rfl
  have c3 : Tryd.prog.cellsOf 5 = 1 := by kernel_rfl
  have c4 : Tryd.prog.cellsOf 2 = 1 := by kernel_rfl
  have c5 : Tryd.prog.cellsOf 28 = 1 := by kernel_rfl
  have c6 : Tryd.prog.cellsOf 9 = 1 := by kernel_rfl
  obtain ⟨z0, z1, z2, z3, m', rfl, hl, g0, g1, g2, g3⟩ := trod_struct4 Tryd.underlying30 h
  rw [c2] at hl
  simp only [c3, c4, c5, c6] at g0 g1 g2 g3
  match cs, hl with
  | [a0, a1, a2, a3], _ =>
    simp only [List.drop_zero, List.take_succ_cons, List.take_zero, List.drop_succ_cons] at g0 g1 g2 g3
    obtain ⟨k0, f0, e0, _⟩ := DataW.trod_int Tryd.underlying5 g0
    obtain ⟨k1, f1, e1, _⟩ := DataW.trod_int Tryd.underlying2 g1
    obtain ⟨k2, f2, e2, _⟩ := DataW.trod_int Tryd.underlying28 g2
    obtain ⟨k3, f3, e3, _⟩ := DataW.trod_string Tryd.underlying9 g3
    cases f0; cases f1; cases f2; cases f3; subst e0; subst e1; subst e2; subst e3
    refine ⟨⟨k0, k1, k2, k3⟩, rfl, ?_⟩
    simp only [Rows.uptoBulk, Rows.uptoBulkAll, Array.length_toList, ByteArray.size_data]
    omega
theorem attr_of_trodU {n : Nat} {cs : List Value} {y : DataW H × List MemPlace} (h : DataW.trod enc Tryd.prog w base spare held n 56 cs = some y) : ∃ x : Attr, RAttr w cs x ∧ mAttr x ≤ Rows.uptoBulk y.1 := by
  have c0 : Tryd.prog.cellsOf 56 = 5 := by kernel_rfl
  have c1 : Tryd.prog.cellsOf 3 = 1 := by kernel_rfl
  have c2 : Tryd.prog.cellsOf 30 = 4 := by kernel_rfl
  obtain ⟨y0, y1, m, rfl, hl, h0, h1⟩ := trod_struct2 Tryd.underlying56 h
  rw [c0] at hl
  simp only [c1, c2] at h0 h1
  match cs, hl with
  | [a0, a1, a2, a3, a4], _ =>
    simp only [List.drop_zero, List.take_succ_cons, List.take_zero, List.drop_succ_cons] at h0 h1
    obtain ⟨k, e0, _, _⟩ := DataW.trod_int Tryd.underlying3 h0
    obtain ⟨v, e1, hs⟩ := val_of_trodU h1
    cases e0; cases e1
    refine ⟨⟨k, v⟩, rfl, ?_⟩
    simp only [mAttr, Rows.uptoBulk, Rows.uptoBulkAll]
    omega
theorem rune_of_trodU {n : Nat} {cs : List Value} {y : DataW H × List MemPlace} (h : DataW.trod enc Tryd.prog w base spare held n 21 cs = some y) : ∃ x : Int, RRune w cs x ∧ 1 ≤ Rows.uptoBulk y.1 := by
  obtain ⟨k, rfl, e, _⟩ := DataW.trod_int Tryd.underlying21 h
  subst e
  exact ⟨k, rfl, by simp [Rows.uptoBulk]⟩
theorem set_of_trodU {n : Nat} {cs : List Value} {y : DataW H × List MemPlace} (h : DataW.trod enc Tryd.prog w base spare held n 53 cs = some y) : ∃ v l, cs = [v] ∧ RSet (fun _ => True) w v l ∧ mSet l + 1 ≤ Rows.uptoBulk y.1 :=
  SlR.of_trodU (μ := mAttr) Tryd.underlying53 (by kernel_rfl) (fun _ _ _ h => attr_of_trodU h) h
theorem runes_of_trodU {n : Nat} {cs : List Value} {y : DataW H × List MemPlace} (h : DataW.trod enc Tryd.prog w base spare held n 116 cs = some y) : ∃ v l, cs = [v] ∧ RRun (fun _ => True) w v l ∧ l.length + 1 ≤ Rows.uptoBulk y.1 := by
  obtain ⟨v, l, e, h1, h2⟩ := SlR.of_trodU (μ := fun _ : Int => 1) Tryd.underlying116 (by kernel_rfl) (fun _ _ _ h => rune_of_trodU h) h
  refine ⟨v, l, e, h1, ?_⟩
  have : (l.map fun _ => 1).sum = l.length := by clear h1 h2; induction l with | nil => rfl | cons a l ih => simp only [List.map_cons, List.sum_cons, List.length_cons, ih]; omega
  omega
theorem key_of_trodU {n : Nat} {cs : List Value} {y : DataW H × List MemPlace} (h : DataW.trod enc Tryd.prog w base spare held n 34 cs = some y) : ∃ x : DKey, RKey w cs x ∧ 1 ≤ Rows.uptoBulk y.1 := by
  have c0 : Tryd.prog.cellsOf 34 = 6 := by kernel_rfl
  have c1 : Tryd.prog.cellsOf 3 = 1 := by kernel_rfl
  have c2 : Tryd.prog.cellsOf 5 = 1 := by kernel_rfl
  have c3 : Tryd.prog.cellsOf 4 = 1 := by kernel_rfl
  obtain ⟨xs, m, _, rfl, hl, hlen, hf⟩ := DataW.trod_struct Tryd.underlying34 h
  match xs, hlen with
  | [y0, y1, y2, y3, y4, y5], _ =>
    have h0 : DataW.trod enc Tryd.prog w base spare held m 3 ((cs.drop 0).take (Tryd.prog.cellsOf 3)) = some y0 := hf 0 _ rfl
    have h1 : DataW.trod enc Tryd.prog w base spare held m 4 ((cs.drop 1).take (Tryd.prog.cellsOf 4)) = some y1 := hf 1 _ rfl
    have h2 : DataW.trod enc Tryd.prog w base spare held m 5 ((cs.drop 2).take (Tryd.prog.cellsOf 5)) = some y2 := hf 2 _ rfl
    have h3 : DataW.trod enc Tryd.prog w base spare held m 4 ((cs.drop 3).take (Tryd.prog.cellsOf 4)) = some y3 := hf 3 _ rfl
    have h4 : DataW.trod enc Tryd.prog w base spare held m 4 ((cs.drop 4).take (Tryd.prog.cellsOf 4)) = some y4 := hf 4 _ rfl
    have h5 : DataW.trod enc Tryd.prog w base spare held m 3 ((cs.drop 5).take (Tryd.prog.cellsOf 3)) = some y5 := hf 5 _ rfl
    rw [c0] at hl
    rw [c1] at h0
    rw [c3] at h1
    rw [c2] at h2
    rw [c3] at h3
    rw [c3] at h4
    rw [c1] at h5
    obtain ⟨a0, a1, a2, a3, a4, a5, rfl⟩ := len6 hl
    · clear hf
      simp only [List.drop_zero, List.take_succ_cons, List.take_zero, List.drop_succ_cons] at h0 h1 h2 h3 h4 h5
      obtain ⟨k0, e0, _, _⟩ := DataW.trod_int Tryd.underlying3 h0
      obtain ⟨k1, e1, _⟩ := DataW.trod_bool Tryd.underlying4 h1
      obtain ⟨k2, e2, _, _⟩ := DataW.trod_int Tryd.underlying5 h2
      obtain ⟨k3, e3, _⟩ := DataW.trod_bool Tryd.underlying4 h3
      obtain ⟨k4, e4, _⟩ := DataW.trod_bool Tryd.underlying4 h4
      obtain ⟨k5, e5, _, _⟩ := DataW.trod_int Tryd.underlying3 h5
      cases e0; cases e1; cases e2; cases e3; cases e4; cases e5
      refine ⟨⟨k0, k1, k2, k3, k4, k5⟩, rfl, ?_⟩
      simp only [Rows.uptoBulk]
      omega
theorem keys_of_trodU {n : Nat} {cs : List Value} {y : DataW H × List MemPlace} (h : DataW.trod enc Tryd.prog w base spare held n 22 cs = some y) : ∃ v l, cs = [v] ∧ RKeys (fun _ => True) w v l ∧ l.length + 1 ≤ Rows.uptoBulk y.1 := by
  obtain ⟨v, l, e, h1, h2⟩ := SlR.of_trodU (μ := fun _ : DKey => 1) Tryd.underlying22 (by kernel_rfl) (fun _ _ _ h => key_of_trodU h) h
  refine ⟨v, l, e, h1, ?_⟩
  have : (l.map fun _ => 1).sum = l.length := by clear h1 h2; induction l with | nil => rfl | cons a l ih => simp only [List.map_cons, List.sum_cons, List.length_cons, ih]; omega
  omega
end Go.Proofs.YtmfplfaeibehiaaDoor

namespace Go.Proofs.YtmfplfaeibehiaaDoor
open Go Go.K
open Go.ChangeShapes Go.Joins
variable {H : Type} {enc : TypeId × Value → H} {w : World} {base : Nat} {spare : Nat → Bool} {held : Bool}
theorem keys_of_trod {n : Nat} {cs : List Value} {y : DataW H × List MemPlace} (h : DataW.trod enc Tryd.prog w base spare held n 22 cs = some y) : ∃ v l, cs = [v] ∧ RKeys (fun _ => True) w v l := by
  obtain ⟨v, l, e, h1, _⟩ := keys_of_trodU h
  exact ⟨v, l, e, h1⟩
end Go.Proofs.YtmfplfaeibehiaaDoor

namespace Go.Proofs.YtmfplfaeibehiaaDoor
open Go Go.K
open Go.ChangeShapes Go.WideShapes Go.ChangeAt Go.RowKit Go.Joins

def laidL : List (String × DataW Unit) := [("unicode/utf8.acceptRanges", Rows.laid_unicode_utf8_acceptRanges), ("unicode/utf8.first", Rows.laid_unicode_utf8_first)]
theorem first_tab : Rows.laid_unicode_utf8_first = Lib.tabData .u8 (Pinned.utf8FirstZ.map Int.ofNat) := by kernel_rfl
theorem first_at : (List.range 256).all (fun j => decide (128 ≤ j → (Pinned.utf8FirstZ.map Int.ofNat)[j]? = some (firstT j))) = true := by decide +kernel
theorem acc_tab : Rows.laid_unicode_utf8_acceptRanges (H := Unit) = .agg ((List.range 16).map fun i => .agg ([accLo i, accHi i].map fun z => .lit (.int .u8 z))) := by kernel_rfl
theorem tabs_of_laid {W : World} (h : laidMetH Tryd.prog laidL W) : Tabs W := by
  rw [MakeChecks.laidMetH_plain _ _ _ (by kernel_rfl)] at h
  have h4 := Lib.laidMet.reads h (.head _)
  have h3 := Lib.laidMet.reads h (.tail _ (.head _))
  have hf : ∀ j : Nat, 128 ≤ j → j < 256 → W.cell? ⟨1, j, none⟩ = some (.int .u8 (firstT j)) := by
    intro j hj1 hj2
    obtain ⟨g, t, cs, fuel, p, hg, hty, hvar, hd⟩ := h3
    obtain rfl := Option.some.inj ((show Tryd.prog.globalNamed "unicode/utf8.first" = some 1 by kernel_rfl).symm.trans hg)
    obtain rfl := Option.some.inj ((show (Tryd.prog.globals[1]?).map (·.type) = some 152 by kernel_rfl).symm.trans hty)
    rw [first_tab] at hd
    have hcs := Lib.cells_of_tab Tryd.underlying152 Tryd.underlying5 (by kernel_rfl) (by kernel_rfl) hd
    have := World.var?_cell hg hvar j
    rw [this, ← Array.getElem?_toList, hcs]
    have ha := List.all_eq_true.1 first_at j (List.mem_range.2 hj2)
    rw [decide_eq_true_eq] at ha
    rw [List.getElem?_map, ha hj1]
    rfl
  have hac : ∀ j : Nat, j < 16 → W.cell? ⟨2, j * 2, none⟩ = some (.int .u8 (accLo j)) ∧ W.cell? ⟨2, j * 2 + 1, none⟩ = some (.int .u8 (accHi j)) := by
    intro i hi
    obtain ⟨g, t, cs, fuel, p, hg, hty, hvar, hd⟩ := h4
    obtain rfl := Option.some.inj ((show Tryd.prog.globalNamed "unicode/utf8.acceptRanges" = some 2 by kernel_rfl).symm.trans hg)
    obtain rfl := Option.some.inj ((show (Tryd.prog.globals[2]?).map (·.type) = some 155 by kernel_rfl).symm.trans hty)
    rw [acc_tab] at hd
    obtain ⟨fuel', d, q, hdi, he⟩ := Lib.array_elem Tryd.underlying155 hd i hi
    simp only [List.getElem?_map, List.getElem?_range hi, Option.map_some, Option.some.injEq] at hdi
    subst hdi
    have c2 : Tryd.prog.cellsOf 154 = 2 := by kernel_rfl
    rw [c2] at he
    have hcs := Lib.ints_of_struct Tryd.underlying154 (fun j f hj => by
      match j, hj with
      | 0, hj => simp at hj; subst hj; exact ⟨Tryd.underlying5, rfl, by kernel_rfl⟩
      | 1, hj => simp at hj; subst hj; exact ⟨Tryd.underlying5, rfl, by kernel_rfl⟩
      | j + 2, hj => simp at hj) (by rw [c2]; rfl) he
    have e0 := congrArg (·[0]?) hcs
    have e1 := congrArg (·[1]?) hcs
    simp at e0 e1
    have w0 := World.var?_cell hg hvar (i * 2)
    have w1 := World.var?_cell hg hvar (i * 2 + 1)
    rw [w0, w1, ← Array.getElem?_toList, ← Array.getElem?_toList]
    exact ⟨by simpa using e0, by simpa using e1⟩
  have := World.block_lt_of_cell? W _ (hac 0 (by decide)).1
  exact ⟨this, hf, hac⟩
/-- a world that meets the condition -/
noncomputable def laidWorld (os : Os) : World :=
  let w0 := World.holding Tryd.prog os ⟨#[], #[], []⟩
  let put (h : Array Obj) (g : Nat) (cs : Array Value) : Array Obj := h.modify g fun
    | .cells _ t frozen => .cells cs t frozen
    | o => o
  let h1 := put w0.heap 1 (Pinned.utf8FirstZ.map fun (z : Nat) => Value.int .u8 (Int.ofNat z)).toArray
  let h2 := put h1 2 ((List.range 16).flatMap fun i => [Value.int .u8 (accLo i), Value.int .u8 (accHi i)]).toArray
  { w0 with heap := h2 }
theorem laidWorld_met (os : Os) (args : Array Value) : laidMetH Tryd.prog laidL ((laidWorld os).forCall (fun _ _ => 0) ⟨#[], args, []⟩).memory := by
  rw [MakeChecks.laidMetH_plain _ _ _ (by kernel_rfl)]
  exact (LaidIn.of_run (l := laidL) [2, 1] 8 (by kernel_rfl) (by kernel_rfl) (by kernel_rfl) (by kernel_rfl)).met

/-- a value whose numbers lie in their types -/
def InV (v : AVal) : Prop := (0 ≤ v.kind ∧ v.kind < 256) ∧ (-9223372036854775808 ≤ v.n ∧ v.n ≤ 9223372036854775807) ∧ (0 ≤ v.f ∧ v.f < 18446744073709551616) ∧ v.s.size < 18446744073709551616
variable {H : Type} {enc : TypeId × Value → H} {w : World} {base : Nat} {spare : Nat → Bool} {held : Bool}
theorem wf_range {k : IntKind} {n : Int} (h : (Lit.int k n).wf = true) : k.min ≤ n ∧ n ≤ k.max := by
  simpa [Lit.wf] using h
theorem val_of_trodR {n : Nat} {cs : List Value} {y : DataW H × List MemPlace} (h : DataW.trod enc Tryd.prog w base spare held n 30 cs = some y) : ∃ x : AVal, cs = x.cells ∧ InV x := by
  have c2 : Tryd.prog.cellsOf 30 = 4 := by kernel_rfl
  have c3 : Tryd.prog.cellsOf 5 = 1 := by kernel_rfl
  have c4 : Tryd.prog.cellsOf 2 = 1 := by kernel_rfl
  have c5 : Tryd.prog.cellsOf 28 = 1 := by kernel_rfl
  have c6 : Tryd.prog.cellsOf 9 = 1 := by kernel_rfl
  obtain ⟨z0, z1, z2, z3, m', _, hl, g0, g1, g2, g3⟩ := trod_struct4 Tryd.underlying30 h
  rw [c2] at hl
  simp only [c3, c4, c5, c6] at g0 g1 g2 g3
  match cs, hl with
  | [a1, a2, a3, a4], _ =>
    simp only [List.drop_zero, List.take_succ_cons, List.take_zero, List.drop_succ_cons] at g0 g1 g2 g3
    obtain ⟨k0, f0, _, w0⟩ := DataW.trod_int Tryd.underlying5 g0
    obtain ⟨k1, f1, _, w1⟩ := DataW.trod_int Tryd.underlying2 g1
    obtain ⟨k2, f2, _, w2⟩ := DataW.trod_int Tryd.underlying28 g2
    obtain ⟨k3, f3, _, w3⟩ := DataW.trod_string Tryd.underlying9 g3
    cases f0; cases f1; cases f2; cases f3
    refine ⟨⟨k0, k1, k2, k3⟩, rfl, ?_⟩
    have r0 := wf_range w0
    have r1 := wf_range w1
    have r2 := wf_range w2
    have m0 : IntKind.u8.min = 0 ∧ IntKind.u8.max = 255 := by decide
    have m1 : IntKind.i64.min = -9223372036854775808 ∧ IntKind.i64.max = 9223372036854775807 := by decide
    have m2 : IntKind.u64.min = 0 ∧ IntKind.u64.max = 18446744073709551615 := by decide
    rw [m0.1, m0.2] at r0
    rw [m1.1, m1.2] at r1
    rw [m2.1, m2.2] at r2
    have r3 : k3.size ≤ 9223372036854775807 := by
      simp only [Lit.wf, maxLen] at w3
      simpa using w3
    exact ⟨⟨r0.1, show k0 < 256 by omega⟩, r1, ⟨r2.1, show k2 < 18446744073709551616 by omega⟩, show k3.size < 18446744073709551616 by omega⟩
end Go.Proofs.YtmfplfaeibehiaaDoor

namespace Go.K
open Go
theorem SlR.strip {α : Type} {S : Nat → Prop} {k : Nat} {R : World → List Value → α → Prop} {P : α → Prop} {w : World} {v : Value} {l : List α} (h : SlR S k (fun w r x => R w r x ∧ P x) w v l) : SlR S k R w v l ∧ ∀ x ∈ l, P x := by
  obtain ⟨a, c, e, h1, h2, h3⟩ := h
  refine ⟨⟨a, c, e, h1, h2, fun i x hx => ?_⟩, fun x hx => ?_⟩
  · obtain ⟨p, r, q1, q2, q3, q4, q5⟩ := h3 i x hx
    exact ⟨p, r, q1, q2, q3, q4, q5.1⟩
  · obtain ⟨i, hi⟩ := List.mem_iff_getElem?.1 hx
    obtain ⟨_, _, _, _, _, _, q5⟩ := h3 i x hi
    exact q5.2
end Go.K
namespace Go.Proofs.YtmfplfaeibehiaaDoor
open Go Go.K
open Go.ChangeShapes Go.WideShapes Go.ChangeAt Go.RowKit Go.Joins
variable {H : Type} {enc : TypeId × Value → H} {w : World} {base : Nat} {spare : Nat → Bool} {held : Bool}
theorem attr_of_trodR {n : Nat} {cs : List Value} {y : DataW H × List MemPlace} (h : DataW.trod enc Tryd.prog w base spare held n 56 cs = some y) : ∃ x : Attr, cs = x.cells ∧ InA x := by
  have c0 : Tryd.prog.cellsOf 56 = 5 := by kernel_rfl
  have c1 : Tryd.prog.cellsOf 3 = 1 := by kernel_rfl
  have c2 : Tryd.prog.cellsOf 30 = 4 := by kernel_rfl
  obtain ⟨y0, y1, m, _, hl, h0, h1⟩ := trod_struct2 Tryd.underlying56 h
  rw [c0] at hl
  simp only [c1, c2] at h0 h1
  match cs, hl with
  | [a0, a1, a2, a3, a4], _ =>
    simp only [List.drop_zero, List.take_succ_cons, List.take_zero, List.drop_succ_cons] at h0 h1
    obtain ⟨k, e0, _, w0⟩ := DataW.trod_int Tryd.underlying3 h0
    obtain ⟨x, ex, hx⟩ := val_of_trodR h1
    cases e0
    have r0 := wf_range w0
    have m1 : IntKind.i64.min = -9223372036854775808 ∧ IntKind.i64.max = 9223372036854775807 := by decide
    rw [m1.1, m1.2] at r0
    refine ⟨⟨k, x⟩, ?_, r0, hx⟩
    show _ = Value.int .i64 k :: x.cells
    rw [← ex]
theorem set_of_trodR {n : Nat} {cs : List Value} {y : DataW H × List MemPlace} (h : DataW.trod enc Tryd.prog w base spare held n 53 cs = some y) : ∃ v l, cs = [v] ∧ (RSet (fun _ => True) w v l ∧ ∀ a ∈ l, InA a) := by
  obtain ⟨v, l, e, hl⟩ := SlR.of_trod (k := 5) (R := fun (w : World) r (x : Attr) => r = x.cells ∧ InA x) Tryd.underlying53 (by kernel_rfl) (fun _ _ _ h => attr_of_trodR h) h
  exact ⟨v, l, e, hl.strip⟩
theorem sets_of_trodR {n : Nat} {cs : List Value} {y : DataW H × List MemPlace} (h : DataW.trod enc Tryd.prog w base spare held n 62 cs = some y) : ∃ v l, cs = [v] ∧ (SlR (fun _ => True) 1 (RSetV fun _ => True) w v l ∧ ∀ x ∈ l, ∀ a ∈ x, InA a) := by
  obtain ⟨v, l, e, hl⟩ := SlR.of_trod (k := 1) (R := fun (w : World) r (x : List Attr) => RSetV (fun _ => True) w r x ∧ ∀ a ∈ x, InA a) Tryd.underlying62 (by kernel_rfl) (fun _ _ _ h => by
    obtain ⟨v, l, e, h1, h2⟩ := set_of_trodR h
    exact ⟨l, ⟨v, e, h1⟩, h2⟩) h
  exact ⟨v, l, e, hl.strip⟩
end Go.Proofs.YtmfplfaeibehiaaDoor

namespace Go.Proofs.YtmfplfaeibehiaaDoor
open Go Go.K
open Go.ChangeShapes Go.WideShapes Go.ChangeAt Go.RowKit
set_option linter.unusedVariables false

theorem ownK : ownKnob Tryd.prog.godebug = none := by kernel_rfl
theorem laidOut : laidOutB Tryd.prog = true := by kernel_rfl

set_option maxRecDepth 100000 in
theorem InternOne_lifted (os : Os) (started : os.Started) (H : Type) (enc : TypeId × Value → H) :
    ReturnsInHanded {} Tryd.checked os 7 .any (fun w args => (Rows.internOneSpec.pre enc Tryd.prog Tryd.f7 [] false w args ∧ laidMetH Tryd.prog Rows.internOneRow.laid w) ∧ sizedMet enc Tryd.prog Tryd.f7 (OpenSpec.ofChange Rows.internOneSpec) false w args)
      (Rows.internOneSpec.post enc Tryd.prog Tryd.f7 false true false false) := by
  refine returnsInHanded_of_change_and (C := Tryd.checked) (X := fun w _ => laidMetH Tryd.prog Rows.internOneRow.laid w) (fun _ _ _ hh h => h.of_heap hh) ownK started (by kernel_rfl) Tryd.func7
    (ChangeSpec.witness_at (enc := enc) (C := Tryd.checked) (os := os) (X := fun w _ => laidMetH Tryd.prog Rows.internOneRow.laid w) false (laidWorld os) #[.slice none 0 0, .slice none 0 0] 8 rfl (by kernel_rfl) (by kernel_rfl) (by kernel_rfl) (by kernel_rfl) (by kernel_rfl) (laidWorld_met os _)) ?_
  intro W base args ds gs before hval0 hW _ _ hL _
  have hW' := hW
  obtain ⟨p, q, hA0, hV, rfl, hfz, hnd⟩ := hW
  have hA : DataW.TrodAll enc Tryd.prog W 0 (fun _ => true) true Tryd.f7.params.toList args.toList ds p := hA0
  have hval : ∀ (j : Nat) t v, Tryd.f7.params[j]? = some t → args[j]? = some v → Value.okWide Tryd.prog W .any base t v := hval0
  rw [Tryd.params7] at hA hval
  have htab : Tabs W := tabs_of_laid hL
  obtain ⟨v0, vs0, d0, ds0, p0, q0, hargs, rfl, rfl, h0, r0⟩ := trodAll_cons hA
  obtain ⟨v1, vs1, d1, ds1, p1, q1, rfl, rfl, rfl, h1, r1⟩ := trodAll_cons r0
  obtain ⟨rfl, rfl, rfl⟩ := trodAll_nil r1
  obtain rfl : args = #[v0, v1] := by cases args; simp_all
  obtain ⟨rfl, rfl⟩ := trodVars_none hV
  have lt0 : ∀ x ∈ p0, x.block < W.heap.size := by obtain ⟨m, hm⟩ := h0; exact DataW.trod_lt m _ _ _ hm
  obtain ⟨fuel0, hf0⟩ := id h0
  obtain ⟨u0, l0, e0, s0⟩ := keys_of_trod hf0
  obtain ⟨a0, n0, c0, rfl⟩ := okWide_slice Tryd.underlying22 (hval 0 22 v0 rfl rfl)
  simp only [Value.cells, List.cons.injEq, and_true] at e0
  subst e0
  have lt1 : ∀ x ∈ p1, x.block < W.heap.size := by obtain ⟨m, hm⟩ := h1; exact DataW.trod_lt m _ _ _ hm
  obtain ⟨fuel1, hf1⟩ := id h1
  obtain ⟨u1, l1, e1, s1⟩ := sets_of_trodR hf1
  obtain ⟨a1, n1, c1, rfl⟩ := okWide_slice Tryd.underlying62 (hval 1 62 v1 rfl rfl)
  simp only [Value.cells, List.cons.injEq, and_true] at e1
  subst e1
  clear hA0 hval0
  refine (InternOne_ok htab s0 s1.1 s1.2).mono fun e W' ⟨v, he, hv, hg⟩ => ?_
  subst he; subst hv
  have bel : Below W.heap.size W W' := Mod.below hg (Nat.le_refl _) fun _ h => h.elim
  exact ⟨_, rfl, _, _, _, [], _, [], hW', trodAll_mk1 (shut_bool Tryd.underlying4 _), (trodAll_cons_mk (Below.trod laidOut (by kernel_rfl) (of_decide_eq_true (by kernel_rfl)) h0 bel lt0) (trodAll_cons_mk (Below.trod laidOut (by kernel_rfl) (of_decide_eq_true (by kernel_rfl)) h1 bel lt1) trodAll_mk0)), rfl, bel.frame _, fun h => by cases h⟩
/-- the row -/
theorem InternOne_said : Rows.InternOneSaid :=
  OpenClaim.holds_of_wide 7 Tryd.f7 rfl rfl rfl rfl rfl rfl rfl ⟨rfl, rfl, rfl, rfl, rfl⟩ rfl rfl rfl rfl rfl (by kernel_rfl) Tryd.func7 (by kernel_rfl)
    (of_decide_eq_true (by kernel_rfl)) (by unfold Func.isWrapper; first | (rw [if_pos (by decide +kernel)]; kernel_rfl) | (rw [if_neg (by decide +kernel)]; exact ⟨rfl, rfl⟩))
    (fun os started H enc _ => InternOne_lifted os started H enc)
/-- the statement: the tied card -/
theorem InternOne_proved : Rows.InternOneCardSaid :=
  Claim7.holds_tied_plain_at .later [] [.data, .pinned] true Rows.internOneCard.stood.harness false
    InternOne_said (fun _ h => by cases h) (by kernel_rfl) (fun _ h => by cases h) internOne_row_tie rfl ⟨rfl, rfl⟩ (by kernel_rfl) rfl
    (fun f fn hf hfn => by
      obtain rfl : f = 7 := Option.some.inj ((show Tryd.prog.funcNamed "rubric/rubriclaw07.InternOne" = some 7 by kernel_rfl).symm.trans hf) |>.symm
      obtain rfl : fn = Tryd.f7 := (Option.some.inj (Tryd.func7.symm.trans hfn)).symm
      exact ⟨by kernel_rfl, fun j t ht => by
        rw [Tryd.params7] at ht
        have hm : t ∈ [22, 62] := by simpa using Array.mem_of_getElem? ht
        have hall : ([22, 62].all fun u => !Tryd.prog.wantsStandIn u) = true := by kernel_rfl
        exact (show Tryd.prog.wantsStandIn t = false by simpa using List.all_eq_true.1 hall t hm)⟩)
    (by kernel_rfl)
#print axioms InternOne_proved
end Go.Proofs.YtmfplfaeibehiaaDoor
