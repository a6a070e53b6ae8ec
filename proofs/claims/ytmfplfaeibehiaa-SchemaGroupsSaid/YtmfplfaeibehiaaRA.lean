/- What is handed in, opened: sets, blocks, cells. No conditions. -/
import Derived.Test.YtmfplfaeibehiaaPK
import Derived.ProofKit
import Derived.Lib.SmallJoins
import Derived.Deep.Slices
namespace Go.K
open Go
variable {H : Type} {enc : TypeId × Value → H} {P : Program} {w : World} {base : Nat} {spare : Nat → Bool} {held : Bool}
theorem SlR.of_trod {α : Type} {t e k : Nat} {R : World → List Value → α → Prop} {fuel : Nat} {cs : List Value} {x : DataW H × List MemPlace} (ht : P.underlying t = some (.slice e)) (hk : P.cellsOf e = k)
    (hel : ∀ n cs' y, DataW.trod enc P w base spare held n e cs' = some y → ∃ x, R w cs' x) (h : DataW.trod enc P w base spare held fuel t cs = some x) :
    ∃ v l, cs = [v] ∧ SlR (fun _ => True) k R w v l := by
  rcases Go.Deep.open_slice ht h with ⟨rfl, _⟩ | ⟨a, len, cap, m, n, D, Pl, rfl, hb, hl, hm, hmm, _, hall⟩
  · exact ⟨_, [], rfl, SlR.nil⟩
  · have hlm : len ≤ m := by rw [hmm]; split <;> omega
    have one : ∀ i, i < len → ∃ (cs' : List Value) (x : α), cs'.length = k ∧ (∀ j u, cs'[j]? = some u → w.cell? (a.add (i * k + j)) = some u) ∧ R w cs' x := by
      intro i hi
      obtain ⟨cs', h1, h2⟩ := hall i (by omega)
      obtain ⟨x, hx⟩ := hel n cs' _ h2
      obtain ⟨_, hlen, hc⟩ := World.cells?_some h1
      rw [hk] at hlen hc
      refine ⟨cs', x, hlen, fun j u hu => ?_, hx⟩
      have hj : j < k := by rw [← hlen]; exact (List.getElem?_eq_some_iff.1 hu).1
      have := hc j hj
      rw [Addr.add_add] at this
      rw [this]; exact hu
    have build : ∀ q, q ≤ len → ∃ l : List α, l.length = q ∧ ∀ i x, l[i]? = some x → ∃ cs' : List Value, cs'.length = k ∧ (∀ j u, cs'[j]? = some u → w.cell? (a.add (i * k + j)) = some u) ∧ R w cs' x := by
      intro q
      induction q with
      | zero => exact fun _ => ⟨[], rfl, fun i x h => by simp at h⟩
      | succ q ih =>
        intro hq
        obtain ⟨l, h1, h2⟩ := ih (by omega)
        obtain ⟨cs', x, h3, h4, h5⟩ := one q (by omega)
        refine ⟨l ++ [x], by simp [h1], fun i y hy => ?_⟩
        by_cases hi : i < q
        · rw [List.getElem?_append_left (by omega)] at hy; exact h2 i y hy
        · have : i = q := by have := (List.getElem?_eq_some_iff.1 hy).1; simp [h1] at this; omega
          subst this
          rw [List.getElem?_append_right (by omega)] at hy
          simp [h1] at hy; subst hy
          exact ⟨cs', h3, h4, h5⟩
    obtain ⟨l, h1, h2⟩ := build len (Nat.le_refl _)
    subst h1
    refine ⟨_, l, rfl, a, cap, rfl, hl, hm, fun i x hx => ?_⟩
    obtain ⟨cs', h3, h4, h5⟩ := h2 i x hx
    exact ⟨a, cs', rfl, trivial, h3, h4, h5⟩
end Go.K
namespace Go.Proofs.Ytmfplfaeibehiaa
open Go Go.K
open Go.ChangeShapes Go.Joins
variable {H : Type} {enc : TypeId × Value → H} {w : World} {base : Nat} {spare : Nat → Bool} {held : Bool}
theorem attr_of_trod {n : Nat} {cs : List Value} {y : DataW H × List MemPlace} (h : DataW.trod enc Try.prog w base spare held n 46 cs = some y) : ∃ x : Attr, cs = x.cells := by
  have c0 : Try.prog.cellsOf 46 = 5 := by kernel_rfl
  have c1 : Try.prog.cellsOf 3 = 1 := by kernel_rfl
  have c2 : Try.prog.cellsOf 44 = 4 := by kernel_rfl
  have c3 : Try.prog.cellsOf 5 = 1 := by kernel_rfl
  have c4 : Try.prog.cellsOf 2 = 1 := by kernel_rfl
  have c5 : Try.prog.cellsOf 42 = 1 := by kernel_rfl
  have c6 : Try.prog.cellsOf 9 = 1 := by kernel_rfl
  obtain ⟨y0, y1, m, _, hl, h0, h1⟩ := trod_struct2 Try.underlying46 h
  rw [c0] at hl
  simp only [c1, c2] at h0 h1
  match cs, hl with
  | [a0, a1, a2, a3, a4], _ =>
    simp only [List.drop_zero, List.take_succ_cons, List.take_zero, List.drop_succ_cons] at h0 h1
    obtain ⟨k, e0, _, _⟩ := DataW.trod_int Try.underlying3 h0
    obtain ⟨z0, z1, z2, z3, m', _, _, g0, g1, g2, g3⟩ := trod_struct4 Try.underlying44 h1
    simp only [c3, c4, c5, c6, List.drop_zero, List.take_succ_cons, List.take_zero, List.drop_succ_cons] at g0 g1 g2 g3
    obtain ⟨k0, f0, _, _⟩ := DataW.trod_int Try.underlying5 g0
    obtain ⟨k1, f1, _, _⟩ := DataW.trod_int Try.underlying2 g1
    obtain ⟨k2, f2, _, _⟩ := DataW.trod_int Try.underlying42 g2
    obtain ⟨k3, f3, _, _⟩ := DataW.trod_string Try.underlying9 g3
    cases e0; cases f0; cases f1; cases f2; cases f3
    exact ⟨⟨k, ⟨k0, k1, k2, k3⟩⟩, rfl⟩
theorem set_of_trod {n : Nat} {cs : List Value} {y : DataW H × List MemPlace} (h : DataW.trod enc Try.prog w base spare held n 24 cs = some y) : ∃ v l, cs = [v] ∧ RSet (fun _ => True) w v l :=
  SlR.of_trod Try.underlying24 (by kernel_rfl) (fun _ _ _ h => attr_of_trod h) h
theorem blk_of_trod {n : Nat} {cs : List Value} {y : DataW H × List MemPlace} (h : DataW.trod enc Try.prog w base spare held n 34 cs = some y) : ∃ x : Blk, RBlk (fun _ => True) w cs x := by
  have c0 : Try.prog.cellsOf 34 = 2 := by kernel_rfl
  have c1 : Try.prog.cellsOf 3 = 1 := by kernel_rfl
  have c2 : Try.prog.cellsOf 24 = 1 := by kernel_rfl
  obtain ⟨y0, y1, m, _, hl, h0, h1⟩ := trod_struct2 Try.underlying34 h
  rw [c0] at hl
  simp only [c1, c2] at h0 h1
  match cs, hl with
  | [a0, a1], _ =>
    simp only [List.drop_zero, List.take_succ_cons, List.take_zero, List.drop_succ_cons] at h0 h1
    obtain ⟨k, e0, _, _⟩ := DataW.trod_int Try.underlying3 h0
    obtain ⟨v, l, e1, hs⟩ := set_of_trod h1
    cases e0; cases e1
    exact ⟨⟨k, l⟩, _, rfl, hs⟩
theorem blks_of_trod {n : Nat} {cs : List Value} {y : DataW H × List MemPlace} (h : DataW.trod enc Try.prog w base spare held n 27 cs = some y) : ∃ v l, cs = [v] ∧ RBlks (fun _ => True) (fun _ => True) w v l :=
  SlR.of_trod Try.underlying27 (by kernel_rfl) (fun _ _ _ h => blk_of_trod h) h
theorem cel_of_trod {n : Nat} {cs : List Value} {y : DataW H × List MemPlace} (h : DataW.trod enc Try.prog w base spare held n 26 cs = some y) : ∃ x : Cel, RCel (fun _ => True) w cs x := by
  have c0 : Try.prog.cellsOf 26 = 2 := by kernel_rfl
  have c1 : Try.prog.cellsOf 21 = 1 := by kernel_rfl
  have c2 : Try.prog.cellsOf 24 = 1 := by kernel_rfl
  obtain ⟨y0, y1, m, _, hl, h0, h1⟩ := trod_struct2 Try.underlying26 h
  rw [c0] at hl
  simp only [c1, c2] at h0 h1
  match cs, hl with
  | [a0, a1], _ =>
    simp only [List.drop_zero, List.take_succ_cons, List.take_zero, List.drop_succ_cons] at h0 h1
    obtain ⟨k, e0, _, _⟩ := DataW.trod_int Try.underlying21 h0
    obtain ⟨v, l, e1, hs⟩ := set_of_trod h1
    cases e0; cases e1
    exact ⟨⟨k, l⟩, _, rfl, hs⟩
theorem cels_of_trod {n : Nat} {cs : List Value} {y : DataW H × List MemPlace} (h : DataW.trod enc Try.prog w base spare held n 22 cs = some y) : ∃ v l, cs = [v] ∧ RCels (fun _ => True) (fun _ => True) w v l :=
  SlR.of_trod Try.underlying22 (by kernel_rfl) (fun _ _ _ h => cel_of_trod h) h
end Go.Proofs.Ytmfplfaeibehiaa
