/- What is handed in, opened, with what the reach says of each slice: sets, blocks. No conditions. -/
import Derived.Test.YtmfplfaeibehiaaRA
import Derived.SizedLaws
namespace Go.Proofs.Ytmfplfaeibehiaa
open Go Go.K
open Go.ChangeShapes Go.Joins
variable {H : Type} {enc : TypeId × Value → H} {w : World} {base : Nat} {spare : Nat → Bool} {held : Bool}
theorem weightsAll_mem {P : Program} {e : TypeId} {d : DataW H} {n : Nat} : ∀ {ds : List (DataW H)}, d ∈ ds → n ∈ d.weights P e → n ∈ DataW.weightsAll P e ds
  | x :: r, hd, hn => by
    simp only [DataW.weightsAll, List.mem_append]
    rcases List.mem_cons.1 hd with rfl | hd
    · exact .inl hn
    · exact .inr (weightsAll_mem hd hn)
theorem SlR.of_trodW {α : Type} {P : Program} {t e k : Nat} {R : World → List Value → α → Prop} {Q : α → Prop} {fuel : Nat} {cs : List Value} {x : DataW H × List MemPlace} (ht : P.underlying t = some (.slice e)) (hk : P.cellsOf e = k)
    (hel : ∀ n cs' y, DataW.trod enc P w base spare held n e cs' = some y → (∀ n ∈ y.1.weights P e, n ≤ reachBytes) → ∃ x, R w cs' x ∧ Q x) (h : DataW.trod enc P w base spare held fuel t cs = some x) (hw : ∀ n ∈ x.1.weights P t, n ≤ reachBytes) :
    ∃ v l, cs = [v] ∧ SlR (fun _ => True) k R w v l ∧ (∀ y ∈ l, Q y) ∧ l.length * P.bytesOf e ≤ reachBytes := by
  rcases Go.Deep.open_slice ht h with ⟨rfl, rfl⟩ | ⟨a, len, cap, m, n, D, Pl, rfl, hb, hl, hm, hmm, rfl, hall⟩
  · exact ⟨_, [], rfl, SlR.nil, by simp, by simp⟩
  · have hlm : len ≤ m := by rw [hmm]; split <;> omega
    have hwD : ∀ i, i < len → ∀ n ∈ (D i).weights P e, n ≤ reachBytes := by
      intro i hi n hn
      refine hw n ?_
      simp only [DataW.weights, ht, List.mem_cons, List.mem_append]
      exact .inr (.inl (weightsAll_mem (List.mem_map.2 ⟨i, List.mem_range.2 hi, rfl⟩) hn))
    have hlen : len * P.bytesOf e ≤ reachBytes := by
      have := hw ((((List.range len).map D).length + ((List.range (m - len)).map fun j => D (len + j)).length) * P.bytesOf e) (by simp only [DataW.weights, ht, List.mem_cons]; exact .inl trivial)
      simp only [List.length_map, List.length_range] at this
      exact Nat.le_trans (Nat.mul_le_mul_right _ (by omega)) this
    have one : ∀ i, i < len → ∃ (cs' : List Value) (x : α), cs'.length = k ∧ (∀ j u, cs'[j]? = some u → w.cell? (a.add (i * k + j)) = some u) ∧ R w cs' x ∧ Q x := by
      intro i hi
      obtain ⟨cs', h1, h2⟩ := hall i (by omega)
      obtain ⟨x, hx, hq⟩ := hel n cs' _ h2 (hwD i hi)
      obtain ⟨_, hlen, hc⟩ := World.cells?_some h1
      rw [hk] at hlen hc
      refine ⟨cs', x, hlen, fun j u hu => ?_, hx, hq⟩
      have hj : j < k := by rw [← hlen]; exact (List.getElem?_eq_some_iff.1 hu).1
      have := hc j hj
      rw [Addr.add_add] at this
      rw [this]; exact hu
    have build : ∀ q, q ≤ len → ∃ l : List α, l.length = q ∧ (∀ y ∈ l, Q y) ∧ ∀ i x, l[i]? = some x → ∃ cs' : List Value, cs'.length = k ∧ (∀ j u, cs'[j]? = some u → w.cell? (a.add (i * k + j)) = some u) ∧ R w cs' x := by
      intro q
      induction q with
      | zero => exact fun _ => ⟨[], rfl, by simp, fun i x h => by simp at h⟩
      | succ q ih =>
        intro hq
        obtain ⟨l, h1, hs, h2⟩ := ih (by omega)
        obtain ⟨cs', x, h3, h4, h5, h6⟩ := one q (by omega)
        refine ⟨l ++ [x], by simp [h1], ?_, fun i y hy => ?_⟩
        · intro y hy
          rcases List.mem_append.1 hy with hy | hy
          · exact hs y hy
          · simp at hy; subst hy; exact h6
        by_cases hi : i < q
        · rw [List.getElem?_append_left (by omega)] at hy; exact h2 i y hy
        · have : i = q := by have := (List.getElem?_eq_some_iff.1 hy).1; simp [h1] at this; omega
          subst this
          rw [List.getElem?_append_right (by omega)] at hy
          simp [h1] at hy; subst hy
          exact ⟨cs', h3, h4, h5⟩
    obtain ⟨l, h1, hs, h2⟩ := build len (Nat.le_refl _)
    subst h1
    refine ⟨_, l, rfl, ⟨a, cap, rfl, hl, hm, fun i x hx => ?_⟩, hs, hlen⟩
    obtain ⟨cs', h3, h4, h5⟩ := h2 i x hx
    exact ⟨a, cs', rfl, trivial, h3, h4, h5⟩
theorem set_of_trodW {n : Nat} {cs : List Value} {y : DataW H × List MemPlace} (h : DataW.trod enc Try.prog w base spare held n 24 cs = some y) (hw : ∀ n ∈ y.1.weights Try.prog 24, n ≤ reachBytes) :
    ∃ v l, cs = [v] ∧ RSet (fun _ => True) w v l ∧ l.length * 48 ≤ 140737488355328 := by
  obtain ⟨v, l, h1, h2, _, h4⟩ := SlR.of_trodW (R := RAttr) (Q := fun _ : Attr => True) Try.underlying24 (by kernel_rfl) (fun _ _ _ h _ => by obtain ⟨x, hx⟩ := attr_of_trod h; exact ⟨x, hx, trivial⟩) h hw
  refine ⟨v, l, h1, h2, ?_⟩
  have : Try.prog.bytesOf 46 = 48 := by kernel_rfl
  rw [this] at h4
  exact Nat.le_trans h4 (by decide)
theorem blks_of_trodW {n : Nat} {cs : List Value} {y : DataW H × List MemPlace} (h : DataW.trod enc Try.prog w base spare held n 27 cs = some y) (hw : ∀ n ∈ y.1.weights Try.prog 27, n ≤ reachBytes) :
    ∃ v l, cs = [v] ∧ RBlks (fun _ => True) (fun _ => True) w v l ∧ ∀ b ∈ l, b.set.length * 48 ≤ 140737488355328 := by
  have hel : ∀ n cs' y, DataW.trod enc Try.prog w base spare held n 34 cs' = some y → (∀ n ∈ y.1.weights Try.prog 34, n ≤ reachBytes) → ∃ x : Blk, RBlk (fun _ => True) w cs' x ∧ x.set.length * 48 ≤ 140737488355328 := by
    intro n cs y h hw
    have c0 : Try.prog.cellsOf 34 = 2 := by kernel_rfl
    have c1 : Try.prog.cellsOf 3 = 1 := by kernel_rfl
    have c2 : Try.prog.cellsOf 24 = 1 := by kernel_rfl
    obtain ⟨y0, y1, m, rfl, hl, h0, h1⟩ := trod_struct2 Try.underlying34 h
    rw [c0] at hl
    simp only [c1, c2] at h0 h1
    have hw1 : ∀ n ∈ y1.1.weights Try.prog 24, n ≤ reachBytes := by
      intro n hn
      refine hw n ?_
      simp only [DataW.weights, Try.underlying34, List.map_cons, List.map_nil, DataW.weightsEach, List.mem_append]
      exact .inr (.inl hn)
    match cs, hl with
    | [a0, a1], _ =>
      simp only [List.drop_zero, List.take_succ_cons, List.take_zero, List.drop_succ_cons] at h0 h1
      obtain ⟨k, e0, _, _⟩ := DataW.trod_int Try.underlying3 h0
      obtain ⟨v, l, e1, hs, hz⟩ := set_of_trodW h1 hw1
      cases e0; cases e1
      exact ⟨⟨k, l⟩, ⟨_, rfl, hs⟩, hz⟩
  obtain ⟨v, l, h1, h2, h3, _⟩ := SlR.of_trodW (R := RBlk fun _ => True) (Q := fun b : Blk => b.set.length * 48 ≤ 140737488355328) Try.underlying27 (by kernel_rfl) hel h hw
  exact ⟨v, l, h1, h2, h3⟩
end Go.Proofs.Ytmfplfaeibehiaa
