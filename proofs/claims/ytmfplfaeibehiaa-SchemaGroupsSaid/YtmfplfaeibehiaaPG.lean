/- Contracts: what stands at a place. Conditions: the sets' sizes. -/
import Derived.Test.YtmfplfaeibehiaaPF
namespace Go.K
open Go
/-- a variable of one cell -/
def Var (W : World) (b : Nat) (v : Value) : Prop := W.cell? ⟨b, 0, none⟩ = some v ∧ W.frozen? ⟨b, 0, none⟩ = false
theorem Var.lt {W : World} {b : Nat} {v : Value} (h : Var W b v) : b < W.heap.size := World.block_lt_of_cell? W ⟨b, 0, none⟩ h.1
theorem Var.mod {M : Nat → Prop} {W W' : World} {b : Nat} {v : Value} (h : Var W b v) (hm : Mod M W W') (hb : ¬ M b) : Var W' b v := ⟨hm.cell h.1 hb, (hm.frozen (show b < W.heap.size from h.lt) hb).trans h.2⟩
theorem Var.grow {W W' : World} {b : Nat} {v : Value} (h : Var W b v) (hm : Grow W W') : Var W' b v := h.mod hm fun h => h
theorem Var.new (w : World) (t : TypeId) (v : Value) : Var (w.alloc (.cells [v].toArray t)) w.heap.size v := ⟨by rw [← add0]; exact cell_box rfl, World.frozen?_alloc_new ..⟩
theorem Var.set {W : World} {b : Nat} {v : Value} (h : Var W b v) (u : Value) : Var (W.setCell ⟨b, 0, none⟩ u) b u := ⟨World.cell?_setCell_same' _ _ _ (by rw [h.1]; rfl), by rw [World.frozen?_setCell]; exact h.2⟩
theorem Var.mset (W : World) (b : Nat) (u : Value) : Mod (fun x => x = b) W (W.setCell ⟨b, 0, none⟩ u) := Mod.setCell _ _ _ rfl
theorem Var.ld {W : World} {b : Nat} {v : Value} {K : Cont} (h : Var W b v) (hK : K v W) : ld1K (.pointer (some ⟨b, 0, none⟩)) K W := ld1K_i h.1 hK
theorem Var.st {W : World} {b : Nat} {v u : Value} {K : World → Prop} (h : Var W b v) (h1 : u.oneCell' = true) (h2 : u.cells = #[u]) (hK : Var (W.setCell ⟨b, 0, none⟩ u) b u → Mod (fun x => x = b) W (W.setCell ⟨b, 0, none⟩ u) → K (W.setCell ⟨b, 0, none⟩ u)) :
    st1K (.pointer (some ⟨b, 0, none⟩)) u K W := st1K_i h1 h2 h.1 h.2 (hK (h.set u) (Var.mset W b u))
theorem OwnR.one {α : Type} {B e k : Nat} {R : World → List Value → α → Prop} {w : World} {v : Value} {l : List α} (h : OwnR B e k R w v l) : v.oneCell' = true ∧ v.cells = #[v] := by
  obtain ⟨a, c, rfl, _⟩ := OwnR.shape h
  exact ⟨rfl, rfl⟩
end Go.K
namespace Go.Proofs.Ytmfplfaeibehiaa
open Go Go.K

theorem OSet.mod {B : Nat} {M : Nat → Prop} {w w' : World} {v : Value} {l : List Attr} (h : OSet B w v l) (hm : Mod M w w') (hM : ∀ b, b < w.heap.size → B ≤ b → ¬ M b) : OSet B w' v l :=
  OwnR.mod h hm (fun g hg => hM g (OwnR.ownB h g hg).2 (OwnR.ownB h g hg).1) fun _ _ _ h => h
def hitB (l : List Blk) (i : Int) (k : Nat) : Prop := atB l k ≤ i ∧ i < atB l (k + 1)
theorem at_blk {S D : Nat → Prop} {w : World} {v : Value} {l : List Blk} {i : Int} (h : RBlks S D w v l) (hset : ∀ b ∈ l, b.set.length * 48 ≤ 140737488355328) :
    callK Try.prog 20 [v, .int .i64 i] (fun v' w' => Grow w w' ∧ ((∃ sv k, ∃ hk : k < l.length, hitB l i k ∧ (∀ j, j < k → ¬ hitB l i j) ∧ v' = .tuple #[sv, .bool true] ∧ OSet w.heap.size w' sv l[k].set) ∨
      ((∀ k, k < l.length → ¬ hitB l i k) ∧ v' = .tuple #[.slice none 0 0, .bool false]))) w := by
  apply S20_ok
  unfold S20
  refine ⟨rfl, newK_i (newK_i (newK_i ?_))⟩
  have V1 := Var.new w 3 (.int .i64 i)
  generalize hw1 : w.alloc (.cells [Value.int .i64 i].toArray 3) = w1 at V1 ⊢
  have g1 : Grow w w1 := by rw [← hw1]; exact Mod.alloc _ _ _
  have z1 : w1.heap.size = w.heap.size + 1 := by rw [← hw1]; simp
  have V2 := Var.new w1 24 (.slice none 0 0)
  generalize hw2 : w1.alloc (.cells [Value.slice none 0 0].toArray 24) = w2 at V2 ⊢
  have g2 : Grow w1 w2 := by rw [← hw2]; exact Mod.alloc _ _ _
  have z2 : w2.heap.size = w.heap.size + 2 := by rw [← hw2]; simp [z1]
  have V3 := Var.new w2 4 (.bool false)
  generalize hw3 : w2.alloc (.cells [Value.bool false].toArray 4) = w3 at V3 ⊢
  have g3 : Grow w2 w3 := by rw [← hw3]; exact Mod.alloc _ _ _
  have z3 : w3.heap.size = w.heap.size + 3 := by rw [← hw3]; simp [z2]
  obtain ⟨a, n, c, hv⟩ : ∃ a n c, v = .slice a n c := by obtain ⟨a, c, e, _⟩ := h.shape; exact ⟨a, _, c, e⟩
  refine callK_mono (each_blk (w := w3) hv) ?_
  rintro f w4 ⟨rfl, hw4⟩
  have g4 : Grow w3 w4 := by rw [hw4]; exact Mod.alloc _ _ _
  have z4 : w4.heap.size = w.heap.size + 4 := by rw [hw4]; simp [z3]
  have g04 : Grow w w4 := ((g1.trans g2).trans g3).trans g4
  have h4 : RBlks (fun b => S b ∧ b < w.heap.size) (fun b => D b ∧ b < w.heap.size) w4 v l := (h.old (by decide)).mono (fun _ _ h => h) (fun b hb _ => g04.same b hb fun h => h) (by decide) fun r x hx => by
    obtain ⟨sv, rfl, hs⟩ := hx
    exact ⟨sv, rfl, (hs.old (by decide)).grow g04 (by decide) fun _ _ h => h⟩
  obtain ⟨svs, hsv, hseq⟩ := each_seq h4 (bx := ⟨w3.heap.size, 0, none⟩) (by rw [hw4, ← add0]; exact cell_box rfl) (fun b hb => by omega)
  replace V1 := ((V1.grow g2).grow g3).grow g4
  replace V2 := (V2.grow g3).grow g4
  replace V3 := V3.grow g4
  rw [z1] at V2
  rw [z2] at V3
  rw [z1, z2]
  refine ⟨True, _, _, _, _, _, rfl, by kernel_rfl, hseq, fun k _ => rfl, ?_⟩
  refine ⟨fun k It W => Var W w.heap.size (.int .i64 i) ∧ Var W (w.heap.size + 1) (.slice none 0 0) ∧ Var W (w.heap.size + 2) (.bool false) ∧ Grow w4 W ∧ ∀ j, j < k → ¬ hitB l i j,
    fun x It W => x = .ret ∧ ∃ sv k, ∃ hk : k < l.length, hitB l i k ∧ (∀ j, j < k → ¬ hitB l i j) ∧ Var W (w.heap.size + 1) sv ∧ Var W (w.heap.size + 2) (.bool true) ∧ Mod (fun b => b = w.heap.size + 1 ∨ b = w.heap.size + 2) w4 W ∧ OSet (w4.heap.size + 2) W sv l[k].set, ⟨V1, V2, V3, Mod.refl _ _, fun j hj => by omega⟩, ?_, ?_, ?_, ?_, ?_, ?_⟩
  · rintro k It It' W W' ⟨q1, q2, q3, q4, q5⟩ hm _
    refine ⟨q1.mod hm ?_, q2.mod hm ?_, q3.mod hm ?_, q4.next hm fun b hb => ?_, q5⟩
    all_goals (rintro (⟨h, _⟩ | h | h); exact (h trivial).elim; all_goals omega)
  · rintro x It It' W W' ⟨rfl, sv, k, hk, q1, q2, q3, q4, q5, q6⟩ hm _
    refine ⟨rfl, sv, k, hk, q1, q2, q3.mod hm ?_, q4.mod hm ?_, q5.next hm fun b hb => ?_, OSet.mod q6 hm fun b hb hB => ?_⟩
    all_goals (rintro (⟨h, _⟩ | h | h); exact (h trivial).elim; all_goals omega)
  · rintro k It W ⟨_, _, _, q4, _⟩ b hb hr
    exact q4.same b hb fun h => h
  · rintro k It W hk ⟨q1, q2, q3, q4, q5⟩ hz hIt
    rw [encB_at hk]
    simp only [nth, List.headD_cons, List.tail_cons]
    refine newK_i (stnew (vs := [.int .i64 l[k].n, svs k]) rfl (RBlk.one (b := l[k]) ⟨svs k, rfl, hsv k hk⟩) ?_)
    generalize hW1 : W.alloc (.cells [.int .i64 l[k].n, svs k].toArray 34) = W1
    have hgW : Grow W W1 := by rw [← hW1]; exact Mod.alloc _ _ _
    refine begK_i hgW hz hIt (fun _ _ h => h.elim) fun W2 hm2 => ?_
    have hzW : W1.heap.size = W.heap.size + 1 := by rw [← hW1]; simp
    have hzs := hm2.size
    have hb0 : W2.cell? ((⟨W.heap.size, 0, none⟩ : Addr).add 0) = some (.int .i64 l[k].n) := hm2.cell (by rw [← hW1]; exact cell_box rfl) (by rw [add_block]; show ¬ W.heap.size = _; omega)
    have hb1 : W2.cell? ((⟨W.heap.size, 0, none⟩ : Addr).add 1) = some (svs k) := hm2.cell (by rw [← hW1]; exact cell_box rfl) (by rw [add_block]; show ¬ W.heap.size = _; omega)
    have U1 := (q1.grow hgW).mod hm2 (by omega)
    have U2 := (q2.grow hgW).mod hm2 (by omega)
    have U3 := (q3.grow hgW).mod hm2 (by omega)
    have hItl : ∀ b, It b → b < W2.heap.size := fun b hb => by have := (hIt b hb).1; omega
    have g5 : Grow w4 W2 := (q4.trans hgW).next hm2 fun b hb e => by omega
    have stay : ¬ hitB l i k → rndP It w4 W2 (fun W => Var W w.heap.size (.int .i64 i) ∧ Var W (w.heap.size + 1) (.slice none 0 0) ∧ Var W (w.heap.size + 2) (.bool false) ∧ Grow w4 W ∧ ∀ j, j < k + 1 → ¬ hitB l i j)
        (fun x W => x = .ret ∧ ∃ sv k, ∃ hk : k < l.length, hitB l i k ∧ (∀ j, j < k → ¬ hitB l i j) ∧ Var W (w.heap.size + 1) sv ∧ Var W (w.heap.size + 2) (.bool true) ∧ Mod (fun b => b = w.heap.size + 1 ∨ b = w.heap.size + 2) w4 W ∧ OSet (w4.heap.size + 2) W sv l[k].set) .normal W2 := fun hn => by
      refine ⟨kpW_i (Mod.refl (fun _ => False) _) (by omega) hItl (fun _ _ h => h.elim), U1, U2, U3, g5, fun j hj => ?_⟩
      by_cases e : j = k
      · rw [e]; exact hn
      · exact q5 j (by omega)
    refine U1.ld ?_
    simp only [KS]
    by_cases h1 : atB l k ≤ i
    · rw [if_pos h1]
      refine U1.ld ?_
      refine ld1K_i hb0 ?_
      simp only [KS]
      by_cases h2 : i < IntKind.i64.wrap (atB l k + l[k].n)
      · rw [if_pos h2]
        refine ld1K_i hb1 ?_
        have hs2 : RSet (fun b => D b ∧ b < w.heap.size) W2 (svs k) l[k].set := (hsv k hk).grow g5 (by decide) fun _ _ h => h
        refine callK_mono (clone_set hs2 (hset _ (by simp))) ?_
        rintro sv W3 ⟨ho, hg3⟩
        have hz3 := hg3.size
        refine (U2.grow hg3).st (OwnR.one ho).1 (OwnR.one ho).2 fun U4 hm4 => ?_
        have U5 := (U3.grow hg3).mod hm4 (by omega)
        refine U5.st rfl rfl fun U6 hm6 => ?_
        have z4' : W3.heap.size ≤ (W3.setCell ⟨w.heap.size + 1, 0, none⟩ sv).heap.size := hm4.size
        refine ⟨kpW_i (M := fun b => b = w.heap.size + 1 ∨ b = w.heap.size + 2) (((Grow.mod hg3).next hm4 fun b hb e => .inl e).next hm6 fun b hb e => .inr e) (by omega) hItl (fun b _ e => ⟨fun hb => by have := (hIt b hb).2; omega, by omega, by omega⟩),
          rfl, sv, k, hk, ⟨h1, by rw [atB_succ hk]; exact h2⟩, q5, U4.mod hm6 (by omega), U6, ?_, ?_⟩
        · exact ((Grow.mod (g5.trans hg3)).next hm4 fun b hb e => .inl e).next hm6 fun b hb e => .inr e
        · have ho' : OSet (w4.heap.size + 2) W3 sv l[k].set := OwnR.base ho fun g hg => by have := (OwnR.ownB ho g hg).1; omega
          exact OSet.mod (OSet.mod ho' hm4 fun b hb hB => by omega) hm6 fun b hb hB => by omega
      · rw [if_neg h2]
        exact stay fun hh => h2 (by have := hh.2; rw [atB_succ hk] at this; exact this)
    · rw [if_neg h1]
      exact stay fun hh => h1 hh.1
  · rintro It W ⟨q1, q2, q3, q4, q5⟩ _ _ hd
    refine q2.st rfl rfl fun U4 hm4 => (q3.mod hm4 (by omega)).st rfl rfl fun U6 hm6 => ⟨?_, ?_⟩
    · rw [hm6.same _ (by have := hm4.size; have := q4.size; omega) (by omega), hm4.same _ (by have := q4.size; omega) (by omega)]; exact hd
    · have hmp := Mod.putObj (M := fun b => b = w4.heap.size) (((W.setCell ⟨w.heap.size + 1, 0, none⟩ (.slice none 0 0))).setCell ⟨w.heap.size + 2, 0, none⟩ (.bool false)) w4.heap.size (.deferred none) rfl
      refine Var.ld ((U4.mod hm6 (by omega)).mod hmp (by omega)) (Var.ld (U6.mod hmp (by omega)) ⟨?_, .inr ⟨q5, rfl⟩⟩)
      exact (((g04.trans q4).next hm4 fun b hb e => by omega).next hm6 fun b hb e => by omega).next hmp fun b hb e => by omega
  · rintro x It W ⟨rfl, sv, k, hk, q1, q2, q3, q4, q5, q6⟩ _ _ hd
    refine ⟨hd, ?_⟩
    have hmp := Mod.putObj (M := fun b => b = w4.heap.size) W w4.heap.size (.deferred none) rfl
    refine Var.ld (q3.mod hmp (by omega)) (Var.ld (q4.mod hmp (by omega)) ⟨?_, .inl ⟨sv, k, hk, q1, q2, rfl, ?_⟩⟩)
    · exact (g04.next q5 fun b hb e => by omega).next hmp fun b hb e => by omega
    · exact OwnR.base (OSet.mod q6 hmp fun b hb hB => by omega) fun g hg => by have := (OwnR.ownB q6 g hg).1; omega
end Go.Proofs.Ytmfplfaeibehiaa
