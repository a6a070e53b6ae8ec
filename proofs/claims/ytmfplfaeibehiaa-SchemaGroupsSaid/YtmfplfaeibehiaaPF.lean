/- Contracts: how long blocks are, what stands at a place. No conditions. -/
import Derived.Test.YtmfplfaeibehiaaPE
namespace Go.K
open Go
theorem add_block (a : Addr) (x : Nat) : (a.add x).block = a.block := by unfold Addr.add; split <;> rfl
theorem Mod.putObj {M : Nat → Prop} (w : World) (b : Nat) (o : Obj) (h : M b) : Mod M w (w.putObj b o) := ⟨rfl, rfl, rfl, by simp, fun k _ hk => World.putObj_heap_other fun e => hk (e ▸ h)⟩
theorem add0 (a : Nat) : (⟨a, 0, none⟩ : Addr).add 0 = ⟨a, 0, none⟩ := by unfold Addr.add; split <;> simp_all
theorem begK_i {It : Nat → Prop} {w W : World} {J : World → Prop} {Jx : Exit → World → Prop} {F : (Exit → World → Prop) → World → Prop} {W1 : World} {M : Nat → Prop} (hm : Mod M W W1) (hz : w.heap.size + 2 ≤ W.heap.size) (hIt : ItOk It w W)
    (hM : ∀ b, b < W.heap.size → M b → ¬ It b ∧ b ≠ w.heap.size ∧ b ≠ w.heap.size + 1) (h : ∀ W2, Mod (fun b => b = w.heap.size + 1) W1 W2 → F (rndP It w W2 J Jx) W2) : begK It w W J Jx F W1 := by
  refine ⟨⟨hm.size, fun b hb => hm.same b ?_ fun hb' => ?_⟩, h⟩
  · rcases hb with hb | rfl | rfl
    · exact (hIt b hb).1
    · omega
    · omega
  · rcases hb with hb | rfl | rfl
    · exact (hM _ (hIt b hb).1 hb').1 hb
    · exact (hM _ (by omega) hb').2.1 rfl
    · exact (hM _ (by omega) hb').2.2 rfl
theorem kpW_i {It : Nat → Prop} {w W W' : World} {M : Nat → Prop} (hm : Mod M W W') (hz : w.heap.size + 2 ≤ W.heap.size) (hIt : ∀ b, It b → b < W.heap.size)
    (hM : ∀ b, b < W.heap.size → M b → ¬ It b ∧ b ≠ w.heap.size ∧ b ≠ w.heap.size + 1) : KpW It w W W' := by
  refine ⟨hm.size, fun b hb => hm.same b ?_ fun hb' => ?_⟩
  · rcases hb with hb | rfl | rfl
    · exact hIt b hb
    · omega
    · omega
  · rcases hb with hb | rfl | rfl
    · exact (hM _ (hIt b hb) hb').1 hb
    · exact (hM _ (by omega) hb').2.1 rfl
    · exact (hM _ (by omega) hb').2.2 rfl
end Go.K
namespace Go.Proofs.Ytmfplfaeibehiaa
open Go Go.K

theorem len_blk {S D : Nat → Prop} {w : World} {v : Value} {l : List Blk} (h : RBlks S D w v l) :
    callK Try.prog 19 [v] (fun v' w' => v' = .int .i64 (atB l l.length) ∧ Grow w w') w := by
  apply S19_ok
  unfold S19
  refine newK_i (st1K_i (v := .int .i64 0) rfl rfl (u := .int .i64 0) (by rw [← add0]; exact cell_box rfl) (World.frozen?_alloc_new ..) ?_)
  generalize hw2 : (w.alloc (.cells [Value.int .i64 0].toArray 3)).setCell ⟨w.heap.size, 0, none⟩ (.int .i64 0) = w2
  have hg2 : Grow w w2 := by
    rw [← hw2]
    exact Mod.next (Mod.alloc (fun _ => False) _ _) (Mod.setCell (M := fun b => b = w.heap.size) _ _ _ rfl) fun b hb e => by omega
  have hz2 : w2.heap.size = w.heap.size + 1 := by rw [← hw2]; simp
  have hc2 : w2.cell? ⟨w.heap.size, 0, none⟩ = some (.int .i64 0) := by
    rw [← hw2]; exact World.cell?_setCell_same' _ _ _ (by rw [← add0 w.heap.size]; rw [cell_box rfl]; rfl)
  have hf2 : w2.frozen? ⟨w.heap.size, 0, none⟩ = false := by rw [← hw2, World.frozen?_setCell]; exact World.frozen?_alloc_new ..
  have hv : ∃ a n c, v = .slice a n c := by obtain ⟨a, c, e, _⟩ := h.shape; exact ⟨a, _, c, e⟩
  obtain ⟨a, n, c, hv⟩ := hv
  refine callK_mono (each_blk (w := w2) hv) ?_
  rintro f w3 ⟨rfl, hw3⟩
  have hg3 : Grow w2 w3 := by rw [hw3]; exact Mod.alloc _ _ _
  have hz3 : w3.heap.size = w.heap.size + 2 := by rw [hw3]; simp [hz2]
  have h3 : RBlks (fun b => S b ∧ b < w.heap.size) D w3 v l := (h.old (by decide)).grow (hg2.trans hg3) (by decide) fun r x hx => hx.mod (hg2.trans hg3) (fun _ _ _ h => h) fun _ _ h => h
  obtain ⟨svs, hsv, hseq⟩ := each_seq h3 (bx := ⟨w2.heap.size, 0, none⟩) (by rw [hw3, ← add0]; exact cell_box rfl) (fun b hb => by omega)
  have hc3 := hg3.cell hc2 fun h => h
  have hf3 := (Mod.frozen hg3 (a := ⟨w.heap.size, 0, none⟩) (show w.heap.size < w2.heap.size by omega) fun h => h).trans hf2
  refine ⟨True, _, _, _, _, _, rfl, by kernel_rfl, hseq, fun k _ => rfl, ?_⟩
  refine ⟨fun k It W => W.cell? ⟨w.heap.size, 0, none⟩ = some (.int .i64 (atB l k)) ∧ W.frozen? ⟨w.heap.size, 0, none⟩ = false ∧ Mod (fun b => b = w.heap.size) w3 W, fun _ _ _ => False, ⟨by rw [hc3]; rfl, hf3, Mod.refl _ _⟩, ?_, ?_, ?_, ?_, ?_, ?_⟩
  · rintro k It It' W W' ⟨q1, q2, q3⟩ hm _
    have hne : ¬ ((¬ True ∧ It w.heap.size) ∨ w.heap.size = w3.heap.size ∨ w.heap.size = w3.heap.size + 1) := by rintro (⟨h, _⟩ | h | h); exact h trivial; all_goals omega
    have hlt : w.heap.size < W.heap.size := World.block_lt_of_cell? W ⟨w.heap.size, 0, none⟩ q1
    refine ⟨hm.cell q1 hne, (hm.frozen hlt hne).trans q2, q3.next hm fun b hb => ?_⟩
    rintro (⟨h, _⟩ | h | h)
    · exact (h trivial).elim
    all_goals omega
  · rintro x It It' W W' h; exact h.elim
  · rintro k It W ⟨_, _, q3⟩ b hb hr
    exact q3.same b hb (by omega)
  · rintro k It W hk ⟨q1, q2, q3⟩ hz hIt
    rw [encB_at hk]
    simp only [nth, List.headD_cons, List.tail_cons]
    refine newK_i (stnew (vs := [.int .i64 l[k].n, svs k]) rfl (RBlk.one (b := l[k]) ⟨svs k, rfl, hsv k hk⟩) ?_)
    generalize hW1 : W.alloc (.cells [.int .i64 l[k].n, svs k].toArray 34) = W1
    have hgW : Grow W W1 := by rw [← hW1]; exact Mod.alloc _ _ _
    refine begK_i hgW hz hIt (fun _ _ h => h.elim) fun W2 hm2 => ?_
    have hzW : W1.heap.size = W.heap.size + 1 := by rw [← hW1]; simp
    have hlW : w.heap.size < W.heap.size := World.block_lt_of_cell? W ⟨w.heap.size, 0, none⟩ q1
    have hb1 : W2.cell? ((⟨W.heap.size, 0, none⟩ : Addr).add 0) = some (.int .i64 l[k].n) := hm2.cell (by rw [← hW1]; exact cell_box rfl) (by rw [add_block]; show ¬ W.heap.size = _; omega)
    have hb2 : W2.cell? ⟨w.heap.size, 0, none⟩ = some (.int .i64 (atB l k)) := hm2.cell (hgW.cell q1 fun h => h) (by show ¬ w.heap.size = _; omega)
    have hb3 : W2.frozen? ⟨w.heap.size, 0, none⟩ = false := (hm2.frozen (show w.heap.size < W1.heap.size by omega) (by show ¬ w.heap.size = _; omega)).trans ((hgW.frozen hlW fun h => h).trans q2)
    simp only [KS]
    refine ld1K_i hb1 ?_
    simp only [KS]
    refine st1K_i rfl rfl hb2 hb3 ?_
    have hm3 : Mod (fun b => b = w.heap.size) W2 (W2.setCell ⟨w.heap.size, 0, none⟩ (.int .i64 (IntKind.i64.wrap (atB l k + l[k].n)))) := Mod.setCell _ _ _ rfl
    have hzs := hm2.size
    refine ⟨kpW_i hm3 (by omega) (fun b hb => by have := (hIt b hb).1; omega) (fun b _ e => ⟨fun hb => by have := (hIt b hb).2; omega, by omega, by omega⟩), ?_, ?_, ?_⟩
    · rw [atB_succ hk]; exact World.cell?_setCell_same' _ _ _ (by rw [hb2]; rfl)
    · rw [World.frozen?_setCell]; exact hb3
    · refine ((q3.next hgW fun _ _ h => h.elim).next hm2 fun b hb e => by omega).next hm3 fun b hb e => e
  · rintro It W ⟨q1, q2, q3⟩ _ _ hd
    refine ld1K_i q1 ⟨hd, rfl, ?_⟩
    have hmp : Mod (fun b => b = w3.heap.size) W (W.putObj w3.heap.size (.deferred none)) := Mod.putObj _ _ _ rfl
    exact ((hg2.trans hg3).next q3 fun b hb e => by omega).next hmp fun b hb e => by omega
  · rintro x It W h; exact h.elim
end Go.Proofs.Ytmfplfaeibehiaa
