/- Contracts: cutting blocks. Conditions: the sizes. -/
import Derived.Test.YtmfplfaeibehiaaPG
namespace Go.Proofs.Ytmfplfaeibehiaa
open Go Go.K

theorem OBlks.low {B B' : Nat} {w : World} {v : Value} {l : List Blk} (h : OBlks B w v l) (hB : B' ≤ B) : OBlks B' w v l := by
  have h1 : OwnR B 34 2 (OBlk fun b => B' ≤ b ∧ v.ownBlock ≠ some b) w v l := OwnR.mod h (Mod.refl (fun _ => False) _) (fun _ _ h => h) fun r x _ hx => hx.mod (Mod.refl (fun _ => False) _) (fun _ _ _ h => h) fun b hb hd => ⟨by omega, hd.2⟩
  exact OwnR.base h1 fun g hg => by have := (OwnR.ownB h g hg).1; omega
theorem OBlks.one {B : Nat} {w : World} {v : Value} {l : List Blk} (h : OBlks B w v l) : v.oneCell' = true ∧ v.cells = #[v] := OwnR.one h
theorem OBlks.ownB {B : Nat} {w : World} {v : Value} {l : List Blk} (h : OBlks B w v l) : ∀ g, v.ownBlock = some g → B ≤ g ∧ g < w.heap.size := OwnR.ownB h
def maxI (a b : Int) : Int := if b > a then b else a
def minI (a b : Int) : Int := if b < a then b else a
def cutN (t j a i : Int) : Int := IntKind.i64.wrap (minI t j - maxI a i)
def cutT (l : List Blk) (i j : Int) : Nat → List Blk
  | 0 => []
  | k + 1 => match l[k]? with | some b => addB (cutT l i j k) (cutN (atB l (k + 1)) j (atB l k) i) b.set | none => cutT l i j k
theorem cutT_len (l : List Blk) (i j : Int) : ∀ k, (cutT l i j k).length ≤ k := by
  intro k
  induction k with
  | zero => simp [cutT]
  | succ k ih =>
    simp only [cutT]
    split
    · exact Nat.le_trans (addB_len _ _ _) (by omega)
    · omega
theorem cutT_succ {l : List Blk} {i j : Int} {k : Nat} (h : k < l.length) : cutT l i j (k + 1) = addB (cutT l i j k) (cutN (atB l (k + 1)) j (atB l k) i) l[k].set := by
  simp [cutT, List.getElem?_eq_getElem h]
/-- the program's cut -/
def cutB (l : List Blk) (i j : Int) : List Blk :=
  if minI (maxI j 0) (atB l l.length) ≤ maxI i 0 then [] else cutT l (maxI i 0) (minI (maxI j 0) (atB l l.length)) l.length
theorem cut_blk {S D : Nat → Prop} {w : World} {v : Value} {l : List Blk} {i j : Int} (h : RBlks S D w v l) (hl : l.length < 4398046511104) (hset : ∀ b ∈ l, b.set.length * 48 ≤ 140737488355328) :
    callK Try.prog 24 [v, .int .i64 i, .int .i64 j] (fun v' w' => OBlks w.heap.size w' v' (cutB l i j) ∧ Grow w w') w := by
  apply S24_ok
  unfold S24
  refine ⟨rfl, newK_i ⟨rfl, newK_i (newK_i ?_)⟩⟩
  have V1 := Var.new w 3 (.int .i64 i)
  generalize hw1 : w.alloc (.cells [Value.int .i64 i].toArray 3) = w1 at V1 ⊢
  have g1 : Grow w w1 := by rw [← hw1]; exact Mod.alloc _ _ _
  have z1 : w1.heap.size = w.heap.size + 1 := by rw [← hw1]; simp
  have V2 := Var.new w1 3 (.int .i64 j)
  generalize hw2 : w1.alloc (.cells [Value.int .i64 j].toArray 3) = w2 at V2 ⊢
  have g2 : Grow w1 w2 := by rw [← hw2]; exact Mod.alloc _ _ _
  have z2 : w2.heap.size = w.heap.size + 2 := by rw [← hw2]; simp [z1]
  have V3 := Var.new w2 27 (.slice none 0 0)
  generalize hw3 : w2.alloc (.cells [Value.slice none 0 0].toArray 27) = w3 at V3 ⊢
  have g3 : Grow w2 w3 := by rw [← hw3]; exact Mod.alloc _ _ _
  have z3 : w3.heap.size = w.heap.size + 3 := by rw [← hw3]; simp [z2]
  have g4 : Grow w3 w3.drew := Mod.drew _ _
  have z4 : w3.drew.heap.size = w.heap.size + 3 := z3
  generalize w3.drew = w4 at g4 z4 ⊢
  replace V1 := ((V1.grow g2).grow g3).grow g4
  replace V2 := (V2.grow g3).grow g4
  replace V3 := V3.grow g4
  rw [z1] at V2
  rw [z2] at V3
  rw [z1, z2]
  have g04 : Grow w w4 := ((g1.trans g2).trans g3).trans g4
  refine ⟨fun k b => (k = 7 ∧ b = w.heap.size) ∨ (k = 8 ∧ b = w.heap.size + 1), ?_⟩
  refine ⟨_, _, rfl, ⟨V1.1, fun k hk => ?_⟩, ?_⟩
  · have h7 : k ≠ 7 := by rintro rfl; revert hk; decide
    rintro (⟨h, _⟩ | ⟨_, h⟩)
    · exact h7 h
    · simp only at h; omega
  simp only [KS]
  refine ⟨_, _, rfl, ⟨V2.1, fun k hk => ?_⟩, ?_⟩
  · have h8 : k ≠ 8 := by rintro rfl; revert hk; decide
    rintro (⟨_, h⟩ | ⟨h, _⟩)
    · simp only at h; omega
    · exact h8 h
  simp only [KS]
  have h0 : RBlks (fun b => S b ∧ b < w.heap.size) (fun b => D b ∧ b < w.heap.size) w v l := (h.old (by decide)).mono (fun _ _ h => h) (fun b hb _ => rfl) (by decide) fun r x hx => by
    obtain ⟨sv, rfl, hs⟩ := hx
    exact ⟨sv, rfl, hs.old (by decide)⟩
  have gro : ∀ {w'}, Grow w w' → RBlks (fun b => S b ∧ b < w.heap.size) (fun b => D b ∧ b < w.heap.size) w' v l := fun hg => h0.grow hg (by decide) fun r x hx => hx.mod hg (fun _ _ _ h => h) fun _ _ h => h
  refine callK_mono (len_blk (gro g04)) ?_
  rintro t15 w5 ⟨rfl, g5⟩
  refine ⟨Grow.mod g5, ?_⟩
  simp only [KS]
  refine (V1.grow g5).st rfl rfl fun V6 m6 => ⟨m6.mono fun b _ e => .inl ⟨by trivial, e⟩, ?_⟩
  refine ((V2.grow g5).mod m6 (by omega)).st rfl rfl fun V7 m7 => ⟨m7.mono fun b _ e => .inr ⟨by trivial, e⟩, ?_⟩
  replace V6 := V6.mod m7 (by omega)
  have V8 := ((V3.grow g5).mod m6 (by omega)).mod m7 (by omega)
  have g05 : Grow w w5 := g04.trans g5
  have m07 := ((g05.next m6 fun b hb e => by omega).next m7 fun b hb e => by omega : Grow w _)
  have zz := g5.size
  have zz6 := m6.size
  have zz7 := m7.size
  generalize hI : (if i < 0 then (0 : Int) else i) = i'
  generalize hJ : (if atB l l.length < (if j < 0 then (0 : Int) else j) then atB l l.length else (if j < 0 then (0 : Int) else j)) = j'
  have hci : (if (0 : Int) > i then (0 : Int) else i) = i' := hI
  have hcj : (if atB l l.length < (if (0 : Int) > j then (0 : Int) else j) then atB l l.length else (if (0 : Int) > j then (0 : Int) else j)) = j' := hJ
  have hcut : cutB l i j = if j' ≤ i' then [] else cutT l i' j' l.length := by
    unfold cutB maxI minI; rw [hci, hcj]
  simp only [gt_iff_lt] at V6 V7 V8 m07 zz6 zz7 m6 m7 ⊢
  rw [hI] at V6 V7 V8 m07 zz6 zz7 m6 m7
  rw [hJ] at V6 V7 V8 m07 zz7 m7
  generalize hw7 : ((w5.setCell ⟨w.heap.size, 0, none⟩ (.int .i64 i')).setCell ⟨w.heap.size + 1, 0, none⟩ (.int .i64 j')) = w7 at V6 V7 V8 m07 zz7 ⊢
  obtain ⟨a, n, c, hv⟩ : ∃ a n c, v = .slice a n c := by obtain ⟨a, c, e, _⟩ := h.shape; exact ⟨a, _, c, e⟩
  refine callK_mono (each_blk (w := w7) hv) ?_
  rintro f w8 ⟨rfl, hw8⟩
  have g8 : Grow w7 w8 := by rw [hw8]; exact Mod.alloc _ _ _
  have z8 : w.heap.size + 4 ≤ w8.heap.size := by rw [hw8]; simp; omega
  have g08 : Grow w w8 := m07.trans g8
  obtain ⟨svs, hsv, hseq⟩ := each_seq (gro g08) (bx := ⟨w7.heap.size, 0, none⟩) (by rw [hw8, ← add0]; exact cell_box rfl) (fun b hb => by omega)
  replace V6 := V6.grow g8
  replace V7 := V7.grow g8
  replace V8 := V8.grow g8
  refine ⟨True, _, _, _, _, _, rfl, by kernel_rfl, hseq, fun k _ => rfl, ?_⟩
  refine ⟨fun k It W => Var W w.heap.size (.int .i64 i') ∧ Var W (w.heap.size + 1) (.int .i64 j') ∧ (∃ v, Var W (w.heap.size + 2) v ∧ OBlks (w8.heap.size + 2) W v (cutT l i' j' k) ∧ ∀ b, It b → v.ownBlock ≠ some b) ∧ Mod (fun b => b = w.heap.size + 2) w8 W ∧ (0 < k → ¬ j' ≤ i'),
    fun x It W => x = .exit 0 ∧ j' ≤ i' ∧ (∃ v, Var W (w.heap.size + 2) v ∧ OBlks (w8.heap.size + 2) W v []) ∧ Mod (fun b => b = w.heap.size + 2) w8 W, ⟨V6, V7, ⟨_, V8, OwnR.nil, fun _ h => h.elim⟩, Mod.refl _ _, fun h => by omega⟩, ?_, ?_, ?_, ?_, ?_, ?_⟩
  · rintro k It It' W W' ⟨q1, q2, ⟨v, q3, q4, q5⟩, q6, q7⟩ hm hIt
    refine ⟨q1.mod hm ?_, q2.mod hm ?_, ⟨v, q3.mod hm ?_, q4.grow hm fun b hb hB => ?_, fun b hb e => ?_⟩, q6.next hm fun b hb => ?_, q7⟩
    any_goals (rintro (⟨h, _⟩ | h | h); exact (h trivial).elim; all_goals omega)
    rcases (hIt b hb).1 with h1 | h1
    · exact q5 b h1 e
    · have := (OBlks.ownB q4 b e).2; omega
  · rintro x It It' W W' ⟨rfl, q0, ⟨v, q3, q4⟩, q6⟩ hm hIt
    refine ⟨rfl, q0, ⟨v, q3.mod hm ?_, q4.grow hm fun b hb hB => ?_⟩, q6.next hm fun b hb => ?_⟩
    all_goals (rintro (⟨h, _⟩ | h | h); exact (h trivial).elim; all_goals omega)
  · rintro k It W ⟨_, _, _, q6, _⟩ b hb hr
    exact q6.same b hb (by omega)
  · rintro k It W hk ⟨q1, q2, ⟨v, q3, q4, q5⟩, q6, q7⟩ hz hIt
    rw [encB_at hk]
    simp only [nth, List.headD_cons, List.tail_cons]
    refine newK_i (stnew (vs := [.int .i64 l[k].n, svs k]) rfl (RBlk.one (b := l[k]) ⟨svs k, rfl, hsv k hk⟩) ?_)
    generalize hW1 : W.alloc (.cells [.int .i64 l[k].n, svs k].toArray 34) = W1
    have hgW : Grow W W1 := by rw [← hW1]; exact Mod.alloc _ _ _
    refine begK_i hgW hz hIt (fun _ _ h => h.elim) fun W2 hm2 => ?_
    have hzW : W1.heap.size = W.heap.size + 1 := by rw [← hW1]; simp
    have hzs := hm2.size
    have hb0 : W2.cell? ((⟨W.heap.size, 0, none⟩ : Addr).add 0) = some (.int .i64 l[k].n) := hm2.cell (by rw [← hW1]; exact cell_box rfl) (by rw [add_block]; show ¬ W.heap.size = _; omega)
    have hb1 : W2.cell? ((⟨W.heap.size, 0, none⟩ : Addr).add 1) = some (svs k) := hm2.cell (by rw [← hW1]; exact cell_box rfl) (by rw [add_block]; show ¬ W.heap.size = _; omega)
    have U1 := (q1.grow hgW).mod hm2 (by omega)
    have U2 := (q2.grow hgW).mod hm2 (by omega)
    have U3 := (q3.grow hgW).mod hm2 (by omega)
    have U4 : OBlks (w8.heap.size + 2) W2 v (cutT l i' j' k) := (q4.grow hgW fun _ _ _ h => h).grow hm2 fun b hb hB => by omega
    have hItl : ∀ b, It b → b < W2.heap.size := fun b hb => by have := (hIt b hb).1; omega
    have q62 : Mod (fun b => b = w.heap.size + 2) w8 W2 := (q6.next hgW fun _ _ h => h.elim).next hm2 fun b hb e => by omega
    refine U1.ld (U2.ld ?_)
    simp only [KS]
    by_cases hij : j' ≤ i'
    · rw [if_pos hij]
      have hk0 : k = 0 := by
        rcases Nat.eq_zero_or_pos k with h | h
        · exact h
        · exact (q7 h hij).elim
      subst hk0
      exact ⟨kpW_i (Mod.refl (fun _ => False) _) (by omega) hItl (fun _ _ h => h.elim), rfl, hij, ⟨v, U3, U4⟩, q62⟩
    · rw [if_neg hij]
      refine U3.ld ?_
      refine ld1K_i hb0 ?_
      simp only [KS]
      refine U2.ld ?_
      simp only [KS]
      refine U1.ld ?_
      simp only [KS]
      refine ld1K_i hb1 ?_
      have hs2 : RSet (fun b => D b ∧ b < w.heap.size) W2 (svs k) l[k].set := SlR.mod (hsv k hk) q62 (fun b hb hd => by omega) (by decide) fun _ _ h => h
      refine callK_mono (add_blk U4 hs2 (fun b hb e => by have := (OBlks.ownB U4 b e).1; omega) (by omega) (by have := cutT_len l i' j' k; omega) (hset _ (by simp))) ?_
      rintro v' W3 ⟨ho, hm3, hown⟩
      have hne : ∀ b, v.ownBlock = some b → w8.heap.size + 2 ≤ b ∧ b < W2.heap.size := fun b hb => OBlks.ownB U4 b hb
      have hz3 := hm3.size
      have U5 := U3.mod hm3 fun e => by have := (hne _ e).1; omega
      refine U5.st (OBlks.one ho).1 (OBlks.one ho).2 fun U6 hm6 => ?_
      refine ⟨kpW_i (M := fun b => v.ownBlock = some b ∨ b = w.heap.size + 2) ((hm3.mono fun b _ e => .inl e).next hm6 fun b hb e => .inr e) (by omega) hItl (fun b _ e => ?_), ?_, ?_, ⟨v', U6, ?_, fun b hb e => ?_⟩, ?_, fun _ => hij⟩
      · rcases e with e | e
        · have := (hne _ e).1
          exact ⟨fun hb => q5 b hb e, by omega, by omega⟩
        · exact ⟨fun hb => by have := (hIt b hb).2; omega, by omega, by omega⟩
      · exact (U1.mod hm3 fun e => by have := (hne _ e).1; omega).mod hm6 (by omega)
      · exact (U2.mod hm3 fun e => by have := (hne _ e).1; omega).mod hm6 (by omega)
      · rw [cutT_succ hk, atB_succ hk]
        exact OBlks.grow ho hm6 fun b hb hB e => by omega
      · rcases hown b e with h1 | h1
        · exact q5 b hb h1
        · have := hItl b hb; omega
      · exact (q62.next hm3 fun b hb e => by have := (hne _ e).1; omega).next hm6 fun b hb e => e
  · rintro It W ⟨q1, q2, ⟨v, q3, q4, q5⟩, q6, q7⟩ _ hz hd
    have hmp := Mod.putObj (M := fun b => b = w8.heap.size) W w8.heap.size (.deferred none) rfl
    refine q3.ld ⟨hd, ?_, (g08.next q6 fun b hb e => by omega).next hmp fun b hb e => by omega⟩
    have h1 := (q4.grow hmp fun b hb hB e => by omega).low (B' := w.heap.size) (by omega)
    have : cutB l i j = cutT l i' j' l.length := by
      rw [hcut]
      by_cases hij : j' ≤ i'
      · rcases Nat.eq_zero_or_pos l.length with h | h
        · rw [if_pos hij, h]; rfl
        · exact (q7 h hij).elim
      · rw [if_neg hij]
    rw [this]; exact h1
  · rintro x It W ⟨rfl, q0, ⟨v, q3, q4⟩, q6⟩ _ hz hd
    have hmp := Mod.putObj (M := fun b => b = w8.heap.size) W w8.heap.size (.deferred none) rfl
    show lookN _ _ _
    simp only [lookN, Nat.beq_refl, cond_true]
    refine q3.ld ⟨hd, ?_, (g08.next q6 fun b hb e => by omega).next hmp fun b hb e => by omega⟩
    have h1 := (q4.grow hmp fun b hb hB e => by omega).low (B' := w.heap.size) (by omega)
    have : cutB l i j = [] := by rw [hcut, if_pos q0]
    rw [this]; exact h1
end Go.Proofs.Ytmfplfaeibehiaa
