/- The law BlocksCuts: it answers true, and leaves all memory as it was. No conditions. -/
import Derived.Test.YtmfplfaeibehiaaPN
namespace Go.Proofs.Ytmfplfaeibehiaa
open Go Go.K

theorem cutB_sets {l : List Blk} {i j : Int} {m : Nat} (h : ∀ b ∈ l, b.set.length ≤ m) : ∀ b ∈ cutB l i j, b.set.length ≤ m := by
  have key : ∀ (i j : Int) k, ∀ b ∈ cutT l i j k, b.set.length ≤ m := by
    intro i j k
    induction k with
    | zero => intro b hb; simp [cutT] at hb
    | succ k ih =>
      intro b hb
      simp only [cutT] at hb
      split at hb
      · rename_i c hc
        rcases addB_sets b hb with e | ⟨d, hd, e⟩
        · rw [e]; exact h c (List.mem_of_getElem? hc)
        · rw [e]; exact ih d hd
      · exact ih b hb
  intro b hb
  unfold cutB at hb
  split at hb
  · simp at hb
  · exact key _ _ _ b hb
theorem cutB_len {l : List Blk} {i j : Int} : (cutB l i j).length ≤ l.length := by
  unfold cutB; split
  · simp
  · exact cutT_len _ _ _ _
theorem pl_cut_len {l : List Blk} (hn : NonNeg l) (hb : (pl l).length ≤ big) (i j : Int) : (pl (cutB l i j)).length ≤ (pl l).length := by
  rw [(cutB_pl hn hb i j).1]; simp; omega
theorem OBlks.reads {B : Nat} {w : World} {v : Value} {l : List Blk} (h : OBlks B w v l) : RBlks (fun b => b < w.heap.size) (fun b => b < w.heap.size) w v l :=
  SlR.sub (OBlks.sl h) (fun b hb _ => hb) (by decide) fun r x hx => hx.mod (Mod.refl (fun _ => False) _) (fun _ _ _ h => h) fun b hb _ => hb
theorem RBlks.mod {S D M : Nat → Prop} {w w' : World} {v : Value} {l : List Blk} (h : RBlks S D w v l) (hm : Mod M w w') (hS : ∀ b, b < w.heap.size → S b → ¬ M b) (hD : ∀ b, b < w.heap.size → D b → ¬ M b) : RBlks S D w' v l :=
  SlR.mono h (fun _ _ h => h) (fun b hb hs => hm.same b hb (hS b hb hs)) (by decide) fun _ _ hx => hx.mod hm hD fun _ _ h => h
theorem take_drop_min {α : Type} (l : List α) (i j k : Nat) (hi : i ≤ j) : ((l.take j).drop i).take k = (l.take (min (i + k) j)).drop i := by
  rw [List.drop_take, List.take_take, List.drop_take]
  congr 1
  omega
open Classical in
theorem BlocksCuts_ok {S D : Nat → Prop} {w : World} {a : Value} {l : List Blk} {i j k : Int} (ha : RBlks S D w a l) (wi : (Lit.int .i64 i).wf = true) (wj : (Lit.int .i64 j).wf = true) (wk : (Lit.int .i64 k).wf = true) :
    callK Try.prog 6 [a, .int .i64 i, .int .i64 j, .int .i64 k] (fun v w' => v = .bool true ∧ Grow w w') w := by
  apply S6_ok
  unfold S6
  have kn : ∀ {w1}, Grow w w1 → callK Try.prog 14 [] (fun v w' => v = .bool true ∧ Grow w w') w1 := fun hg => callK_mono known_ok fun v w' ⟨e, h⟩ => ⟨e, hg.trans h⟩
  refine callK_mono (tame_ok ha) ?_
  rintro v1 w1 ⟨rfl, g1⟩
  simp only [KS]
  by_cases tl : TameB l
  · rw [if_neg (fun h => h tl)]
    have hl200 := tl.1
    have sl := tl.sets
    have hnn := tl.nn
    have hle := tl.le
    have hbg := tl.big
    obtain ⟨jpl, jnn⟩ := joinB_pl hle
    have jpr := joinB_prop hle
    have szs : ∀ {m : List Blk}, (∀ b ∈ m, b.set.length ≤ 30) → ∀ b ∈ m, b.set.length * 48 ≤ 140737488355328 := fun h b hb => by have := h b hb; omega
    refine callK_mono (len_blk (ha.grow g1)) ?_
    rintro v2 w2 ⟨rfl, g2⟩
    rw [atB_len hnn hle]
    have g02 := g1.trans g2
    simp only [KS]
    rw [if_neg (show ¬ ((pl l).length : Int) < 0 by omega)]
    obtain ⟨n, hn⟩ : ∃ n, (pl l).length = n := ⟨_, rfl⟩
    have clamp : ∀ x : Int, ∃ y : Nat, y ≤ n ∧ (if (n : Int) < (if (0 : Int) > x then (0 : Int) else x) then (n : Int) else (if (0 : Int) > x then (0 : Int) else x)) = (y : Int) := by
      intro x
      refine ⟨min x.toNat n, by omega, ?_⟩
      split <;> split <;> omega
    rw [hn]
    obtain ⟨i', hi', ei⟩ := clamp i
    obtain ⟨j', hj', ej⟩ := clamp j
    obtain ⟨k', hk', ek⟩ := clamp k
    rw [ei, ej, ek]
    refine callK_mono (join_blk (ha.grow g02) (by omega) (szs sl)) ?_
    rintro v3 w3 ⟨o3, g3⟩
    have g03 := g02.trans g3
    refine callK_mono (cut_blk (ha.grow g03) (by omega) (szs sl)) ?_
    rintro v4 w4 ⟨o4, g4⟩
    have g04 := g03.trans g4
    refine callK_mono (cut_blk (ha.grow g04) (by omega) (szs sl)) ?_
    rintro v5 w5 ⟨o5, g5⟩
    have g05 := g04.trans g5
    obtain ⟨c1, q1⟩ := cutB_pl hnn hle 0 i'
    obtain ⟨c2, q2⟩ := cutB_pl hnn hle i' n
    have len1 := cutB_len (l := l) (i := 0) (j := i')
    have len2 := cutB_len (l := l) (i := i') (j := n)
    have set1 := cutB_sets (i := 0) (j := i') sl
    have set2 := cutB_sets (i := i') (j := n) sl
    have o4' := o4.grow g5 fun _ _ _ h => h
    refine app_blk o4' o5 (by have := g4.size; omega) (fun g hg => by have := (OBlks.ownB o4 g hg).2; omega) (by have := g4.size; have := g5.size; omega) (by omega) fun v6 w6 o6 m6 => ?_
    have g06 : Grow w w6 := g05.next m6 fun b hb e => by have := (OBlks.ownB o4 b e).1; have := g03.size; omega
    have set6 : ∀ b ∈ cutB l 0 i' ++ cutB l i' n, b.set.length ≤ 30 := fun b hb => by
      rcases List.mem_append.1 hb with hb | hb
      · exact set1 b hb
      · exact set2 b hb
    have pl6 : pl (cutB l 0 i' ++ cutB l i' n) = pl l := by
      rw [pl_append, c1, c2]
      simp only [Int.toNat_zero, List.drop_zero, Int.toNat_natCast]
      rw [← hn, List.take_length, List.take_append_drop]
    have r3 : RBlks (fun b => b < w3.heap.size) (fun b => b < w3.heap.size) w6 v3 (joinB l) := ((OBlks.reads o3).grow (g4.trans g5)).mod m6 (fun b _ hb e => by have := (OBlks.ownB o4 b e).1; omega) fun b _ hb e => by have := (OBlks.ownB o4 b e).1; omega
    refine JoinK_i (fun vs w1 => Grow w w1) ?_ ?_
    · rintro vs w7 g7 _
      refine JoinK_i (fun vs w1 => ∃ x y : Nat, x ≤ y ∧ y ≤ n ∧ vs = [.int .i64 x, .int .i64 y] ∧ Grow w w1) ?_ ?_
      · rintro vs w8 ⟨x, y, hxy, hyn, rfl, g8⟩ _
        simp only [KS]
        refine callK_mono (cut_blk (ha.grow g8) (by omega) (szs sl)) ?_
        rintro v9 w9 ⟨o9, g9⟩
        have g09 := g8.trans g9
        obtain ⟨cp, cpr⟩ := cutB_pl hnn hle (x : Int) (y : Int)
        simp only [Int.toNat_natCast] at cp
        have cln : (pl (cutB l x y)).length = y - x := by rw [cp]; simp; omega
        have cle : (pl (cutB l x y)).length ≤ big := by rw [cln]; simp only [big]; omega
        have clen := cutB_len (l := l) (i := x) (j := y)
        have cset := cutB_sets (i := x) (j := y) sl
        have cnn := propL_nonneg _ cpr
        refine callK_mono (len_blk (OBlks.sl o9)) ?_
        rintro v10 w10 ⟨rfl, g10⟩
        rw [atB_len cnn cle, cln]
        simp only [KS]
        rw [wrap64 (x := (y : Int) - x) (by omega) (by omega)]
        rw [if_pos (show ((y - x : Nat) : Int) = (y : Int) - x by omega)]
        have o10 := o9.grow g10 fun _ _ _ h => h
        have g010 := g09.trans g10
        refine callK_mono (cut_blk (OBlks.sl o10) (by omega) (szs cset)) ?_
        rintro v11 w11 ⟨o11, g11⟩
        have g011 := g010.trans g11
        rw [wrap64 (x := (x : Int) + k') (by omega) (by omega)]
        have hmin : (if (y : Int) < (x : Int) + k' then (y : Int) else (x : Int) + k') = ((min (x + k') y : Nat) : Int) := by split <;> omega
        rw [hmin]
        refine callK_mono (cut_blk (ha.grow g011) (by omega) (szs sl)) ?_
        rintro v12 w12 ⟨o12, g12⟩
        refine callK_mono (rsame_blk (RBlks.grow (OBlks.reads o11) g12) (OBlks.sl o12)) ?_
        rintro v13 w13 ⟨rfl, g13⟩
        have e : cutB (cutB l x y) 0 k' = cutB l x ((min (x + k') y : Nat) : Int) := by
          obtain ⟨d1, d2⟩ := cutB_pl cnn cle 0 (k' : Int)
          obtain ⟨d3, d4⟩ := cutB_pl hnn hle (x : Int) ((min (x + k') y : Nat) : Int)
          refine uniq _ _ d2 d4 ?_
          rw [d1, d3, cp]
          simp only [Int.toNat_natCast, Int.toNat_zero, List.drop_zero]
          exact take_drop_min _ _ _ _ hxy
        rw [e, decide_eq_true rfl]
        exact kn ((g011.trans g12).trans g13)
      · by_cases hgt : (j' : Int) < i'
        · rw [if_pos hgt]; exact ⟨j', i', by omega, by omega, rfl, g7⟩
        · rw [if_neg hgt]; exact ⟨i', j', by omega, by omega, rfl, g7⟩
    · refine callK_mono (join_blk o6 (by simp; omega) (szs set6)) ?_
      rintro v7 w7 ⟨o7, g7⟩
      have r3' := RBlks.grow r3 g7
      refine callK_mono (rsame_blk (OBlks.sl o7) r3') ?_
      rintro v8 w8 ⟨rfl, g8⟩
      rw [decide_eq_true ((join_same (by rw [pl6]; exact hle) hle).2 pl6)]
      simp only [KS]
      have r8 := RBlks.grow r3' g8
      have jlen := joinB_len l
      refine callK_mono (join_blk r8 (by omega) (szs (joinB_sets sl))) ?_
      rintro v9 w9 ⟨o9, g9⟩
      have r9 := RBlks.grow r8 g9
      refine callK_mono (rsame_blk (OBlks.sl o9) r9) ?_
      rintro v10 w10 ⟨rfl, g10⟩
      rw [decide_eq_true ((join_same (by rw [jpl]; exact hle) hle).2 jpl)]
      simp only [KS]
      have r10 := RBlks.grow r9 g10
      refine callK_mono (proper_blk r10) ?_
      rintro v11 w11 ⟨rfl, g11⟩
      rw [decide_eq_true ((propL_iff _).2 jpr)]
      simp only [KS]
      exact ((((g06.trans g7).trans g8).trans g9).trans g10).trans g11
  · rw [if_pos tl]; exact kn g1
end Go.Proofs.Ytmfplfaeibehiaa
