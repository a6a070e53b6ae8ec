/- The law BlocksCells: it answers true, and leaves all memory as it was. No conditions. -/
import Derived.Test.YtmfplfaeibehiaaLB
namespace Go.Proofs.Ytmfplfaeibehiaa
open Go Go.K

open Classical in
theorem BlocksCells_ok {S D : Nat → Prop} {w : World} {a : Value} {l : List Cel} (ha : RCels S D w a l) :
    callK Try.prog 5 [a] (fun v w' => v = .bool true ∧ Grow w w') w := by
  apply S5_ok
  unfold S5
  obtain ⟨pa, ca, rfl, hla⟩ := ha.shape
  have kn : ∀ {w1}, Grow w w1 → callK Try.prog 14 [] (fun v w' => v = .bool true ∧ Grow w w') w1 := fun hg => callK_mono known_ok fun v w' ⟨e, h⟩ => ⟨e, hg.trans h⟩
  simp only [KS]
  by_cases h500 : (500 : Int) < l.length
  · rw [if_pos h500]; exact kn (Mod.refl _ _)
  rw [if_neg h500]
  refine LoopK_i (fun vs w1 => ∃ (k : Nat), k ≤ l.length ∧ vs = [.int .i64 k] ∧ Grow w w1 ∧ ∀ i c, i < k → l[i]? = some c → c.set.length ≤ 30) (fun vs _ => l.length - iOf vs 0) ⟨0, Nat.zero_le _, rfl, Mod.refl _ _, fun i c h => by omega⟩ ?_
  rintro vs w3 ⟨k, hk, rfl, g3, hset⟩ _
  simp only [KS]
  by_cases hlt : k < l.length
  · rw [if_pos (show (k : Int) < l.length by omega)]
    obtain ⟨p, r, rfl, _, hr, hc, sv, rfl, hs⟩ := ha.get hlt
    refine ixK_n hlt ?_
    simp only [KS]
    refine ld1K_i (g3.cell (hc 1 _ rfl) fun h => h) ?_
    obtain ⟨ps, cs, rfl, _⟩ := hs.shape
    simp only [KS]
    by_cases h30 : (30 : Int) < l[k].set.length
    · rw [if_pos h30]; exact kn g3
    · rw [if_neg h30]
      refine ⟨⟨k + 1, by omega, by rw [wrap64 (by omega) (by omega)]; rfl, g3, fun i c hi hc' => ?_⟩, ?_⟩
      · by_cases e : i = k
        · subst e; rw [List.getElem?_eq_getElem hlt] at hc'; cases hc'; omega
        · exact hset i c (by omega) hc'
      · simp only [iOf, nth, List.headD_cons]; rw [wrap64 (by omega) (by omega)]; omega
  rw [if_neg (show ¬ (k : Int) < l.length by omega)]
  have hke : k = l.length := by omega
  subst hke
  have hall : ∀ c ∈ l, c.set.length ≤ 30 := fun c hc => by
    obtain ⟨i, hi⟩ := List.mem_iff_getElem?.1 hc
    exact hset i c (List.getElem?_eq_some_iff.1 hi).1 hi
  have hbig : l.length ≤ big := by simp only [big]; omega
  obtain ⟨hpl, hnn⟩ := ofB_pl hbig
  have hprop := ofB_prop hbig
  have hplen : (pl (ofB l)).length = l.length := by rw [hpl]; simp
  have hat : atB (ofB l) (ofB l).length = l.length := by
    rw [atB_pl hnn (by rw [hplen]; exact hbig) _ (Nat.le_refl _), List.take_length, hplen]
  have ll := ofB_len l
  refine callK_mono (of_blk (ha.grow g3) (by omega) fun c hc => by have := hall c hc; omega) ?_
  rintro v4 w4 ⟨o4, g4⟩
  have g04 := g3.trans g4
  refine JoinK_i (fun vs w1 => Grow w4 w1) ?_ ?_
  · rintro vs w5 g5 _
    have o5 := o4.grow g5 fun _ _ _ h => h
    refine LoopK_i (fun vs w1 => ∃ (i : Nat), i ≤ l.length ∧ vs = [.int .i64 i] ∧ Grow w5 w1) (fun vs _ => l.length - iOf vs 0) ⟨0, Nat.zero_le _, rfl, Mod.refl _ _⟩ ?_
    rintro vs w6 ⟨i, hi, rfl, g6⟩ _
    simp only [KS]
    by_cases hil : i < l.length
    · rw [if_pos (show (i : Int) < l.length by omega)]
      have g06 := (g04.trans g5).trans g6
      refine JoinK_i (fun vs w1 => Grow w6 w1) ?_ ?_
      · rintro vs w7 g7 _
        refine ⟨⟨i + 1, by omega, by rw [wrap64 (by omega) (by omega)]; rfl, g6.trans g7⟩, ?_⟩
        simp only [iOf, nth, List.headD_cons]; rw [wrap64 (by omega) (by omega)]; omega
      · refine callK_mono (at_blk (OBlks.sl (o5.grow g6 fun _ _ _ h => h)) (fun b hb => by have := ofB_sets (m := 30) hall b hb; omega)) ?_
        rintro v7 w7 ⟨g7, hat7⟩
        obtain ⟨p, r, hp, _, hr, hc, sv, rfl, hs⟩ := ha.get hil
        subst hp
        have g07 := g06.trans g7
        rcases hat7 with ⟨sv7, k, hk, hh, _, rfl, os⟩ | ⟨hno, _⟩
        · have hset7 : (ofB l)[k].set = l[i].inl := by
            have := (hit_pl hnn (by rw [hplen]; exact hbig) hk hh).2
            rw [hpl] at this
            simp [hil] at this
            exact this.symm
          rw [hset7] at os
          refine extK_i rfl (extK_i rfl ?_)
          simp only [KS]
          refine ixK_n hil ?_
          simp only [KS]
          refine ld1K_i (g07.cell (hc 0 _ rfl) fun h => h) ?_
          simp only [KS]
          obtain ⟨pq, cq, hq, _⟩ := OwnR.shape os
          have tail : l[i].r ≠ 10 → ixK 2 (.slice (some p) l.length ca) (.int .i64 i) fun t82 => faK 1 t82 fun t83 => ld1K t83 (fun t84 w15 => callK Try.prog 21 [sv7, t84] (fun t85 w16 => notK t85 fun t86 => condK t86 ((Value.bool false = .bool true) ∧ Grow w w16) (Grow w6 w16)) w15) w7 := by
            intro hne
            refine ixK_n hil ?_
            simp only [KS]
            refine ld1K_i (g07.cell (hc 1 _ rfl) fun h => h) ?_
            refine callK_mono (rsame_set (OwnR.sl os) (hs.grow g07 (by decide) fun _ _ h => h)) ?_
            rintro v8 w8 ⟨rfl, g8⟩
            simp only [KS]
            rw [if_neg (by simp [Cel.inl, hne])]
            exact g7.trans g8
          by_cases hr10 : l[i].r = 10
          · have hnil : l[i].inl = [] := by simp [Cel.inl, hr10]
            rw [hnil] at hq
            rw [if_pos hr10]
            subst hq
            simp only [KS]
            rw [if_neg (by simp)]
            refine ixK_n hil ?_
            simp only [KS]
            refine ld1K_i (g07.cell (hc 0 _ rfl) fun h => h) ?_
            simp only [KS]
            rw [if_neg (fun h => h hr10)]
            exact g7
          · rw [if_neg hr10]
            refine ixK_n hil ?_
            simp only [KS]
            refine ld1K_i (g07.cell (hc 0 _ rfl) fun h => h) ?_
            simp only [KS]
            rw [if_pos hr10]
            exact tail hr10
        · obtain ⟨k, hk, hh⟩ := hit_ex hnn (by rw [hplen]; exact hbig) (i := (i : Int)) (by omega) (by rw [hplen]; omega)
          exact (hno k hk hh).elim
    · rw [if_neg (show ¬ (i : Int) < l.length by omega)]
      exact kn ((g04.trans g5).trans g6)
  · refine callK_mono (rof_blk (ha.grow g04) (by omega) fun c hc => by have := hall c hc; omega) ?_
    rintro v5 w5 ⟨o5, g5⟩
    refine callK_mono (rsame_blk (OBlks.sl (o4.grow g5 fun _ _ _ h => h)) (OBlks.sl o5)) ?_
    rintro v6 w6 ⟨rfl, g6⟩
    rw [decide_eq_true rfl]
    simp only [KS]
    have o6 := (o4.grow g5 fun _ _ _ h => h).grow g6 fun _ _ _ h => h
    refine callK_mono (proper_blk (OBlks.sl o6)) ?_
    rintro v7 w7 ⟨rfl, g7⟩
    rw [decide_eq_true ((propL_iff _).2 hprop)]
    simp only [KS]
    refine callK_mono (len_blk (OBlks.sl (o6.grow g7 fun _ _ _ h => h))) ?_
    rintro v8 w8 ⟨rfl, g8⟩
    rw [hat]
    simp only [KS]
    rw [if_neg (fun h => h (by trivial))]
    exact ((g5.trans g6).trans g7).trans g8
end Go.Proofs.Ytmfplfaeibehiaa
