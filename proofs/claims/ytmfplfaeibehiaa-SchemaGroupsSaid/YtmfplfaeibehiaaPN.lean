/- What is tame; the law BlocksPlaces: it answers true, and leaves all memory as it was. No conditions. -/
import Derived.Test.YtmfplfaeibehiaaLB
namespace Go.Proofs.Ytmfplfaeibehiaa
open Go Go.K

def Tame1 (b : Blk) : Prop := 0 ≤ b.n ∧ b.n ≤ 1099511627776 ∧ b.set.length ≤ 30
instance (b : Blk) : Decidable (Tame1 b) := by unfold Tame1; infer_instance
def TameB (l : List Blk) : Prop := l.length ≤ 200 ∧ ∀ b ∈ l, Tame1 b
instance (l : List Blk) : Decidable (TameB l) := by unfold TameB; infer_instance
theorem tame_ok {S D : Nat → Prop} {w : World} {v : Value} {l : List Blk} (h : RBlks S D w v l) :
    callK Try.prog 18 [v] (fun v' w' => v' = .bool (decide (TameB l)) ∧ Grow w w') w := by
  apply S18_ok
  unfold S18
  obtain ⟨a, c, rfl, hm⟩ := h.shape
  simp only [KS]
  by_cases h200 : (200 : Int) < l.length
  · rw [if_pos h200]
    exact ⟨by rw [decide_eq_false]; rintro ⟨h1, _⟩; omega, Mod.refl _ _⟩
  rw [if_neg h200]
  refine LoopK_i (fun vs w1 => ∃ (k : Nat), k ≤ l.length ∧ vs = [.int .i64 k] ∧ Grow w w1 ∧ ∀ i c, i < k → l[i]? = some c → Tame1 c) (fun vs _ => l.length - iOf vs 0) ⟨0, Nat.zero_le _, rfl, Mod.refl _ _, fun i c h => by omega⟩ ?_
  rintro vs w1 ⟨k, hk, rfl, hg, hset⟩ _
  simp only [KS]
  by_cases hlt : k < l.length
  · rw [if_pos (show (k : Int) < l.length by omega)]
    obtain ⟨p, r, rfl, _, hr, hc, sv, rfl, hs⟩ := h.get hlt
    have no : ¬ Tame1 l[k] → (Value.bool false = .bool (decide (TameB l))) ∧ Grow w w1 := fun hn => ⟨by rw [decide_eq_false]; rintro ⟨_, h2⟩; exact hn (h2 _ (by simp)), hg⟩
    refine ixK_n hlt ?_
    simp only [KS]
    refine ld1K_i (hg.cell (hc 0 _ rfl) fun h => h) ?_
    simp only [KS]
    by_cases h0 : l[k].n < 0
    · rw [if_pos h0]; exact no fun hh => by have := hh.1; omega
    rw [if_neg h0]
    refine ixK_n hlt ?_
    simp only [KS]
    refine ld1K_i (hg.cell (hc 0 _ rfl) fun h => h) ?_
    simp only [KS]
    by_cases h1 : 1099511627776 < l[k].n
    · rw [if_pos h1]; exact no fun hh => by have := hh.2.1; omega
    rw [if_neg h1]
    refine ixK_n hlt ?_
    simp only [KS]
    refine ld1K_i (hg.cell (hc 1 _ rfl) fun h => h) ?_
    obtain ⟨ps, cs, rfl, _⟩ := hs.shape
    simp only [KS]
    by_cases h30 : (30 : Int) < l[k].set.length
    · rw [if_pos h30]; exact no fun hh => by have := hh.2.2; omega
    rw [if_neg h30]
    refine ⟨⟨k + 1, by omega, by rw [wrap64 (by omega) (by omega)]; rfl, hg, fun i c hi hc' => ?_⟩, ?_⟩
    · by_cases e : i = k
      · subst e; rw [List.getElem?_eq_getElem hlt] at hc'; cases hc'; exact ⟨by omega, by omega, by omega⟩
      · exact hset i c (by omega) hc'
    · simp only [iOf, nth, List.headD_cons]; rw [wrap64 (by omega) (by omega)]; omega
  · rw [if_neg (show ¬ (k : Int) < l.length by omega)]
    have : k = l.length := by omega
    subst this
    refine ⟨?_, hg⟩
    rw [decide_eq_true]
    refine ⟨by omega, fun c hc => ?_⟩
    obtain ⟨i, hi⟩ := List.mem_iff_getElem?.1 hc
    exact hset i c (List.getElem?_eq_some_iff.1 hi).1 hi
theorem pl_le : ∀ (l : List Blk), (∀ b ∈ l, Tame1 b) → (pl l).length ≤ l.length * 1099511627776 := by
  intro l
  induction l with
  | nil => intro _; simp [pl]
  | cons b l ih =>
    intro h
    have h1 := ih fun c hc => h c (by simp [hc])
    have h2 := (h b (by simp))
    rw [pl_cons, List.length_append, rep_len, List.length_cons, Nat.add_mul]
    have := h2.1
    have := h2.2.1
    omega
theorem TameB.big {l : List Blk} (h : TameB l) : (pl l).length ≤ 219902325555200 := by
  have h1 := pl_le l h.2
  have h2 : l.length * 1099511627776 ≤ 200 * 1099511627776 := Nat.mul_le_mul_right _ h.1
  omega
theorem TameB.nn {l : List Blk} (h : TameB l) : NonNeg l := fun b hb => (h.2 b hb).1
theorem TameB.le {l : List Blk} (h : TameB l) : (pl l).length ≤ Go.Proofs.Ytmfplfaeibehiaa.big := by have := h.big; simp only [Go.Proofs.Ytmfplfaeibehiaa.big]; omega
theorem TameB.sets {l : List Blk} (h : TameB l) : ∀ b ∈ l, b.set.length ≤ 30 := fun b hb => (h.2 b hb).2.2
theorem atB_len {l : List Blk} (hn : NonNeg l) (hb : (pl l).length ≤ big) : atB l l.length = (pl l).length := by
  rw [atB_pl hn hb _ (Nat.le_refl _), List.take_length]
/-- At, told by places -/
theorem at_pl {S D : Nat → Prop} {w : World} {v : Value} {l : List Blk} {i : Nat} {K : Cont} (h : RBlks S D w v l) (hset : ∀ b ∈ l, b.set.length ≤ 30) (hn : NonNeg l) (hb : (pl l).length ≤ big)
    (h1 : ∀ sv s w', (pl l)[i]? = some s → OSet w.heap.size w' sv s → Grow w w' → K (.tuple #[sv, .bool true]) w') (h2 : ∀ w', (pl l).length ≤ i → Grow w w' → K (.tuple #[.slice none 0 0, .bool false]) w') :
    callK Try.prog 20 [v, .int .i64 i] K w := by
  refine callK_mono (at_blk h fun b hb => by have := hset b hb; omega) ?_
  rintro v' w' ⟨hg, ⟨sv, k, hk, hh, _, rfl, ho⟩ | ⟨hno, rfl⟩⟩
  · have := (hit_pl hn hb hk hh).2
    exact h1 sv _ w' (by simpa using this) ho hg
  · refine h2 w' ?_ hg
    rcases Nat.lt_or_ge i (pl l).length with hlt | hge
    · obtain ⟨k, hk, hh⟩ := hit_ex hn hb (i := (i : Int)) (by omega) (by omega)
      exact (hno k hk hh).elim
    · exact hge
theorem join_same {l m : List Blk} (hl : (pl l).length ≤ big) (hm : (pl m).length ≤ big) : joinB l = joinB m ↔ pl l = pl m := by
  constructor
  · intro h
    rw [← (joinB_pl hl).1, ← (joinB_pl hm).1, h]
  · intro h
    exact uniq _ _ (joinB_prop hl) (joinB_prop hm) (by rw [(joinB_pl hl).1, (joinB_pl hm).1, h])

theorem BlocksPlaces_ok {S D S' D' : Nat → Prop} {w : World} {a b : Value} {l m : List Blk} (ha : RBlks S D w a l) (hb : RBlks S' D' w b m) :
    callK Try.prog 4 [a, b] (fun v w' => v = .bool true ∧ Grow w w') w := by
  apply S4_ok
  unfold S4
  obtain ⟨pa, ca, rfl, hla⟩ := ha.shape
  obtain ⟨pb, cb, rfl, hlb⟩ := hb.shape
  have kn : ∀ {w1}, Grow w w1 → callK Try.prog 14 [] (fun v w' => v = .bool true ∧ Grow w w') w1 := fun hg => callK_mono known_ok fun v w' ⟨e, h⟩ => ⟨e, hg.trans h⟩
  simp only [KS]
  refine JoinK_i (fun vs w1 => Grow w w1 ∧ TameB l ∧ TameB m) ?_ ?_
  · rintro vs w1 ⟨g1, tl, tm⟩ _
    have hl200 := tl.1
    have hm200 := tm.1
    refine LoopK_i (fun vs w2 => ∃ (k : Nat), k ≤ l.length ∧ vs = [.int .i64 k] ∧ Grow w w2) (fun vs _ => l.length - iOf vs 0) ⟨0, Nat.zero_le _, rfl, g1⟩ ?_
    rintro vs w2 ⟨k, hk, rfl, g2⟩ _
    simp only [KS]
    by_cases hlt : k < l.length
    · rw [if_pos (show (k : Int) < l.length by omega)]
      obtain ⟨p, r, rfl, _, hr, hc, sv, rfl, hs⟩ := ha.get hlt
      refine ixK_n hlt ?_
      simp only [KS]
      refine ld1K_i (g2.cell (hc 0 _ rfl) fun h => h) ?_
      simp only [KS]
      by_cases h20 : 20 < l[k].n
      · rw [if_pos h20]; exact kn g2
      · rw [if_neg h20]
        refine ⟨⟨k + 1, by omega, by rw [wrap64 (by omega) (by omega)]; rfl, g2⟩, ?_⟩
        simp only [iOf, nth, List.headD_cons]; rw [wrap64 (by omega) (by omega)]; omega
    rw [if_neg (show ¬ (k : Int) < l.length by omega)]
    refine LoopK_i (fun vs w2 => ∃ (k : Nat), k ≤ m.length ∧ vs = [.int .i64 k] ∧ Grow w w2) (fun vs _ => m.length - iOf vs 0) ⟨0, Nat.zero_le _, rfl, g2⟩ ?_
    rintro vs w3 ⟨k', hk', rfl, g3⟩ _
    simp only [KS]
    by_cases hlt' : k' < m.length
    · rw [if_pos (show (k' : Int) < m.length by omega)]
      obtain ⟨p, r, rfl, _, hr, hc, sv, rfl, hs⟩ := hb.get hlt'
      refine ixK_n hlt' ?_
      simp only [KS]
      refine ld1K_i (g3.cell (hc 0 _ rfl) fun h => h) ?_
      simp only [KS]
      by_cases h20 : 20 < m[k'].n
      · rw [if_pos h20]; exact kn g3
      · rw [if_neg h20]
        refine ⟨⟨k' + 1, by omega, by rw [wrap64 (by omega) (by omega)]; rfl, g3⟩, ?_⟩
        simp only [iOf, nth, List.headD_cons]; rw [wrap64 (by omega) (by omega)]; omega
    rw [if_neg (show ¬ (k' : Int) < m.length by omega)]
    have sl := tl.sets
    have sm := tm.sets
    have jl := joinB_pl tl.le
    have jm := joinB_pl tm.le
    refine callK_mono (join_blk (ha.grow g3) (by omega) fun b hb => by have := sl b hb; omega) ?_
    rintro v4 w4 ⟨o4, g4⟩
    have g04 := g3.trans g4
    refine callK_mono (join_blk (hb.grow g04) (by omega) fun b hb => by have := sm b hb; omega) ?_
    rintro v5 w5 ⟨o5, g5⟩
    have g05 := g04.trans g5
    refine callK_mono (len_blk (ha.grow g05)) ?_
    rintro v6 w6 ⟨rfl, g6⟩
    have g06 := g05.trans g6
    refine callK_mono (len_blk (hb.grow g06)) ?_
    rintro v7 w7 ⟨rfl, g7⟩
    have g07 := g06.trans g7
    rw [atB_len tl.nn tl.le, atB_len tm.nn tm.le]
    simp only [KS]
    have p7 := (((o4.grow g5 fun _ _ _ h => h).grow g6 fun _ _ _ h => h).grow g7 fun _ _ _ h => h)
    have q7 := ((o5.grow g6 fun _ _ _ h => h).grow g7 fun _ _ _ h => h)
    have bl := tl.big
    have bm := tm.big
    refine LoopK_i (fun vs w8 => ∃ (i : Nat), i ≤ (pl l).length ∧ vs = [.bool (decide ((pl l).length = (pl m).length ∧ (pl l).take i = (pl m).take i)), .int .i64 i] ∧ Grow w7 w8) (fun vs _ => (pl l).length - iOf vs 1)
      ⟨0, Nat.zero_le _, by simp only [List.take_zero, and_true, List.cons.injEq, Value.bool.injEq]; exact ⟨by rw [decide_eq_decide]; omega, rfl⟩, Mod.refl _ _⟩ ?_
    rintro vs w8 ⟨i, hi, rfl, g8⟩ _
    simp only [nth, List.headD_cons, List.tail_cons]
    have g08 := g07.trans g8
    refine callK_mono (len_blk (ha.grow g08)) ?_
    rintro v9 w9 ⟨rfl, g9⟩
    rw [atB_len tl.nn tl.le]
    simp only [KS]
    have g89 := g8.trans g9
    have g09 := g07.trans g89
    by_cases hil : i < (pl l).length
    · rw [if_pos (show (i : Int) < (pl l).length by omega)]
      obtain ⟨s, hs⟩ : ∃ s, (pl l)[i]? = some s := ⟨_, List.getElem?_eq_getElem hil⟩
      refine JoinK_i (fun vs w1 => vs = [.bool (decide ((pl l).length = (pl m).length ∧ (pl l).take (i + 1) = (pl m).take (i + 1)))] ∧ Grow w9 w1) ?_ ?_
      · rintro vs wA ⟨rfl, gA⟩ _
        simp only [KS]
        refine ⟨⟨i + 1, by omega, by rw [wrap64 (by omega) (by omega)]; rfl, g89.trans gA⟩, ?_⟩
        simp only [iOf, nth, List.headD_cons, List.tail_cons]; rw [wrap64 (by omega) (by omega)]; omega
      · refine at_pl (ha.grow g09) sl tl.nn tl.le (fun sv s' wA hs' oA gA => ?_) fun wA hge _ => by omega
        rw [hs] at hs'; cases hs'
        refine extK_i rfl (extK_i rfl ?_)
        have g9A := g09.trans gA
        have p9 : RBlks (fun b => w3.heap.size ≤ b ∧ v4.ownBlock = some b) (fun b => w3.heap.size ≤ b ∧ v4.ownBlock ≠ some b) wA v4 (joinB l) := OBlks.sl ((p7.grow g89 fun _ _ _ h => h).grow gA fun _ _ _ h => h)
        refine at_pl p9 (fun b hb => joinB_sets sl b hb) jl.2 (by rw [jl.1]; exact tl.le) (fun sv' s' wB hs' oB gB => ?_) fun wB hge _ => by rw [jl.1] at hge; omega
        rw [jl.1, hs] at hs'; cases hs'
        refine extK_i rfl (extK_i rfl ?_)
        have gAB := g9A.trans gB
        refine JoinK_i (fun vs w1 => Grow wB w1) ?_ ?_
        · rintro vs wC gC _
          have oA' : RSet (fun _ => True) wC sv s := SlR.grow (SlR.grow (SlR.sub (OwnR.sl oA) (fun _ _ _ => trivial) (by decide) fun _ _ h => h) gB (by decide) fun _ _ h => h) gC (by decide) fun _ _ h => h
          have gBC := (gA.trans gB).trans gC
          refine at_pl (hb.grow (gAB.trans gC)) sm tm.nn tm.le (fun sv'' s'' wD hs'' oD gD => ?_) fun wD hge gD => ?_
          · refine extK_i rfl (extK_i rfl ?_)
            simp only [KS]
            have hle : i < (pl m).length := (List.getElem?_eq_some_iff.1 hs'').1
            have e1 : (pl l).take (i + 1) = (pl l).take i ++ [s] := by rw [List.take_add_one, hs]; rfl
            have e2 : (pl m).take (i + 1) = (pl m).take i ++ [s''] := by rw [List.take_add_one, hs'']; rfl
            by_cases hsame : (pl l).length = (pl m).length ∧ (pl l).take i = (pl m).take i
            · rw [if_pos hsame]
              refine callK_mono (rsame_set (oA'.grow gD (by decide) fun _ _ h => h) (OwnR.sl oD)) ?_
              rintro vE wE ⟨rfl, gE⟩
              refine ⟨?_, (gBC.trans gD).trans gE⟩
              congr 2
              rw [decide_eq_decide, e1, e2, hsame.2]
              constructor
              · intro h; exact ⟨hsame.1, by rw [h]⟩
              · rintro ⟨_, h⟩; simpa using h
            · rw [if_neg hsame]
              refine ⟨?_, gBC.trans gD⟩
              congr 2
              symm; rw [decide_eq_false_iff_not]
              rintro ⟨h1, h2⟩
              rw [e1, e2] at h2
              exact hsame ⟨h1, (List.append_inj' h2 rfl).1⟩
          · refine extK_i rfl (extK_i rfl ?_)
            simp only [KS]
            have key : [Value.bool false] = [.bool (decide ((pl l).length = (pl m).length ∧ (pl l).take (i + 1) = (pl m).take (i + 1)))] := by
              congr 2
              symm; rw [decide_eq_false_iff_not]
              rintro ⟨h1, _⟩; omega
            split
            · exact ⟨key, gBC.trans gD⟩
            · exact ⟨key, gBC.trans gD⟩
        · simp only [KS]
          have oA' : RSet (fun _ => True) wB sv s := SlR.grow (SlR.sub (OwnR.sl oA) (fun _ _ _ => trivial) (by decide) fun _ _ h => h) gB (by decide) fun _ _ h => h
          refine callK_mono (rsame_set oA' (OwnR.sl oB)) ?_
          rintro vC wC ⟨rfl, gC⟩
          rw [decide_eq_true rfl]
          simp only [KS]
          exact gC
    · rw [if_neg (show ¬ (i : Int) < (pl l).length by omega)]
      have hie : i = (pl l).length := by omega
      subst hie
      refine callK_mono (rsame_blk (OBlks.sl (p7.grow g89 fun _ _ _ h => h)) (OBlks.sl (q7.grow g89 fun _ _ _ h => h))) ?_
      rintro vA wA ⟨rfl, gA⟩
      have e : decide (joinB l = joinB m) = decide ((pl l).length = (pl m).length ∧ (pl l).take (pl l).length = (pl m).take (pl l).length) := by
        rw [decide_eq_decide, join_same tl.le tm.le]
        constructor
        · intro h; exact ⟨by rw [h], by rw [h]⟩
        · rintro ⟨h1, h2⟩
          rw [List.take_length, h1, List.take_length] at h2
          exact h2
      rw [e]
      simp only [beqK_i, condK_b, beq_self_eq_true, if_true]
      exact kn (g09.trans gA)
  · by_cases h1 : (60 : Int) < l.length
    · rw [if_pos h1]; exact kn (Mod.refl _ _)
    rw [if_neg h1]
    by_cases h2 : (60 : Int) < m.length
    · rw [if_pos h2]; exact kn (Mod.refl _ _)
    rw [if_neg h2]
    refine callK_mono (tame_ok ha) ?_
    rintro v1 w1 ⟨rfl, g1⟩
    simp only [KS]
    by_cases tl : TameB l
    · rw [if_neg (fun h => h tl)]
      refine callK_mono (tame_ok (hb.grow g1)) ?_
      rintro v2 w2 ⟨rfl, g2⟩
      simp only [KS]
      by_cases tm : TameB m
      · rw [if_neg (fun h => h tm)]
        exact ⟨g1.trans g2, tl, tm⟩
      · rw [if_pos tm]; exact kn (g1.trans g2)
    · rw [if_pos tl]; exact kn g1
end Go.Proofs.Ytmfplfaeibehiaa
