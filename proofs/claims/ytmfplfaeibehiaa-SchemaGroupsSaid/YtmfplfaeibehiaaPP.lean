/- Contracts: the document's copy and cut. Conditions: the sizes. -/
import Derived.Test.YtmfplfaeibehiaaPO
namespace Go.Proofs.Ytmfplfaeibehiaa
open Go Go.K

/-- a set appended to an empty one of one's own -/
theorem app_set {S : Nat → Prop} {B : Nat} {w : World} {v sv : Value} {set : List Attr} {K : Cont} (ho : OSet B w v []) (hs : RSet S w sv set) (hB : B ≤ w.heap.size) (hset : set.length * 48 ≤ 140737488355328)
    (hK : ∀ v' w', OSet B w' v' set → Mod (fun b => B ≤ b) w w' → K v' w') :
    runK Try.prog (Builtin.append_ #[24, 24] 24 [v, sv].toArray) K w := by
  have hm : set.length ≤ maxLen := by obtain ⟨_, _, _, h⟩ := hs.shape; exact h
  obtain ⟨v', w', h1, h2, h3, h4⟩ := OwnR.append (ty := 24) elem_attr ho hs (fun _ _ => RAttr.one) (by simpa using hset) hB (by simpa using hm) (fun _ _ _ _ h => h)
  exact runK_i h1 (hK v' w' h2 ((Mod.of_grownBy h3).mono fun b _ e => (OwnR.ownB ho b e).1))
/-- rubricref12.Copy -/
theorem rcopy_blk {S D : Nat → Prop} {w : World} {v : Value} {l : List Blk} (h : RBlks S D w v l) (hl : l.length < 4398046511104) (hset : ∀ b ∈ l, b.set.length * 48 ≤ 140737488355328) :
    callK Try.prog 25 [v] (fun v' w' => OBlks w.heap.size w' v' l ∧ Grow w w') w := by
  apply S25_ok
  unfold S25
  obtain ⟨a, c, rfl, hm⟩ := h.shape
  refine LoopK_i (fun vs w1 => ∃ (k : Nat) (out : Value), k ≤ l.length ∧ vs = [out, .int .i64 k] ∧ OBlks w.heap.size w1 out (l.take k) ∧ Grow w w1) (fun vs _ => l.length - iOf vs 1) ⟨0, _, Nat.zero_le _, rfl, OwnR.nil, Mod.refl _ _⟩ ?_
  rintro vs w1 ⟨k, out, hk, rfl, ho, hg⟩ _
  simp only [KS]
  by_cases hlt : k < l.length
  · rw [if_pos (show (k : Int) < l.length by omega)]
    obtain ⟨p, r, rfl, hS, hr, hc, sv, rfl, hs⟩ := ((h.old (by decide)).get hlt)
    have hgd : Grow w w1.drew := hg.trans (Mod.drew _ _)
    have ho1 : OBlks w.heap.size w1.drew out (l.take k) := OBlks.grow ho (Mod.drew (fun _ => False) _) fun _ _ _ h => h
    refine ⟨fun _ b => w.heap.size ≤ b, ?_⟩
    generalize w1.drew = w2 at hgd ho1 ⊢
    have stay : ∀ x, ¬ w.heap.size ≤ (p.add x).block := fun x e => by rw [add_block] at e; omega
    refine ixK_n hlt ?_
    simp only [KS]
    refine ⟨_, _, rfl, ⟨hgd.cell (hc 0 _ rfl) fun h => h, fun j _ => stay _⟩, ?_⟩
    refine rowK_empty ?_
    have gE : Grow w2 (w2.alloc (.cells #[] 46)) := Mod.alloc _ _ _
    have oE : OSet w2.heap.size (w2.alloc (.cells #[] 46)) (.slice (some ⟨w2.heap.size, 0, none⟩) 0 0) [] := OwnR.made (Nat.le_refl _)
    have zE : (w2.alloc (.cells #[] 46)).heap.size = w2.heap.size + 1 := by simp
    generalize w2.alloc (.cells #[] 46) = w3 at gE oE zE ⊢
    refine ⟨Grow.mod gE, ?_⟩
    refine ixK_n hlt ?_
    simp only [KS]
    refine ⟨_, _, rfl, ⟨hgd.cell (hc 1 _ rfl) fun h => h, fun j _ => stay _⟩, ?_⟩
    have hz2 := hgd.size
    refine app_set oE ((hs.grow hgd (by decide) fun _ _ h => h).grow gE (by decide) fun _ _ h => h) (by omega) (hset _ (by simp)) fun v4 w4 o4 m4 => ?_
    refine ⟨m4.mono fun b _ e => by omega, ?_⟩
    have g24 : Grow w2 w4 := gE.next m4 fun b hb e => by omega
    have hz4 := m4.size
    have hv4 : ∃ sa sc, v4 = .slice sa l[k].set.length sc := by obtain ⟨sa, sc, e, _⟩ := OwnR.shape o4; exact ⟨sa, sc, e⟩
    refine ⟨#[.int .i64 l[k].n, v4], ?_, ?_⟩
    · obtain ⟨sa, sc, rfl⟩ := hv4; kernel_rfl
    have ho4 : OBlks w.heap.size w4 out (l.take k) := ho1.grow g24 fun _ _ _ h => h
    refine push_blk2 ho4 (by omega) (OwnR.base o4 fun g _ => Nat.zero_le _) (fun g hg => ?_) (by simp; omega) (fun w5 g5 => Grow.mod g5) fun w5 v' w' g5 k1 k2 k3 _ => ⟨k2.mono fun b _ e => (OBlks.ownB ho4 b e).1, ?_⟩
    · have h1 := OwnR.ownB o4 g hg
      exact ⟨by omega, fun e => by have := (OBlks.ownB ho1 g e).2; omega, h1.2⟩
    refine ⟨⟨k + 1, v', by omega, by rw [wrap64 (by omega) (by simp only [maxLen] at hm; omega)]; rfl, ?_, ?_⟩, ?_⟩
    · rw [List.take_add_one, List.getElem?_eq_getElem hlt]; exact k1
    · exact (hgd.trans g24).next k3 fun b hb e => by have := (OBlks.ownB ho4 b e).1; omega
    · simp only [iOf, nth, List.headD_cons, List.tail_cons]; rw [wrap64 (by omega) (by simp only [maxLen] at hm; omega)]; omega
  · rw [if_neg (show ¬ (k : Int) < l.length by omega)]
    have : k = l.length := by omega
    subst this
    rw [List.take_length] at ho
    exact ⟨ho, hg⟩
/-- the document's cut -/
def rcutB (l : List Blk) (i j : Int) : List Blk := if maxI i 0 < j then cutT l (maxI i 0) j l.length else []
/-- rubricref12.Cut -/
theorem rcut_blk {S D : Nat → Prop} {w : World} {v : Value} {l : List Blk} {i j : Int} (h : RBlks S D w v l) (hl : l.length < 4398046511104) (hset : ∀ b ∈ l, b.set.length * 48 ≤ 140737488355328) :
    callK Try.prog 27 [v, .int .i64 i, .int .i64 j] (fun v' w' => OBlks w.heap.size w' v' (rcutB l i j) ∧ Grow w w') w := by
  apply S27_ok
  unfold S27
  obtain ⟨a, c, rfl, hm⟩ := h.shape
  simp only [maxLen] at hm
  refine JoinK_i (fun vs w1 => vs = [.int .i64 (maxI i 0)] ∧ w1 = w) ?_ ?_
  · rintro vs _ ⟨rfl, rfl⟩ _
    rename World => w
    generalize hi' : maxI i 0 = i'
    refine LoopK_i (fun vs w1 => ∃ (k : Nat) (out : Value), k ≤ l.length ∧ vs = [out, .int .i64 (atB l k), .int .i64 k] ∧ OBlks w.heap.size w1 out (cutT l i' j k) ∧ Grow w w1 ∧ (0 < k → i' < j)) (fun vs _ => l.length - iOf vs 2) ⟨0, _, Nat.zero_le _, rfl, OwnR.nil, Mod.refl _ _, fun h => by omega⟩ ?_
    rintro vs w1 ⟨k, out, hk, rfl, ho, hg, hij⟩ _
    simp only [KS]
    refine JoinK_i (fun vs w2 => w2 = w1 ∧ k < l.length ∧ i' < j) ?_ ?_
    · rintro vs _ ⟨rfl, hlt, hij'⟩ _
      rename World => w1
      obtain ⟨p, r, rfl, hS, hr, hc, sv, rfl, hs⟩ := h.get hlt
      refine ⟨fun w3 => Grow w1 w3, Mod.drew _ _, ?_⟩
      refine ixK_n hlt ?_
      simp only [KS]
      refine qld1K_i (fun w3 h3 => h3.cell (hg.cell (hc 0 _ rfl) fun h => h) fun h => h) ?_
      simp only [KS]
      rw [← atB_succ hlt]
      intro w3 h3
      refine JoinK_i (fun vs w4 => vs = [.int .i64 (maxI (atB l k) i')] ∧ w4 = w3) ?_ ?_
      · rintro vs _ ⟨rfl, rfl⟩ _
        rename World => w3
        refine JoinK_i (fun vs w4 => vs = [.int .i64 (minI (atB l (k + 1)) j)] ∧ w4 = w3) ?_ ?_
        · rintro vs _ ⟨rfl, rfl⟩ _
          rename World => w3
          have hg3 := hg.trans h3
          simp only [KS]
          refine ixK_n hlt ?_
          simp only [KS]
          refine ld1K_i (hg3.cell (hc 1 _ rfl) fun h => h) ?_
          refine callK_mono (radd_next (ho.grow h3 fun _ _ _ h => h) hg3 hs (by have := cutT_len l i' j k; omega) (hset _ (by simp))) ?_
          rintro v' w' ⟨h1, h2, _⟩
          refine ⟨⟨k + 1, v', by omega, by rw [wrap64 (x := (k : Int) + 1) (by omega) (by omega)]; rfl, by rw [cutT_succ hlt]; exact h1, h2, fun _ => hij'⟩, ?_⟩
          simp only [iOf, nth, List.headD_cons, List.tail_cons]; rw [wrap64 (x := (k : Int) + 1) (by omega) (by omega)]; omega
        · simp only [minI]
          split
          · exact ⟨by trivial, by trivial⟩
          · exact ⟨by trivial, by trivial⟩
      · simp only [maxI]
        by_cases hlt' : atB l k < i'
        · rw [if_pos hlt', if_pos hlt']; exact ⟨by trivial, by trivial⟩
        · rw [if_neg hlt', if_neg hlt']; exact ⟨by trivial, by trivial⟩
    · by_cases hlt : k < l.length
      · rw [if_pos (show (k : Int) < l.length by omega)]
        by_cases hij' : i' < j
        · rw [if_pos hij']; exact ⟨rfl, hlt, hij'⟩
        · rw [if_neg hij']
          have hk0 : k = 0 := by
            rcases Nat.eq_zero_or_pos k with h | h
            · exact h
            · exact (hij' (hij h)).elim
          subst hk0
          refine ⟨?_, hg⟩
          unfold rcutB; rw [hi', if_neg hij']; exact ho
      · rw [if_neg (show ¬ (k : Int) < l.length by omega)]
        have hke : k = l.length := by omega
        subst hke
        refine ⟨?_, hg⟩
        unfold rcutB
        rw [hi']
        by_cases hij' : i' < j
        · rw [if_pos hij']; exact ho
        · rw [if_neg hij']
          rcases Nat.eq_zero_or_pos l.length with h0 | h0
          · rw [h0] at ho; exact ho
          · exact (hij' (hij h0)).elim
  · simp only [KS, maxI]
    by_cases h0 : i < 0
    · rw [if_pos h0, if_pos h0]; exact ⟨by trivial, by trivial⟩
    · rw [if_neg h0, if_neg h0]; exact ⟨by trivial, by trivial⟩
end Go.Proofs.Ytmfplfaeibehiaa
