/- Contracts: adding to blocks. Conditions: the blocks lie in memory of the call's own. -/
import Derived.Test.YtmfplfaeibehiaaPA
namespace Go.Proofs.Ytmfplfaeibehiaa
open Go Go.K

theorem OBlks.grow {B : Nat} {w w' : World} {v : Value} {l : List Blk} {M : Nat → Prop} (h : OBlks B w v l) (hm : Mod M w w') (hM : ∀ b, b < w.heap.size → B ≤ b → ¬ M b) : OBlks B w' v l := by
  refine OwnR.mod h hm (fun g hg => ?_) fun r x _ hx => hx.mod hm (fun b hb hd => hM b hb hd.1) fun _ _ h => h
  obtain ⟨a, c, rfl, _, _, hp, _⟩ := OwnR.shape h
  cases a with
  | none => cases hg
  | some p => obtain ⟨g', rfl, h1, h2, h3⟩ := hp p rfl; rw [hg] at h3; cases h3; exact hM g h2 h1

/-- what is appended: one block, its set freshly copied -/
theorem push_blk2 {B : Nat} {w : World} {v sv : Value} {l : List Blk} {n : Int} {set : List Attr} {K : Cont} (h : OBlks B w v l) (hB : B ≤ w.heap.size) (hs : OSet 0 w sv set) (hsd : ∀ g, sv.ownBlock = some g → B ≤ g ∧ v.ownBlock ≠ some g ∧ g < w.heap.size) (hl : l.length < 4398046511104)
    {Q1 : World → Prop} {Q2 : World → World → Prop} (hQ1 : ∀ w1, Grow w w1 → Q1 w1)
    (hK : ∀ w1 v' w', Grow w w1 → OBlks B w' v' (l ++ [⟨n, set⟩]) → Mod (fun b => v.ownBlock = some b) w1 w' → Mod (fun b => v.ownBlock = some b) w w' → (∀ g, v'.ownBlock = some g → v.ownBlock = some g ∨ w.heap.size ≤ g) → Q2 w1 w' ∧ K v' w') :
    rowK 34 2 1 [.int .i64 0, .slice none 0 0] [(0, .agg #[.int .i64 n, sv])] (fun t w1 => Q1 w1 ∧ runK Try.prog (Builtin.append_ #[27, 27] 27 [v, t].toArray) (fun v' w' => Q2 w1 w' ∧ K v' w') w1) w := by
  obtain ⟨sa, sc, hsv, hsm, _⟩ := OwnR.shape hs
  refine ⟨#[.int .i64 n, sv], ?_, ?_⟩
  · subst hsv; kernel_rfl
  have hg : Grow w (w.alloc (.cells #[.int .i64 n, sv] 34)) := Mod.alloc _ _ _
  generalize hw1 : w.alloc (.cells #[.int .i64 n, sv] 34) = w1 at hg ⊢
  have hz : w1.heap.size = w.heap.size + 1 := by rw [← hw1]; simp
  have h' : OwnR B 34 2 (OBlk fun b => B ≤ b ∧ v.ownBlock ≠ some b ∧ b < w1.heap.size) w1 v l := by
    refine OwnR.mod h hg (fun _ _ h => h) fun r x _ hx => hx.mod hg (fun _ _ _ h => h) fun b hb hd => ⟨hd.1, hd.2, by omega⟩
  have hx : SlR (fun _ => True) 2 (OBlk fun b => B ≤ b ∧ v.ownBlock ≠ some b ∧ b < w1.heap.size) w1 (.slice (some ⟨w.heap.size, 0, none⟩) 1 1) [(⟨n, set⟩ : Blk)] := by
    refine ⟨_, 1, rfl, Nat.le_refl _, by simp [maxLen], fun i x hx => ?_⟩
    have hi : i = 0 := by have := (List.getElem?_eq_some_iff.1 hx).1; simp at this; exact this
    subst hi
    simp at hx; subst hx
    refine ⟨_, [.int .i64 n, sv], rfl, trivial, rfl, fun j u hu => ?_, sv, rfl, OwnR.mod hs hg (fun _ _ h => h) fun _ _ _ h => h, fun g hgg => by obtain ⟨h1, h2, h3⟩ := hsd g hgg; exact ⟨h1, h2, by omega⟩⟩
    have hadd : (⟨w.heap.size, 0, none⟩ : Addr).add (0 * 2 + j) = ⟨w.heap.size, j, none⟩ := by unfold Addr.add; split <;> simp_all
    rw [hadd, ← hw1, World.cell?_alloc_new]
    simpa using hu
  obtain ⟨v', w', h1, h2, h3, h4⟩ := OwnR.append (ty := 27) elem_blk h' hx (fun _ _ => OBlk.one) (by simp; omega) (by omega) (by simp [maxLen]; omega)
    (fun w' hg' r y hy => hy.mod (Mod.of_grownBy hg') (fun b _ hd e => hd.2.1 e) fun _ _ h => h)
  refine ⟨hQ1 _ hg, runK_i h1 (hK w1 v' w' hg ?_ (Mod.of_grownBy h3) (hg.mod.next (Mod.of_grownBy h3) fun _ _ h => h) fun g hg' => ?_)⟩
  · refine OwnR.mod h2 (Mod.refl (fun _ => False) _) (fun _ _ h => h) fun r x _ hx => hx.mod (Mod.refl (fun _ => False) _) (fun _ _ _ h => h) fun b hb hd => ⟨hd.1, fun e => ?_⟩
    rcases h4 b e with h | h
    · exact hd.2.1 h
    · omega
  · rcases h4 g hg' with h | h
    · exact .inl h
    · exact .inr (by omega)
theorem push_blk {B : Nat} {w : World} {v sv : Value} {l : List Blk} {n : Int} {set : List Attr} {K : Cont} (h : OBlks B w v l) (hB : B ≤ w.heap.size) (hs : OSet 0 w sv set) (hsd : ∀ g, sv.ownBlock = some g → B ≤ g ∧ v.ownBlock ≠ some g ∧ g < w.heap.size) (hl : l.length < 4398046511104)
    (hK : ∀ v' w', OBlks B w' v' (l ++ [⟨n, set⟩]) → Mod (fun b => v.ownBlock = some b) w w' → (∀ g, v'.ownBlock = some g → v.ownBlock = some g ∨ w.heap.size ≤ g) → K v' w') :
    rowK 34 2 1 [.int .i64 0, .slice none 0 0] [(0, .agg #[.int .i64 n, sv])] (fun t w1 => runK Try.prog (Builtin.append_ #[27, 27] 27 [v, t].toArray) K w1) w := by
  obtain ⟨cs, h1, _, v', w', h2, _, h3⟩ := push_blk2 (Q1 := fun _ => True) (Q2 := fun _ _ => True) h hB hs hsd hl (fun _ _ => trivial) fun w1 v' w' _ k1 _ k2 k3 => ⟨trivial, hK v' w' k1 k2 k3⟩
  exact ⟨cs, h1, v', w', h2, h3⟩
/-- adding to blocks: the program's way -/
theorem add_blk {S : Nat → Prop} {B : Nat} {w : World} {v sv : Value} {l : List Blk} {n : Int} {set : List Attr} (h : OBlks B w v l) (hs : RSet S w sv set) (hS : ∀ b, S b → v.ownBlock ≠ some b) (hB : B ≤ w.heap.size) (hl : l.length < 4398046511104)
    (hset : set.length * 48 ≤ 140737488355328) :
    callK Try.prog 51 [v, .int .i64 n, sv] (fun v' w' => OBlks B w' v' (addB l n set) ∧ Mod (fun b => v.ownBlock = some b) w w' ∧ (∀ g, v'.ownBlock = some g → v.ownBlock = some g ∨ w.heap.size ≤ g)) w := by
  apply S51_ok
  unfold S51
  obtain ⟨a, c, rfl, hc, hcm, hp, hnil⟩ := OwnR.shape h
  simp only [KS]
  rw [wrap64 (by omega) (by omega)]
  by_cases hn : n ≤ 0
  · rw [if_pos hn]
    exact ⟨by rw [addB, if_pos hn]; exact h, Mod.refl _ _, fun g hg => .inl hg⟩
  rw [if_neg hn]
  refine JoinK_i (fun vs w1 => vs = [.bool (lastSame l set)] ∧ Grow w w1) ?_ ?_
  · rintro vs w1 ⟨rfl, hg⟩ _
    simp only [KS]
    have h1 : OBlks B w1 (.slice a l.length c) l := h.grow hg (fun _ _ _ h => h)
    cases hls : lastSame l set with
    | true =>
      rw [if_pos rfl]
      unfold lastSame at hls
      cases hlast : l.getLast? with
      | none => rw [hlast] at hls; cases hls
      | some b =>
        rw [hlast] at hls
        simp only [decide_eq_true_eq] at hls
        have hlen : 0 < l.length := by cases l with | nil => simp at hlast | cons => simp
        have hbi : l[l.length - 1]? = some b := by rw [← List.getLast?_eq_getElem?]; exact hlast
        have hbg : l[l.length - 1] = b := by simpa [show l.length - 1 < l.length by omega] using hbi
        cases a with
        | none => have := hnil rfl; subst this; simp at hlen
        | some p =>
          have e1 : ((l.length : Int) - 1) = ((l.length - 1 : Nat) : Int) := by omega
          rw [e1]
          obtain ⟨p', r, hp', _, hr, hcell, sv0, hr0, hs0⟩ := (OwnR.sl h1).get (show l.length - 1 < l.length by omega)
          cases hp'
          rw [hbg] at hr0
          subst hr0
          refine ixK_n (by omega) ?_
          simp only [KS]
          refine ld1K_i (hcell 0 _ rfl) ?_
          simp only [KS]
          refine ixK_n (by omega) ?_
          simp only [KS]
          obtain ⟨⟨u, hu⟩, hf, ho, hm⟩ := OwnR.store (R' := OBlk fun b => B ≤ b ∧ (Value.slice (some p) l.length c).ownBlock ≠ some b) (u := .int .i64 (IntKind.i64.wrap (b.n + n))) (x' := ⟨IntKind.i64.wrap (b.n + n), b.set⟩) (j := 0) h1 (show l.length - 1 < l.length by omega) (by decide) rfl
            (fun r y _ hy => hy.mod (Mod.setCell (M := fun b => b = p.block) _ _ _ (by unfold Addr.add; split <;> rfl)) (fun b _ hd e => hd.2 (by rw [e]; rfl)) fun _ _ h => h)
            (fun r hy => by
              rw [hbg] at hy
              obtain ⟨sv1, rfl, hs1⟩ := hy.mod (D' := fun b => B ≤ b ∧ (Value.slice (some p) l.length c).ownBlock ≠ some b) (Mod.setCell (M := fun b => b = p.block) w1 (p.add ((l.length - 1) * 2 + 0)) (.int .i64 (IntKind.i64.wrap (b.n + n))) (by unfold Addr.add; split <;> rfl)) (fun b _ hd e => hd.2 (by rw [e]; rfl)) fun _ _ h => h
              exact ⟨sv1, rfl, hs1⟩)
          refine st1K_i rfl rfl hu hf ⟨?_, hg.mod.next hm ?_, fun g hg => .inl hg⟩
          · rw [addB, if_neg hn, hlast]
            simp only [hls, if_true]
            rw [← hls]
            exact ho
          · intro b' _ e; rw [e]; rfl
    | false =>
      rw [if_neg (by simp)]
      refine callK_mono (copy_set (hs.grow hg (by decide) fun _ _ h => h) hset) ?_
      rintro v1 w2 ⟨ho, hg2⟩
      have hv1 : ∃ sa sc, v1 = .slice sa set.length sc := by obtain ⟨sa, sc, e, _⟩ := OwnR.shape ho; exact ⟨sa, sc, e⟩
      refine ⟨#[.int .i64 n, v1], ?_, ?_⟩
      · obtain ⟨sa, sc, rfl⟩ := hv1; kernel_rfl
      have h2 := h1.grow hg2 (fun _ _ _ h => h)
      refine push_blk h2 (by have := hg.size; have := hg2.size; omega) (OwnR.base ho fun g _ => Nat.zero_le _) (fun b hb => ?_) hl ?_
      · have hbb : w1.heap.size ≤ b ∧ b < w2.heap.size := by
          obtain ⟨a', c', rfl, _, _, hp', _⟩ := OwnR.shape ho
          cases a' with
          | none => cases hb
          | some p' => obtain ⟨g, rfl, q1, q2, q3⟩ := hp' p' rfl; rw [hb] at q3; cases q3; exact ⟨q1, q2⟩
        have := hg.size
        refine ⟨by omega, fun e => ?_, hbb.2⟩
        cases a with
        | none => cases e
        | some p =>
          obtain ⟨g, rfl, q1, q2, q3⟩ := hp p rfl
          simp only [Value.ownBlock, Option.some.injEq] at e
          omega
      · intro v' w' k1 k2 k3
        refine ⟨?_, (hg.mod.trans hg2.mod).trans k2, fun g hg' => ?_⟩
        · rw [addB, if_neg hn]
          unfold lastSame at hls
          cases hlast : l.getLast? with
          | none => exact k1
          | some b => rw [hlast] at hls; simp only [decide_eq_false_iff_not] at hls; simp only [if_neg hls]; exact k1
        · rcases k3 g hg' with h | h
          · exact .inl h
          · exact .inr (by have := hg.size; have := hg2.size; omega)
  · by_cases hlen : 0 < l.length
    · rw [if_pos (show (0 : Int) ≤ (l.length : Int) - 1 by omega)]
      cases a with
      | none => have := hnil rfl; subst this; simp at hlen
      | some p =>
        have e1 : ((l.length : Int) - 1) = ((l.length - 1 : Nat) : Int) := by omega
        rw [e1]
        obtain ⟨p', r, hp', _, hr, hcell, sv0, hr0, hs0⟩ := (OBlks.sl h).get (show l.length - 1 < l.length by omega)
        cases hp'
        subst hr0
        refine ixK_n (by omega) ?_
        simp only [KS]
        refine ld1K_i (hcell 1 _ rfl) ?_
        refine callK_mono (same_set hs0 hs) ?_
        rintro v1 w1 ⟨rfl, hg⟩
        refine ⟨?_, hg⟩
        have : l.getLast? = some l[l.length - 1] := by rw [List.getLast?_eq_getElem?]; simp [show l.length - 1 < l.length by omega]
        simp [lastSame, this]
    · have : l = [] := List.eq_nil_of_length_eq_zero (by omega)
      subst this
      rw [if_neg (by simp)]
      exact ⟨rfl, Mod.refl _ _⟩
end Go.Proofs.Ytmfplfaeibehiaa
