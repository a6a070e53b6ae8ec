/- Contracts: the document's blocks. Conditions: the sizes. -/
import Derived.Test.YtmfplfaeibehiaaPH
namespace Go.Proofs.Ytmfplfaeibehiaa
open Go Go.K

/-- append to a fresh empty set -/
theorem fresh_set {S : Nat → Prop} {w : World} {sv : Value} {set : List Attr} {K : Cont} (hs : RSet S w sv set) (hset : set.length * 48 ≤ 140737488355328)
    (hK : ∀ v' w', OSet w.heap.size w' v' set → Grow w w' → K v' w') :
    rowK 46 5 0 [] [] (fun t w1 => runK Try.prog (Builtin.append_ #[24, 24] 24 [t, sv].toArray) K w1) w := by
  refine rowK_empty ?_
  have hm : set.length ≤ maxLen := by obtain ⟨_, _, _, h⟩ := hs.shape; exact h
  have hg : Grow w (w.alloc (.cells #[] 46)) := Mod.alloc _ _ _
  have ho : OSet w.heap.size (w.alloc (.cells #[] 46)) (.slice (some ⟨w.heap.size, 0, none⟩) 0 0) [] := OwnR.made (Nat.le_refl _)
  obtain ⟨v', w', h1, h2, h3, h4⟩ := OwnR.append (ty := 24) elem_attr ho (hs.grow hg (by decide) fun _ _ h => h) (fun _ _ => RAttr.one) (by simpa using hset) (by simp) (by simpa using hm) (fun _ _ _ _ h => h)
  refine runK_i h1 (hK v' w' ?_ (hg.next (Mod.of_grownBy h3) ?_))
  · refine OwnR.base h2 fun g hg' => ?_
    rcases h4 g hg' with h | h
    · cases h; exact Nat.le_refl _
    · simp only [World.size_alloc] at h; omega
  · intro b hb e; simp only [Value.ownBlock, Option.some.injEq] at e; omega
theorem radd_blk {S : Nat → Prop} {B : Nat} {w : World} {v sv : Value} {l : List Blk} {n : Int} {set : List Attr} (h : OBlks B w v l) (hs : RSet S w sv set) (hS : ∀ b, S b → v.ownBlock ≠ some b) (hB : B ≤ w.heap.size) (hl : l.length < 4398046511104)
    (hset : set.length * 48 ≤ 140737488355328) :
    callK Try.prog 54 [v, .int .i64 n, sv] (fun v' w' => OBlks B w' v' (addB l n set) ∧ Mod (fun b => v.ownBlock = some b) w w' ∧ (∀ g, v'.ownBlock = some g → v.ownBlock = some g ∨ w.heap.size ≤ g)) w := by
  apply S54_ok
  unfold S54
  obtain ⟨a, c, rfl, hc, hcm, hp, hnil⟩ := OwnR.shape h
  simp only [KS]
  by_cases hn : n ≤ 0
  · rw [if_pos hn]
    exact ⟨by rw [addB, if_pos hn]; exact h, Mod.refl _ _, fun g hg => .inl hg⟩
  rw [if_neg hn]
  rw [wrap64 (by omega) (by omega)]
  refine JoinK_i (fun vs w1 => vs = [.bool (lastSame l set)] ∧ Grow w w1) ?_ ?_
  · rintro vs w1 ⟨rfl, hg⟩ _
    simp only [KS]
    have h1 : OBlks B w1 (.slice a l.length c) l := h.grow hg (fun _ _ _ h => h)
    cases hls : lastSame l set with
    | true =>
      rw [if_pos rfl]
      unfold lastSame at hls
      cases hlast : l.getLast? with
      | none => rw [hlast] at hls; cases hls
      | some b =>
        rw [hlast] at hls
        simp only [decide_eq_true_eq] at hls
        have hlen : 0 < l.length := by cases l with | nil => simp at hlast | cons => simp
        have hbi : l[l.length - 1]? = some b := by rw [← List.getLast?_eq_getElem?]; exact hlast
        have hbg : l[l.length - 1] = b := by simpa [show l.length - 1 < l.length by omega] using hbi
        cases a with
        | none => have := hnil rfl; subst this; simp at hlen
        | some p =>
          have e1 : ((l.length : Int) - 1) = ((l.length - 1 : Nat) : Int) := by omega
          rw [e1]
          obtain ⟨p', r, hp', _, hr, hcell, sv0, hr0, hs0⟩ := (OwnR.sl h1).get (show l.length - 1 < l.length by omega)
          cases hp'
          rw [hbg] at hr0
          subst hr0
          refine ixK_n (by omega) ?_
          simp only [KS]
          refine ld1K_i (hcell 0 _ rfl) ?_
          simp only [KS]
          refine ixK_n (by omega) ?_
          simp only [KS]
          obtain ⟨⟨u, hu⟩, hf, ho, hm⟩ := OwnR.store (R' := OBlk fun b => B ≤ b ∧ (Value.slice (some p) l.length c).ownBlock ≠ some b) (u := .int .i64 (IntKind.i64.wrap (b.n + n))) (x' := ⟨IntKind.i64.wrap (b.n + n), b.set⟩) (j := 0) h1 (show l.length - 1 < l.length by omega) (by decide) rfl
            (fun r y _ hy => hy.mod (Mod.setCell (M := fun b => b = p.block) _ _ _ (by unfold Addr.add; split <;> rfl)) (fun b _ hd e => hd.2 (by rw [e]; rfl)) fun _ _ h => h)
            (fun r hy => by
              rw [hbg] at hy
              obtain ⟨sv1, rfl, hs1⟩ := hy.mod (D' := fun b => B ≤ b ∧ (Value.slice (some p) l.length c).ownBlock ≠ some b) (Mod.setCell (M := fun b => b = p.block) w1 (p.add ((l.length - 1) * 2 + 0)) (.int .i64 (IntKind.i64.wrap (b.n + n))) (by unfold Addr.add; split <;> rfl)) (fun b _ hd e => hd.2 (by rw [e]; rfl)) fun _ _ h => h
              exact ⟨sv1, rfl, hs1⟩)
          refine st1K_i rfl rfl hu hf ⟨?_, hg.mod.next hm ?_, fun g hg => .inl hg⟩
          · rw [addB, if_neg hn, hlast]
            simp only [hls, if_true]
            rw [← hls]
            exact ho
          · intro b' _ e; rw [e]; rfl
    | false =>
      rw [if_neg (by simp)]
      refine fresh_set (hs.grow hg (by decide) fun _ _ h => h) hset fun v1 w2 ho hg2 => ?_
      have hv1 : ∃ sa sc, v1 = .slice sa set.length sc := by obtain ⟨sa, sc, e, _⟩ := OwnR.shape ho; exact ⟨sa, sc, e⟩
      refine ⟨#[.int .i64 n, v1], ?_, ?_⟩
      · obtain ⟨sa, sc, rfl⟩ := hv1; kernel_rfl
      have h2 := h1.grow hg2 (fun _ _ _ h => h)
      refine push_blk h2 (by have := hg.size; have := hg2.size; omega) (OwnR.base ho fun g _ => Nat.zero_le _) (fun b hb => ?_) hl ?_
      · have hbb := OwnR.ownB ho b hb
        have := hg.size
        refine ⟨by omega, fun e => ?_, hbb.2⟩
        cases a with
        | none => cases e
        | some p =>
          obtain ⟨g, rfl, q1, q2, q3⟩ := hp p rfl
          simp only [Value.ownBlock, Option.some.injEq] at e
          omega
      · intro v' w' k1 k2 k3
        refine ⟨?_, (hg.mod.trans hg2.mod).trans k2, fun g hg' => ?_⟩
        · rw [addB, if_neg hn]
          unfold lastSame at hls
          cases hlast : l.getLast? with
          | none => exact k1
          | some b => rw [hlast] at hls; simp only [decide_eq_false_iff_not] at hls; simp only [if_neg hls]; exact k1
        · rcases k3 g hg' with h | h
          · exact .inl h
          · exact .inr (by have := hg.size; have := hg2.size; omega)
  · by_cases hlen : 0 < l.length
    · rw [if_pos (show (0 : Int) ≤ (l.length : Int) - 1 by omega)]
      cases a with
      | none => have := hnil rfl; subst this; simp at hlen
      | some p =>
        have e1 : ((l.length : Int) - 1) = ((l.length - 1 : Nat) : Int) := by omega
        rw [e1]
        obtain ⟨p', r, hp', _, hr, hcell, sv0, hr0, hs0⟩ := (OBlks.sl h).get (show l.length - 1 < l.length by omega)
        cases hp'
        subst hr0
        refine ixK_n (by omega) ?_
        simp only [KS]
        refine ld1K_i (hcell 1 _ rfl) ?_
        refine callK_mono (rsame_set hs0 hs) ?_
        rintro v1 w1 ⟨rfl, hg⟩
        refine ⟨?_, hg⟩
        have : l.getLast? = some l[l.length - 1] := by rw [List.getLast?_eq_getElem?]; simp [show l.length - 1 < l.length by omega]
        simp [lastSame, this]
    · have : l = [] := List.eq_nil_of_length_eq_zero (by omega)
      subst this
      rw [if_neg (by simp)]
      exact ⟨rfl, Mod.refl _ _⟩
theorem radd_next {S : Nat → Prop} {w w1 : World} {v sv : Value} {l : List Blk} {n : Int} {set : List Attr} (h : OBlks w.heap.size w1 v l) (hg : Grow w w1) (hs : RSet S w sv set) (hl : l.length < 4398046511104)
    (hset : set.length * 48 ≤ 140737488355328) :
    callK Try.prog 54 [v, .int .i64 n, sv] (fun v' w' => OBlks w.heap.size w' v' (addB l n set) ∧ Grow w w' ∧ Mod (fun b => v.ownBlock = some b) w1 w') w1 := by
  refine callK_mono (radd_blk h ((hs.old (by decide)).grow hg (by decide) fun _ _ h => h) (fun b hb e => by have := (OwnR.ownB h b e).1; omega) hg.size hl hset) ?_
  rintro v' w' ⟨h1, h2, _⟩
  exact ⟨h1, hg.next h2 fun b hb hv => by have := (OwnR.ownB h b hv).1; omega, h2⟩
/-- rubricref12.Join -/
theorem rjoin_blk {S D : Nat → Prop} {w : World} {v : Value} {l : List Blk} (h : RBlks S D w v l) (hl : l.length < 4398046511104) (hset : ∀ b ∈ l, b.set.length * 48 ≤ 140737488355328) :
    callK Try.prog 26 [v] (fun v' w' => OBlks w.heap.size w' v' (joinB l) ∧ Grow w w') w := by
  apply S26_ok
  unfold S26
  obtain ⟨a, c, rfl, hm⟩ := h.shape
  refine LoopK_i (fun vs w1 => ∃ (k : Nat) (out : Value), k ≤ l.length ∧ vs = [out, .int .i64 k] ∧ OBlks w.heap.size w1 out (joinB (l.take k)) ∧ Grow w w1) (fun vs _ => l.length - iOf vs 1) ⟨0, _, Nat.zero_le _, rfl, OwnR.nil, Mod.refl _ _⟩ ?_
  rintro vs w1 ⟨k, out, hk, rfl, ho, hg⟩ _
  simp only [KS]
  by_cases hlt : k < l.length
  · rw [if_pos (show (k : Int) < l.length by omega)]
    obtain ⟨p, r, rfl, hS, hr, hc, sv, rfl, hs⟩ := ((h.old (by decide)).get hlt)
    have hgd : Grow w w1.drew := hg.trans (Mod.drew _ _)
    refine ⟨fun j b => out.ownBlock = some b, ?_⟩
    have stay : ∀ x, ¬ out.ownBlock = some (p.add x).block := fun x e => by rw [add_block] at e; have := (OBlks.ownB ho _ e).1; omega
    refine ixK_n hlt ?_
    simp only [KS]
    refine ⟨_, _, rfl, ⟨hgd.cell (hc 0 _ rfl) fun h => h, fun j _ => stay _⟩, ?_⟩
    refine ixK_n hlt ?_
    simp only [KS]
    refine ⟨_, _, rfl, ⟨hgd.cell (hc 1 _ rfl) fun h => h, fun j _ => stay _⟩, ?_⟩
    refine callK_mono (radd_next (OBlks.grow ho (Mod.drew (fun _ => False) _) fun _ _ _ h => h) hgd hs (by have := joinB_len (l.take k); simp at this; omega) (hset _ (by simp))) ?_
    rintro v' w' ⟨h1, h2, h3⟩
    refine ⟨h3, ?_⟩
    refine ⟨⟨k + 1, v', by omega, by rw [wrap64 (by omega) (by simp only [maxLen] at hm; omega)]; rfl, by rw [joinB_take hlt]; exact h1, h2⟩, ?_⟩
    simp only [iOf, nth, List.headD_cons, List.tail_cons]; rw [wrap64 (by omega) (by simp only [maxLen] at hm; omega)]; omega
  · rw [if_neg (show ¬ (k : Int) < l.length by omega)]
    have : k = l.length := by omega
    subst this
    rw [List.take_length] at ho
    exact ⟨ho, hg⟩
/-- rubricref12.Of -/
theorem rof_blk {S D : Nat → Prop} {w : World} {v : Value} {l : List Cel} (h : RCels S D w v l) (hl : l.length < 4398046511104) (hset : ∀ b ∈ l, b.set.length * 48 ≤ 140737488355328) :
    callK Try.prog 22 [v] (fun v' w' => OBlks w.heap.size w' v' (ofB l) ∧ Grow w w') w := by
  apply S22_ok
  unfold S22
  obtain ⟨a, c, rfl, hm⟩ := h.shape
  refine LoopK_i (fun vs w1 => ∃ (k : Nat) (out : Value), k ≤ l.length ∧ vs = [out, .int .i64 k] ∧ OBlks w.heap.size w1 out (ofB (l.take k)) ∧ Grow w w1) (fun vs _ => l.length - iOf vs 1) ⟨0, _, Nat.zero_le _, rfl, OwnR.nil, Mod.refl _ _⟩ ?_
  rintro vs w1 ⟨k, out, hk, rfl, ho, hg⟩ _
  simp only [KS]
  by_cases hlt : k < l.length
  · rw [if_pos (show (k : Int) < l.length by omega)]
    obtain ⟨p, r, rfl, hS, hr, hc, sv, rfl, hs⟩ := h.get hlt
    have fin : ∀ sv' set', set' = l[k].inl → RSet D w sv' set' → callK Try.prog 54 [out, .int .i64 1, sv'] (fun t20 w7 => (∃ (k' : Nat) (out : Value), k' ≤ l.length ∧ [t20, Value.int .i64 (IntKind.i64.wrap (k + 1))] = [out, .int .i64 k'] ∧ OBlks w.heap.size w7 out (ofB (l.take k')) ∧ Grow w w7) ∧ l.length - iOf [t20, Value.int .i64 (IntKind.i64.wrap (k + 1))] 1 < l.length - iOf [out, Value.int .i64 k] 1) w1 := by
      rintro sv' set' rfl hs'
      refine callK_mono (radd_next ho hg hs' (by have := ofB_len (l.take k); simp at this; omega) (inl_ok (hset _ (by simp)))) ?_
      rintro v' w' ⟨h1, h2, _⟩
      refine ⟨⟨k + 1, v', by omega, by rw [wrap64 (by omega) (by simp only [maxLen] at hm; omega)]; rfl, by rw [ofB_take hlt]; exact h1, h2⟩, ?_⟩
      simp only [iOf, nth, List.headD_cons, List.tail_cons]; rw [wrap64 (by omega) (by simp only [maxLen] at hm; omega)]; omega
    refine ixK_n hlt ?_
    simp only [KS]
    refine ld1K_i (hg.cell (hc 0 _ rfl) fun h => h) ?_
    simp only [KS]
    by_cases hr : l[k].r = 10
    · rw [if_pos hr]
      exact fin _ [] (by simp [Cel.inl, hr]) SlR.nil
    · rw [if_neg hr]
      refine ixK_n hlt ?_
      simp only [KS]
      refine ld1K_i (hg.cell (hc 1 _ rfl) fun h => h) ?_
      exact fin _ l[k].set (by simp [Cel.inl, hr]) hs
  · rw [if_neg (show ¬ (k : Int) < l.length by omega)]
    have : k = l.length := by omega
    subst this
    rw [List.take_length] at ho
    exact ⟨ho, hg⟩
/-- rubricref12.Len -/
theorem rlen_blk {S D : Nat → Prop} {w : World} {v : Value} {l : List Blk} (h : RBlks S D w v l) :
    callK Try.prog 29 [v] (fun v' w' => v' = .int .i64 (atB l l.length) ∧ Grow w w') w := by
  apply S29_ok
  unfold S29
  obtain ⟨a, c, rfl, hm⟩ := h.shape
  refine LoopK_i (fun vs w1 => ∃ (k : Nat), k ≤ l.length ∧ vs = [.int .i64 (atB l k), .int .i64 k] ∧ Grow w w1) (fun vs _ => l.length - iOf vs 1) ⟨0, Nat.zero_le _, rfl, Mod.refl _ _⟩ ?_
  rintro vs w1 ⟨k, hk, rfl, hg⟩ _
  simp only [KS]
  by_cases hlt : k < l.length
  · rw [if_pos (show (k : Int) < l.length by omega)]
    obtain ⟨p, r, rfl, hS, hr, hc, sv, rfl, hs⟩ := h.get hlt
    refine ixK_n hlt ?_
    simp only [KS]
    refine ld1K_i (hg.cell (hc 0 _ rfl) fun h => h) ?_
    simp only [KS]
    refine ⟨⟨k + 1, by omega, by rw [atB_succ hlt, wrap64 (x := (k : Int) + 1) (by omega) (by simp only [maxLen] at hm; omega)]; rfl, hg⟩, ?_⟩
    simp only [iOf, nth, List.headD_cons, List.tail_cons]; rw [wrap64 (x := (k : Int) + 1) (by omega) (by simp only [maxLen] at hm; omega)]; omega
  · rw [if_neg (show ¬ (k : Int) < l.length by omega)]
    have : k = l.length := by omega
    subst this
    exact ⟨rfl, hg⟩
/-- rubricref12.Proper -/
theorem rproper_blk {S D : Nat → Prop} {w : World} {v : Value} {l : List Blk} (h : RBlks S D w v l) (hl : l.length < 4398046511104) (hset : ∀ b ∈ l, b.set.length * 48 ≤ 140737488355328) :
    callK Try.prog 28 [v] (fun v' w' => v' = .bool (decide (joinB l = l)) ∧ Grow w w') w := by
  apply S28_ok
  unfold S28
  refine callK_mono (rjoin_blk h hl hset) ?_
  rintro v1 w1 ⟨ho, hg⟩
  refine callK_mono (rsame_blk (OBlks.sl ho) (h.grow hg (by decide) fun r x hx => hx.mod hg (fun _ _ _ h => h) fun _ _ h => h)) ?_
  rintro v2 w2 ⟨rfl, hg2⟩
  exact ⟨rfl, hg.trans hg2⟩
end Go.Proofs.Ytmfplfaeibehiaa
