/- Contracts: the document's comparing, and whether blocks are proper. No conditions. -/
import Derived.Test.YtmfplfaeibehiaaPC
namespace Go.Proofs.Ytmfplfaeibehiaa
open Go Go.K

theorem bool_inj {a b : Bool} (h : (a = true ↔ b = true)) : Value.bool a = .bool b := by congr 1; exact Bool.eq_iff_iff.2 h
/-- rubricref05.Same -/
theorem rsame_set {S S' : Nat → Prop} {a b : Value} {l m : List Attr} {w : World} (ha : RSet S w a l) (hb : RSet S' w b m) :
    callK Try.prog 21 [a, b] (fun v w' => v = .bool (decide (l = m)) ∧ Grow w w') w := by
  apply S21_ok
  unfold S21
  obtain ⟨pa, ca, rfl, hla⟩ := ha.shape
  obtain ⟨pb, cb, rfl, hlb⟩ := hb.shape
  simp only [KS]
  simp only [maxLen] at hla hlb
  by_cases hlen : l.length = m.length
  · rw [if_neg (show ¬ ¬ (l.length : Int) = m.length by omega)]
    refine LoopK_i (fun vs w' => ∃ k : Nat, k ≤ l.length ∧ vs = [.int .i64 k] ∧ Grow w w' ∧ l.take k = m.take k) (fun vs _ => l.length - iOf vs 0) ⟨0, Nat.zero_le _, rfl, Mod.refl _ _, rfl⟩ ?_
    rintro vs w1 ⟨k, hk, rfl, hg, ht⟩ h
    simp only [KS]
    by_cases hlt : k < l.length
    · rw [if_pos (show (k : Int) < l.length by omega)]
      refine ⟨fun w2 => Grow w1 w2, Mod.drew _ _, ?_⟩
      obtain ⟨p, r, rfl, _, hr, hc, hx⟩ := ha.get hlt
      obtain ⟨q, r', rfl, _, hr', hc', hx'⟩ := hb.get (show k < m.length by omega)
      refine ixK_n hlt (qldnK_i hr (fun w2 h2 j u hu => ?_) ?_)
      · rw [Addr.add_add]; exact h2.cell (hg.cell (hc j u hu) (fun h => h)) (fun h => h)
      refine ixK_n (by omega) (qldnK_i hr' (fun w2 h2 j u hu => ?_) ?_)
      · rw [Addr.add_add]; exact h2.cell (hg.cell (hc' j u hu) (fun h => h)) (fun h => h)
      subst hx; subst hx'
      refine ⟨_, fun w2 _ => run_ne_attr _ _ _ _ w2, fun w2 h2 => ?_⟩
      simp only [KS]
      by_cases he : l[k] = m[k]
      · rw [if_neg (fun h => h he)]
        refine ⟨⟨k + 1, by omega, by rw [wrap64 (by omega) (by omega)]; rfl, hg.trans h2, ?_⟩, ?_⟩
        · rw [List.take_add_one, List.take_add_one, ht]
          simp [hlt, show k < m.length by omega, he]
        · simp only [iOf, nth, List.headD_cons]; rw [wrap64 (by omega) (by omega)]; omega
      · rw [if_pos he]
        refine ⟨?_, hg.trans h2⟩
        congr 1
        symm
        rw [decide_eq_false_iff_not]
        intro e; subst e; exact he rfl
    · rw [if_neg (show ¬ (k : Int) < l.length by omega)]
      refine ⟨?_, hg⟩
      congr 1; symm
      rw [decide_eq_true_eq]
      have : k = l.length := by omega
      subst this
      rw [List.take_length] at ht
      rw [ht, hlen, List.take_length]
  · rw [if_pos (show ¬ (l.length : Int) = m.length by omega)]
    refine ⟨?_, Mod.refl _ _⟩
    congr 1; symm
    rw [decide_eq_false_iff_not]
    intro e; exact hlen (by rw [e])
/-- rubricref12.Same -/
theorem rsame_blk {S S' D D' : Nat → Prop} {a b : Value} {l m : List Blk} {w : World} (ha : RBlks S D w a l) (hb : RBlks S' D' w b m) :
    callK Try.prog 16 [a, b] (fun v w' => v = .bool (decide (l = m)) ∧ Grow w w') w := by
  apply S16_ok
  unfold S16
  obtain ⟨pa, ca, rfl, hla⟩ := ha.shape
  obtain ⟨pb, cb, rfl, hlb⟩ := hb.shape
  simp only [KS]
  simp only [maxLen] at hla hlb
  by_cases hlen : l.length = m.length
  · rw [if_neg (show ¬ ¬ (l.length : Int) = m.length by omega)]
    refine LoopK_i (fun vs w' => ∃ k : Nat, k ≤ l.length ∧ vs = [.int .i64 k] ∧ Grow w w' ∧ l.take k = m.take k) (fun vs _ => l.length - iOf vs 0) ⟨0, Nat.zero_le _, rfl, Mod.refl _ _, rfl⟩ ?_
    rintro vs w1 ⟨k, hk, rfl, hg, ht⟩ h
    simp only [KS]
    by_cases hlt : k < l.length
    · rw [if_pos (show (k : Int) < l.length by omega)]
      refine ⟨fun w2 => Grow w1 w2, Mod.drew _ _, ?_⟩
      obtain ⟨p, r, rfl, _, hr, hc, sv, rfl, hs⟩ := ha.get hlt
      obtain ⟨q, r', rfl, _, hr', hc', sv', rfl, hs'⟩ := hb.get (show k < m.length by omega)
      have cel : ∀ w2, Grow w1 w2 → ∀ {a : Addr} {v : Value}, w.cell? a = some v → w2.cell? a = some v := fun w2 h2 _ _ hc => h2.cell (hg.cell hc (fun h => h)) (fun h => h)
      refine ixK_n hlt ?_
      simp only [KS]
      refine qld1K_i (fun w2 h2 => cel w2 h2 (hc 0 _ rfl)) (ixK_n (by omega) ?_)
      simp only [KS]
      refine qld1K_i (fun w2 h2 => cel w2 h2 (hc' 0 _ rfl)) ?_
      simp only [KS]
      by_cases hn : l[k].n = m[k].n
      · rw [if_neg (fun h => h hn)]
        refine ixK_n hlt ?_
        simp only [KS]
        refine qld1K_i (fun w2 h2 => cel w2 h2 (hc 1 _ rfl)) (ixK_n (by omega) ?_)
        simp only [KS]
        refine qld1K_i (fun w2 h2 => cel w2 h2 (hc' 1 _ rfl)) ?_
        refine ⟨_, fun w2 h2 => callK_mono (rsame_set ((hs.grow hg (by decide) fun _ _ h => h).grow h2 (by decide) fun _ _ h => h) ((hs'.grow hg (by decide) fun _ _ h => h).grow h2 (by decide) fun _ _ h => h)) fun v w3 ⟨e, h3⟩ => ⟨e, h2.trans h3⟩, ?_⟩
        simp only [KS]
        intro w3 h3
        by_cases he : l[k].set = m[k].set
        · rw [if_neg (fun h => h he)]
          refine ⟨⟨k + 1, by omega, by rw [wrap64 (by omega) (by omega)]; rfl, hg.trans h3, ?_⟩, ?_⟩
          · have e : l[k] = m[k] := by
              cases h1 : l[k]; cases h2 : m[k]
              rw [h1, h2] at hn he; simp only at hn he; rw [hn, he]
            rw [List.take_add_one, List.take_add_one, ht]
            simp [hlt, show k < m.length by omega, e]
          · simp only [iOf, nth, List.headD_cons]; rw [wrap64 (by omega) (by omega)]; omega
        · rw [if_pos he]
          refine ⟨?_, hg.trans h3⟩
          congr 1; symm
          rw [decide_eq_false_iff_not]
          intro e; subst e; exact he rfl
      · rw [if_pos hn]
        intro w3 h3
        refine ⟨?_, hg.trans h3⟩
        congr 1; symm
        rw [decide_eq_false_iff_not]
        intro e; subst e; exact hn rfl
    · rw [if_neg (show ¬ (k : Int) < l.length by omega)]
      refine ⟨?_, hg⟩
      congr 1; symm
      rw [decide_eq_true_eq]
      have : k = l.length := by omega
      subst this
      rw [List.take_length] at ht
      rw [ht, hlen, List.take_length]
  · rw [if_pos (show ¬ (l.length : Int) = m.length by omega)]
    refine ⟨?_, Mod.refl _ _⟩
    congr 1; symm
    rw [decide_eq_false_iff_not]
    intro e; exact hlen (by rw [e])
/-- whether blocks are proper -/
def ProperB (l : List Blk) : Prop := ∀ (i : Nat) b, l[i]? = some b → 0 < b.n ∧ ∀ c, 0 < i → l[i - 1]? = some c → c.set ≠ b.set
def properN (l : List Blk) (k : Nat) : Prop := ∀ i, i < k → ∀ b, l[i]? = some b → 0 < b.n ∧ ∀ c, 0 < i → l[i - 1]? = some c → c.set ≠ b.set
open Classical in
theorem proper_blk {S D : Nat → Prop} {w : World} {v : Value} {l : List Blk} (h : RBlks S D w v l) :
    callK Try.prog 23 [v] (fun v' w' => v' = .bool (decide (ProperB l)) ∧ Grow w w') w := by
  apply S23_ok
  unfold S23
  obtain ⟨a, c, rfl, hm⟩ := h.shape
  simp only [maxLen] at hm
  simp only [KS]
  refine LoopK_i (fun vs w1 => ∃ (k : Nat), k ≤ l.length ∧ vs = [.int .i64 k] ∧ properN l k ∧ Grow w w1) (fun vs _ => l.length - iOf vs 0) ⟨0, Nat.zero_le _, rfl, (fun i hi => by omega), Mod.refl _ _⟩ ?_
  rintro vs w1 ⟨k, hk, rfl, ho, hg⟩ _
  simp only [KS]
  by_cases hlt : k < l.length
  · rw [if_pos (show (k : Int) < l.length by omega)]
    obtain ⟨p, r, rfl, _, hr, hc, sv, rfl, hs⟩ := h.get hlt
    refine ixK_n hlt (ldnK_i hr (fun j u hu => by rw [Addr.add_add]; exact hg.cell (hc j u hu) fun h => h) (newK_i (stnew (vs := [.int .i64 l[k].n, sv]) rfl (RBlk.one ⟨sv, rfl, hs⟩) ?_)))
    generalize hw2 : w1.alloc (.cells [.int .i64 l[k].n, sv].toArray 34) = w2
    have hg2 : Grow w w2 := by rw [← hw2]; exact hg.trans (Mod.alloc _ _ _)
    have hbox : ∀ j u, [Value.int .i64 l[k].n, sv][j]? = some u → ∀ w3, Grow w2 w3 → w3.cell? ((⟨w1.heap.size, 0, none⟩ : Addr).add j) = some u := fun j u hu w3 h3 => h3.cell (by rw [← hw2]; exact cell_box hu) fun h => h
    have fin : (¬ ProperB l) → (Value.bool false = .bool (decide (ProperB l))) := fun h => by rw [decide_eq_false h]
    have next : (0 < l[k].n ∧ ∀ c, 0 < k → l[k - 1]? = some c → c.set ≠ l[k].set) → ∀ w3, Grow w2 w3 → (∃ (k' : Nat), k' ≤ l.length ∧ [Value.int .i64 (IntKind.i64.wrap (k + 1))] = [.int .i64 k'] ∧ properN l k' ∧ Grow w w3) ∧ l.length - iOf [Value.int .i64 (IntKind.i64.wrap (k + 1))] 0 < l.length - iOf [Value.int .i64 k] 0 := by
      intro hn w3 h3
      refine ⟨⟨k + 1, by omega, by rw [wrap64 (by omega) (by omega)]; rfl, fun i hi b hb => ?_, hg2.trans h3⟩, ?_⟩
      · by_cases e : i = k
        · subst e
          rw [List.getElem?_eq_getElem hlt] at hb; cases hb
          exact hn
        · exact ho i (by omega) b hb
      · simp only [iOf, nth, List.headD_cons]; rw [wrap64 (by omega) (by omega)]; omega
    refine ⟨fun w3 => Grow w2 w3, Mod.drew _ _, ?_⟩
    simp only [KS]
    refine qld1K_i (fun w3 h3 => hbox 0 _ rfl w3 h3) ?_
    simp only [KS]
    by_cases hn : l[k].n ≤ 0
    · rw [if_pos hn]
      intro w3 h3
      refine ⟨fin fun hp => ?_, hg2.trans h3⟩
      have := (hp k _ (List.getElem?_eq_getElem hlt)).1; omega
    · rw [if_neg hn]
      by_cases h0 : 0 < k
      · rw [if_pos (show (0 : Int) < k by omega), wrap64 (by omega) (by omega)]
        obtain ⟨p', r', hp', _, hr', hc', sv', rfl, hs'⟩ := h.get (show k - 1 < l.length by omega)
        cases hp'
        rw [show ((k : Int) - 1) = ((k - 1 : Nat) : Int) by omega]
        refine ixK_n (by omega) ?_
        simp only [KS]
        refine qld1K_i (fun w3 h3 => h3.cell (hg2.cell (hc' 1 _ rfl) fun h => h) fun h => h) ?_
        refine qld1K_i (fun w3 h3 => hbox 1 _ rfl w3 h3) ?_
        refine ⟨_, fun w3 h3 => callK_mono (same_set ((hs'.grow hg2 (by decide) fun _ _ h => h).grow h3 (by decide) fun _ _ h => h) ((hs.grow hg2 (by decide) fun _ _ h => h).grow h3 (by decide) fun _ _ h => h)) fun v w4 ⟨e, h4⟩ => ⟨e, h3.trans h4⟩, ?_⟩
        intro w3 h3
        simp only [KS]
        by_cases he : l[k - 1].set = l[k].set
        · rw [if_pos he]
          refine ⟨fin fun hp => ?_, hg2.trans h3⟩
          exact (hp k _ (List.getElem?_eq_getElem hlt)).2 _ h0 (List.getElem?_eq_getElem (by omega)) he
        · rw [if_neg he]
          exact next ⟨by omega, fun c _ hc => by rw [List.getElem?_eq_getElem (by omega)] at hc; cases hc; exact he⟩ w3 h3
      · rw [if_neg (show ¬ (0 : Int) < k by omega)]
        intro w3 h3
        exact next ⟨by omega, fun c h1 _ => absurd h1 h0⟩ w3 h3
  · rw [if_neg (show ¬ (k : Int) < l.length by omega)]
    have : k = l.length := by omega
    subst this
    refine ⟨?_, hg⟩
    rw [decide_eq_true]
    intro i b hb
    exact ho i (List.getElem?_eq_some_iff.1 hb).1 b hb
end Go.Proofs.Ytmfplfaeibehiaa
