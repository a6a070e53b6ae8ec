/- Contracts: comparing and copying sets of attributes. No conditions but that the slices read as such. -/
import Derived.Test.YtmfplfaeibehiaaDA
import Derived.Test.YtmfplfaeibehiaaS0
namespace Go.Proofs.Ytmfplfaeibehiaa
open Go Go.K

/-- slices.Equal at sets -/
theorem eq_set {S S' : Nat → Prop} {a b : Value} {l m : List Attr} {w : World} (ha : RSet S w a l) (hb : RSet S' w b m) :
    callK Try.prog 79 [a, b] (fun v w' => v = .bool (decide (l = m)) ∧ Grow w w') w := by
  apply S79_ok
  unfold S79
  obtain ⟨pa, ca, rfl, hla⟩ := ha.shape
  obtain ⟨pb, cb, rfl, hlb⟩ := hb.shape
  simp only [KS]
  simp only [maxLen] at hla hlb
  by_cases hlen : l.length = m.length
  · rw [if_neg (show ¬ ¬ (l.length : Int) = m.length by omega)]
    refine ⟨fun vs w' => ∃ k : Nat, k ≤ l.length ∧ vs = [.int .i64 k] ∧ Grow w w' ∧ l.take k = m.take k, fun vs _ => l.length - iOf vs 0, ⟨0, Nat.zero_le _, rfl, Mod.refl _ _, rfl⟩, ?_⟩
    rintro vs w1 ⟨k, hk, rfl, hg, ht⟩ h
    simp only [KS]
    by_cases hlt : k < l.length
    · rw [if_pos (show (k : Int) < l.length by omega)]
      refine ⟨fun w2 => Grow w1 w2, Mod.drew _ _, ?_⟩
      obtain ⟨p, r, rfl, _, hr, hc, hx⟩ := ha.get hlt
      obtain ⟨q, r', rfl, _, hr', hc', hx'⟩ := hb.get (show k < m.length by omega)
      refine ixK_n hlt (qldnK_i hr (fun w2 h2 j u hu => ?_) ?_)
      · rw [Addr.add_add]; exact h2.cell (hg.cell (hc j u hu) (fun h => h)) (fun h => h)
      refine ixK_n (by omega) (qldnK_i hr' (fun w2 h2 j u hu => ?_) ?_)
      · rw [Addr.add_add]; exact h2.cell (hg.cell (hc' j u hu) (fun h => h)) (fun h => h)
      subst hx; subst hx'
      refine ⟨_, fun w2 _ => run_ne_attr _ _ _ _ w2, fun w2 h2 => ?_⟩
      simp only [KS]
      by_cases he : l[k] = m[k]
      · rw [if_neg (fun h => h he)]
        refine ⟨⟨k + 1, by omega, by rw [wrap64 (by omega) (by omega)]; rfl, hg.trans h2, ?_⟩, ?_⟩
        · rw [List.take_add_one, List.take_add_one, ht]
          simp [hlt, show k < m.length by omega, he]
        · simp only [iOf, nth, List.headD_cons]; rw [wrap64 (by omega) (by omega)]; omega
      · rw [if_pos he]
        refine ⟨?_, hg.trans h2⟩
        congr 1
        symm
        rw [decide_eq_false_iff_not]
        intro e; subst e; exact he rfl
    · rw [if_neg (show ¬ (k : Int) < l.length by omega)]
      refine ⟨?_, hg⟩
      congr 1; symm
      rw [decide_eq_true_eq]
      have : k = l.length := by omega
      subst this
      rw [List.take_length] at ht
      rw [ht, hlen, List.take_length]
  · rw [if_pos (show ¬ (l.length : Int) = m.length by omega)]
    refine ⟨?_, Mod.refl _ _⟩
    congr 1; symm
    rw [decide_eq_false_iff_not]
    intro e; exact hlen (by rw [e])
/-- attrs.Same -/
theorem same_set {S S' : Nat → Prop} {a b : Value} {l m : List Attr} {w : World} (ha : RSet S w a l) (hb : RSet S' w b m) :
    callK Try.prog 55 [a, b] (fun v w' => v = .bool (decide (l = m)) ∧ Grow w w') w := by
  apply S55_ok
  exact eq_set ha hb
/-- slices.Clone at sets -/
theorem clone_set {S : Nat → Prop} {v : Value} {l : List Attr} {w : World} (h : RSet S w v l) (hl : l.length * 48 ≤ 140737488355328) :
    callK Try.prog 53 [v] (fun v' w' => OSet w.heap.size w' v' l ∧ Grow w w') w := by
  apply S53_ok
  unfold S53
  obtain ⟨a, c, rfl, hm⟩ := h.shape
  cases a with
  | none =>
    simp only [KS]
    have : l = [] := by
      cases l with
      | nil => rfl
      | cons x l => obtain ⟨p, r, e, _⟩ := h.get (i := 0) (by simp); cases e
    subst this
    exact ⟨OwnR.nil, Mod.refl _ _⟩
  | some p =>
    simp only [KS]
    refine rowK_empty ?_
    have hg : Grow w (w.alloc (.cells #[] 46)) := Mod.alloc _ _ _
    have ho : OSet w.heap.size (w.alloc (.cells #[] 46)) (.slice (some ⟨w.heap.size, 0, none⟩) 0 0) [] := OwnR.made (Nat.le_refl _)
    obtain ⟨v', w', h1, h2, h3, h4⟩ := OwnR.append (ty := 24) elem_attr ho (h.grow hg (by decide) fun _ _ h => h) (fun _ _ => RAttr.one) (by simpa using hl) (by simp) (by simpa using hm) (fun _ _ _ _ h => h)
    refine runK_i h1 ⟨?_, hg.next (Mod.of_grownBy h3) ?_⟩
    · refine h2.base fun g hg' => ?_
      rcases h4 g hg' with h | h
      · cases h; exact Nat.le_refl _
      · simp only [World.size_alloc] at h; omega
    · intro b hb e; simp only [Value.ownBlock, Option.some.injEq] at e; omega
/-- attrs.Copy -/
theorem copy_set {S : Nat → Prop} {v : Value} {l : List Attr} {w : World} (h : RSet S w v l) (hl : l.length * 48 ≤ 140737488355328) :
    callK Try.prog 65 [v] (fun v' w' => OSet w.heap.size w' v' l ∧ Grow w w') w := by
  apply S65_ok
  exact clone_set h hl
end Go.Proofs.Ytmfplfaeibehiaa
