/- Copying and comparing rows, for any kind of element; at runes, patches, ops. No conditions but the sizes. -/
import Derived.Test.YtmfplfaeibehiaaOA
import Derived.Test.YtmfplfaeibehiaaS1
namespace Go.K
open Go
theorem clone_g {α : Type} {P : Program} {t e k bytes : Nat} {R : World → List Value → α → Prop} {S : Nat → Prop} {w : World} {v : Value} {l : List α} {K : Cont} (hE : ElemOK P t e k bytes) (h : SlR S k R w v l) (hl : l.length * bytes ≤ 140737488355328)
    (hone : ∀ w r y, R w r y → ∀ u ∈ r, u.oneCell' = true) (hR : ∀ w1 w2 r y, w.heap.size ≤ w1.heap.size → Mod (fun b => w.heap.size ≤ b) w1 w2 → R w1 r y → R w2 r y)
    (hK : ∀ v' w', OwnR w.heap.size e k R w' v' l → Grow w w' → K v' w') :
    snilK v fun b4 => condK (.bool b4) (K (.slice none 0 0) w) (rowK e k 0 [] [] (fun t5 w1 => runK P (Builtin.append_ #[t, t] t [t5, v].toArray) (fun t7 w2 => K t7 w2) w1) w) := by
  obtain ⟨a, c, rfl, hm⟩ := h.shape
  have hk := hE
  obtain ⟨_, _, _, _, _, _, _, _, hk0⟩ := hk
  cases a with
  | none =>
    simp only [KS]
    have : l = [] := by
      cases l with
      | nil => rfl
      | cons x l => obtain ⟨p, r, e, _⟩ := h.get (i := 0) (by simp); cases e
    subst this
    exact hK _ _ OwnR.nil (Mod.refl _ _)
  | some p =>
    simp only [KS]
    refine rowK_empty ?_
    have hg : Grow w (w.alloc (.cells #[] e)) := Mod.alloc _ _ _
    have ho : OwnR w.heap.size e k R (w.alloc (.cells #[] e)) (.slice (some ⟨w.heap.size, 0, none⟩) 0 0) ([] : List α) := OwnR.made (Nat.le_refl _)
    obtain ⟨v', w', h1, h2, h3, h4⟩ := OwnR.append (ty := t) hE ho ((h.old hk0).grow hg hk0 fun r x hx => hR _ _ _ _ (Nat.le_refl _) hg.mod hx) (fun _ _ => hone _ _ _) (by simpa using hl) (by simp) (by simpa using hm) (fun w' hg' r y hy => hR _ _ _ _ hg.size ((Mod.of_grownBy hg').mono fun b _ e => by simp only [Value.ownBlock, Option.some.injEq] at e; omega) hy)
    refine runK_i h1 (hK _ _ ?_ (hg.next (Mod.of_grownBy h3) ?_))
    · refine h2.base fun g hg' => ?_
      rcases h4 g hg' with h | h
      · cases h; exact Nat.le_refl _
      · simp only [World.size_alloc] at h; omega
    · intro b hb e; simp only [Value.ownBlock, Option.some.injEq] at e; omega
theorem condK_neg {p : Prop} [Decidable p] {A B : Prop} (h1 : p → B) (h2 : ¬ p → A) : condK (.bool (!decide p)) A B := by
  by_cases h : p
  · rw [decide_eq_true h]; exact h1 h
  · rw [decide_eq_false h]; exact h2 h
/-- the loop that compares two rows of the same length -/
theorem eq_loop {α : Type} [DecidableEq α] {P : Program} {k : Nat} {R R' : World → List Value → α → Prop} {S S' : Nat → Prop} {w : World} {a b : Option Addr} {ca cb : Nat} {l m : List α} {K : Cont} {bin : Value → Value → Sem Value}
    (ha : SlR S k R w (.slice a l.length ca) l) (hb : SlR S' k R' w (.slice b m.length cb) m) (hlen : l.length = m.length) (hm : l.length ≤ maxLen)
    (hbin : ∀ r r' x y w1, R w r x → R' w r' y → (bin (.agg r.toArray) (.agg r'.toArray)).run P w1 = .ok (.bool (!decide (x = y))) w1)
    (hK : ∀ w', Grow w w' → K (.bool (decide (l = m))) w') :
    LoopK [(.int .i64 0)] (fun vs again w1 => ∀ _ : Env, ltK .i64 (nth vs 0) (.int .i64 l.length) fun t14 => condK t14
      (DrawK w1 (fun C => ixK k (.slice a l.length ca) (nth vs 0) fun t18 => qldnK C k t18 fun t19 => ixK k (.slice b m.length cb) (nth vs 0) fun t22 => qldnK C k t22 fun t23 => qrunK P C (bin t19 t23) fun t24 =>
        ∀ w2 : World, C w2 → condK t24 (K (.bool false) w2) (addK .i64 (nth vs 0) (.int .i64 1) fun t25 => again [t25] w2)))
      (K (.bool true) w1)) w := by
  simp only [maxLen] at hm
  refine LoopK_i (fun vs w' => ∃ k : Nat, k ≤ l.length ∧ vs = [.int .i64 k] ∧ Grow w w' ∧ l.take k = m.take k) (fun vs _ => l.length - iOf vs 0) ⟨0, Nat.zero_le _, rfl, Mod.refl _ _, rfl⟩ ?_
  rintro vs w1 ⟨q, hq, rfl, hg, ht⟩ h
  simp only [KS]
  by_cases hlt : q < l.length
  · rw [if_pos (show (q : Int) < l.length by omega)]
    refine ⟨fun w2 => Grow w1 w2, Mod.drew _ _, ?_⟩
    obtain ⟨p, r, rfl, _, hr, hc, hx⟩ := ha.get hlt
    obtain ⟨p', r', rfl, _, hr', hc', hx'⟩ := hb.get (show q < m.length by omega)
    refine ixK_n hlt (qldnK_i hr (fun w2 h2 j u hu => ?_) ?_)
    · rw [Addr.add_add]; exact h2.cell (hg.cell (hc j u hu) (fun h => h)) (fun h => h)
    refine ixK_n (by omega) (qldnK_i hr' (fun w2 h2 j u hu => ?_) ?_)
    · rw [Addr.add_add]; exact h2.cell (hg.cell (hc' j u hu) (fun h => h)) (fun h => h)
    refine ⟨_, fun w2 _ => hbin _ _ _ _ w2 hx hx', fun w2 h2 => ?_⟩
    simp only [KS]
    by_cases he : l[q] = m[q]
    · rw [if_neg (fun h => h he)]
      refine ⟨⟨q + 1, by omega, by rw [wrap64 (by omega) (by omega)]; rfl, hg.trans h2, ?_⟩, ?_⟩
      · rw [List.take_add_one, List.take_add_one, ht]
        simp [hlt, show q < m.length by omega, he]
      · simp only [iOf, nth, List.headD_cons]; rw [wrap64 (by omega) (by omega)]; omega
    · rw [if_pos he]
      have : decide (l = m) = false := by rw [decide_eq_false_iff_not]; intro e; subst e; exact he rfl
      rw [← this]; exact hK _ (hg.trans h2)
  · rw [if_neg (show ¬ (q : Int) < l.length by omega)]
    have : q = l.length := by omega
    subst this
    rw [List.take_length, hlen, List.take_length] at ht
    have : decide (l = m) = true := by rw [decide_eq_true_eq]; exact ht
    rw [← this]; exact hK _ hg
/-- the same at elements of one cell -/
theorem eq_loop1 {q : IntKind} {R : World → List Value → Int → Prop} {S S' : Nat → Prop} {w : World} {a b : Option Addr} {ca cb : Nat} {l m : List Int} {K : Cont}
    (ha : SlR S 1 R w (.slice a l.length ca) l) (hb : SlR S' 1 R w (.slice b m.length cb) m) (hlen : l.length = m.length) (hm : l.length ≤ maxLen)
    (hRi : ∀ r x, R w r x → r = [.int q x])
    (hK : ∀ w', Grow w w' → K (.bool (decide (l = m))) w') :
    LoopK [(.int .i64 0)] (fun vs again w1 => ∀ _ : Env, ltK .i64 (nth vs 0) (.int .i64 l.length) fun t14 => condK t14
      (DrawK w1 (fun C => ixK 1 (.slice a l.length ca) (nth vs 0) fun t18 => qld1K C t18 fun t19 => ixK 1 (.slice b m.length cb) (nth vs 0) fun t22 => qld1K C t22 fun t23 => neK q t19 t23 fun t24 =>
        ∀ w2 : World, C w2 → condK t24 (K (.bool false) w2) (addK .i64 (nth vs 0) (.int .i64 1) fun t25 => again [t25] w2)))
      (K (.bool true) w1)) w := by
  simp only [maxLen] at hm
  refine LoopK_i (fun vs w' => ∃ k : Nat, k ≤ l.length ∧ vs = [.int .i64 k] ∧ Grow w w' ∧ l.take k = m.take k) (fun vs _ => l.length - iOf vs 0) ⟨0, Nat.zero_le _, rfl, Mod.refl _ _, rfl⟩ ?_
  rintro vs w1 ⟨i, hi, rfl, hg, ht⟩ h
  simp only [KS]
  by_cases hlt : i < l.length
  · rw [if_pos (show (i : Int) < l.length by omega)]
    refine ⟨fun w2 => Grow w1 w2, Mod.drew _ _, ?_⟩
    obtain ⟨p, r, rfl, _, hr, hc, hx⟩ := ha.get hlt
    obtain ⟨p', r', rfl, _, hr', hc', hx'⟩ := hb.get (show i < m.length by omega)
    obtain rfl := hRi _ _ hx
    obtain rfl := hRi _ _ hx'
    refine ixK_n hlt (qld1K_i (v := .int q l[i]) (fun w2 h2 => h2.cell (hg.cell (hc 0 _ rfl) fun h => h) fun h => h) ?_)
    refine ixK_n (by omega) (qld1K_i (v := .int q m[i]) (fun w2 h2 => h2.cell (hg.cell (hc' 0 _ rfl) fun h => h) fun h => h) ?_)
    simp only [KS]
    intro w2 h2
    by_cases he : l[i] = m[i]
    · rw [if_neg (fun h => h he)]
      refine ⟨⟨i + 1, by omega, by rw [wrap64 (by omega) (by omega)]; rfl, hg.trans h2, ?_⟩, ?_⟩
      · rw [List.take_add_one, List.take_add_one, ht]
        simp [hlt, show i < m.length by omega, he]
      · simp only [iOf, nth, List.headD_cons]; rw [wrap64 (by omega) (by omega)]; omega
    · rw [if_pos he]
      have : decide (l = m) = false := by rw [decide_eq_false_iff_not]; intro e; subst e; exact he rfl
      rw [← this]; exact hK _ (hg.trans h2)
  · rw [if_neg (show ¬ (i : Int) < l.length by omega)]
    have : i = l.length := by omega
    subst this
    rw [List.take_length, hlen, List.take_length] at ht
    have : decide (l = m) = true := by rw [decide_eq_true_eq]; exact ht
    rw [← this]; exact hK _ hg
end Go.K
namespace Go.Proofs.Ytmfplfaeibehiaa
open Go Go.K
theorem clone_run {S : Nat → Prop} {v : Value} {l : List Int} {w : World} (h : SlR S 1 RRune w v l) (hl : l.length * 4 ≤ 140737488355328) :
    callK Try.prog 64 [v] (fun v' w' => OwnR w.heap.size 21 1 RRune w' v' l ∧ Grow w w') w := by
  apply S64_ok
  unfold S64
  exact clone_g elem_rune h hl (fun _ _ _ => RRune.one) (fun _ _ _ _ _ _ h => h) fun v' w' h1 h2 => And.intro h1 h2
theorem clone_pat {S : Nat → Prop} {v : Value} {l : List Chg} {w : World} (h : SlR S 6 RChg w v l) (hl : l.length * 56 ≤ 140737488355328) :
    callK Try.prog 87 [v] (fun v' w' => OwnR w.heap.size 61 6 RChg w' v' l ∧ Grow w w') w := by
  apply S87_ok
  unfold S87
  exact clone_g elem_chg h hl (fun _ _ _ => RChg.one) (fun _ _ _ _ _ _ h => h) fun v' w' h1 h2 => And.intro h1 h2
theorem RDops.old {S D : Nat → Prop} {w : World} {v : Value} {l : List Dop} (h : RDops S D w v l) : RDops (fun b => S b ∧ b < w.heap.size) (fun b => D b ∧ b < w.heap.size) w v l :=
  SlR.sub h (fun b hb h => ⟨h, hb⟩) (by decide) fun r x hx => hx.mod (Mod.refl (fun _ => False) _) (fun _ _ _ h => h) fun b hb h => ⟨h, hb⟩
/-- a row of ops of its own; what they hold is what was held -/
theorem clone_dops {S D : Nat → Prop} {v : Value} {l : List Dop} {w : World} (h : RDops S D w v l) (hl : l.length * 88 ≤ 140737488355328) :
    callK Try.prog 85 [v] (fun v' w' => OwnR w.heap.size 59 5 (RDop fun b => D b ∧ b < w.heap.size) w' v' l ∧ Grow w w') w := by
  apply S85_ok
  unfold S85
  exact clone_g elem_dop h.old hl (fun _ _ _ => RDop.one) (fun w1 w2 r y hz hm hy => hy.mod hm (fun b _ hd hb => by omega) fun _ _ h => h) fun v' w' h1 h2 => And.intro h1 h2
theorem copy_pat {S : Nat → Prop} {v : Value} {l : List Chg} {w : World} (h : RPat S w v l) (hl : l.length * 56 ≤ 140737488355328) :
    callK Try.prog 63 [v] (fun v' w' => OwnR w.heap.size 61 6 RChg w' v' l ∧ Grow w w') w := by
  apply S63_ok
  exact clone_pat h hl
theorem eq_run {S S' : Nat → Prop} {a b : Value} {l m : List Int} {w : World} (ha : SlR S 1 RRune w a l) (hb : SlR S' 1 RRune w b m) :
    callK Try.prog 70 [a, b] (fun v w' => v = .bool (decide (l = m)) ∧ Grow w w') w := by
  apply S70_ok
  unfold S70
  obtain ⟨pa, ca, rfl, hla⟩ := ha.shape
  obtain ⟨pb, cb, rfl, hlb⟩ := hb.shape
  simp only [lenK_i]
  rw [neK_i]
  refine condK_neg (fun hlen => ?_) fun hlen => ?_
  · exact eq_loop1 (K := fun v w' => v = .bool (decide (l = m)) ∧ Grow w w') ha hb (by omega) hla (fun _ _ h => h) fun _ hg => ⟨rfl, hg⟩
  · refine ⟨?_, Mod.refl _ _⟩
    congr 1; symm
    rw [decide_eq_false_iff_not]
    intro e; exact hlen (by rw [e])
theorem rsame_run {S S' : Nat → Prop} {a b : Value} {l m : List Int} {w : World} (ha : SlR S 1 RRune w a l) (hb : SlR S' 1 RRune w b m) :
    callK Try.prog 58 [a, b] (fun v w' => v = .bool (decide (l = m)) ∧ Grow w w') w := by
  apply S58_ok
  unfold S58
  obtain ⟨pa, ca, rfl, hla⟩ := ha.shape
  obtain ⟨pb, cb, rfl, hlb⟩ := hb.shape
  simp only [lenK_i]
  rw [neK_i]
  refine condK_neg (fun hlen => ?_) fun hlen => ?_
  · exact eq_loop1 (K := fun v w' => v = .bool (decide (l = m)) ∧ Grow w w') ha hb (by omega) hla (fun _ _ h => h) fun _ hg => ⟨rfl, hg⟩
  · refine ⟨?_, Mod.refl _ _⟩
    congr 1; symm
    rw [decide_eq_false_iff_not]
    intro e; exact hlen (by rw [e])
theorem eq_pat {S S' : Nat → Prop} {a b : Value} {l m : List Chg} {w : World} (ha : SlR S 6 RChg w a l) (hb : SlR S' 6 RChg w b m) :
    callK Try.prog 86 [a, b] (fun v w' => v = .bool (decide (l = m)) ∧ Grow w w') w := by
  apply S86_ok
  unfold S86
  obtain ⟨pa, ca, rfl, hla⟩ := ha.shape
  obtain ⟨pb, cb, rfl, hlb⟩ := hb.shape
  simp only [lenK_i]
  rw [neK_i]
  refine condK_neg (fun hlen => ?_) fun hlen => ?_
  · exact eq_loop (K := fun v w' => v = .bool (decide (l = m)) ∧ Grow w w') (bin := fun x y => binS .neq 61 _ _ x y) ha hb (by omega) hla (fun r r' x y w1 hx hy => by subst hx; subst hy; exact run_ne_chg _ _ _ _ w1) fun _ hg => ⟨rfl, hg⟩
  · refine ⟨?_, Mod.refl _ _⟩
    congr 1; symm
    rw [decide_eq_false_iff_not]
    intro e; exact hlen (by rw [e])
theorem rsame_pat {S S' : Nat → Prop} {a b : Value} {l m : List Chg} {w : World} (ha : SlR S 6 RChg w a l) (hb : SlR S' 6 RChg w b m) :
    callK Try.prog 59 [a, b] (fun v w' => v = .bool (decide (l = m)) ∧ Grow w w') w := by
  apply S59_ok
  unfold S59
  obtain ⟨pa, ca, rfl, hla⟩ := ha.shape
  obtain ⟨pb, cb, rfl, hlb⟩ := hb.shape
  simp only [lenK_i]
  rw [neK_i]
  refine condK_neg (fun hlen => ?_) fun hlen => ?_
  · exact eq_loop (K := fun v w' => v = .bool (decide (l = m)) ∧ Grow w w') (bin := fun x y => binS .neq 61 _ _ x y) ha hb (by omega) hla (fun r r' x y w1 hx hy => by subst hx; subst hy; exact run_ne_chg _ _ _ _ w1) fun _ hg => ⟨rfl, hg⟩
  · refine ⟨?_, Mod.refl _ _⟩
    congr 1; symm
    rw [decide_eq_false_iff_not]
    intro e; exact hlen (by rw [e])
theorem same_pat {S S' : Nat → Prop} {a b : Value} {l m : List Chg} {w : World} (ha : RPat S w a l) (hb : RPat S' w b m) :
    callK Try.prog 62 [a, b] (fun v w' => v = .bool (decide (l = m)) ∧ Grow w w') w := by
  apply S62_ok
  exact eq_pat ha hb
end Go.Proofs.Ytmfplfaeibehiaa
