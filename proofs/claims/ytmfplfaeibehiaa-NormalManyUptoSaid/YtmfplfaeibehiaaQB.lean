/- The law NormalShort: it answers true, and leaves all memory as it was. Condition: how much there is. -/
import Derived.Test.YtmfplfaeibehiaaQA
namespace Go.Proofs.Ytmfplfaeibehiaa
open Go Go.K

theorem normB_m (x : List Dop) (hb : mDops x ≤ 1048576) : mDops (normB x) ≤ 8388608 := by
  have h1 := runS_m x
  have h2 := gapL_m (runS x).ins (runS x).gone
  have h3 := mDops_sub (l := (runS x).done ++ gapL (runS x).ins (runS x).gone)
  rw [mDops_app] at h3
  unfold normB opsS
  omega
theorem runesN_le (l : List Dop) : runesN l ≤ mDops l := by
  induction l with
  | nil => exact Nat.le_refl _
  | cons o l ih => simp only [runesN, mDops, List.map_cons, List.sum_cons, mDop] at ih ⊢; omega
def goneF (o : Dop) : Int := if o.kind = 3 then o.n else 0
theorem runesN_take {l : List Dop} {k : Nat} (h : k < l.length) : runesN (l.take (k + 1)) = runesN (l.take k) + l[k].runes.length := by
  rw [List.take_add_one, List.getElem?_eq_getElem h]; simp only [runesN, Option.toList, List.map_append, List.sum_append, List.map_cons, List.map_nil, List.sum_cons, List.sum_nil, Nat.add_zero]
theorem runesN_lek (l : List Dop) (k : Nat) : runesN (l.take k) ≤ runesN l := by
  have : runesN l = runesN (l.take k) + runesN (l.drop k) := by
    conv => lhs; rw [← List.take_append_drop k l]
    simp only [runesN, List.map_append, List.sum_append]
  omega
/-- the loop that reckons runes and what is deleted -/
theorem sums_loop {S D : Nat → Prop} {w : World} {a : Option Addr} {c : Nat} {x : List Dop} {Rest : List Value → World → Prop} (h : RDops S D w (.slice a x.length c) x) (hb : mDops x ≤ 8388608) (hR : Rest [.int .i64 (runesN x), .int .i64 (sumW goneF x), .int .i64 x.length] w) :
    LoopK [(.int .i64 0), (.int .i64 0), (.int .i64 0)] (fun vs again w4 => ∀ _ : Env, ltK .i64 (nth vs 2) (.int .i64 x.length) fun t22 => condK t22
      (ixK 5 (.slice a x.length c) (nth vs 2) fun t27 => faK 2 t27 fun t28 => ld1K t28 (fun t29 w5 => lenK t29 fun t30 => addK .i64 (nth vs 0) t30 fun t31 => ixK 5 (.slice a x.length c) (nth vs 2) fun t34 => faK 0 t34 fun t35 => ld1K t35 (fun t36 w6 => eqK .u8 t36 (.int .u8 3) fun t37 => condK t37
        (ixK 5 (.slice a x.length c) (nth vs 2) fun t41 => faK 1 t41 fun t42 => ld1K t42 (fun t43 w7 => addK .i64 (nth vs 1) t43 fun t44 => addK .i64 (nth vs 2) (.int .i64 1) fun t45 => again [t31, t44, t45] w7) w6)
        (addK .i64 (nth vs 2) (.int .i64 1) fun t45_1 => again [t31, (nth vs 1), t45_1] w6)) w5) w4)
      (Rest vs w4)) w := by
  have hxl := mDops_len x
  have hrx := runesN_le x
  refine LoopK_i (fun vs w1 => ∃ k : Nat, k ≤ x.length ∧ vs = [.int .i64 (runesN (x.take k)), .int .i64 (sumW goneF (x.take k)), .int .i64 k] ∧ w1 = w) (fun vs _ => x.length - iOf vs 2) ⟨0, Nat.zero_le _, rfl, rfl⟩ ?_
  rintro vs _ ⟨k, hk, rfl, rfl⟩ _
  rename World => w
  simp only [nth_s, nth_z, List.headD_cons, List.tail_cons]
  rw [ltK_i]
  refine condK_p (fun hlt => ?_) fun hge => ?_
  · have hlt' : k < x.length := by omega
    have hrt := runesN_take hlt'
    have hrk := runesN_lek x (k + 1)
    obtain ⟨p, r, rfl, hS, hr, hc, rv, sv, pv, rfl, h1, h2, h3⟩ := h.get hlt'
    have wr : ∀ z, sumW goneF (x.take k) = z → -9223372036854775808 ≤ z ∧ z ≤ 9223372036854775807 := by
      rintro z rfl
      by_cases h0 : k = 0
      · subst h0; simp [sumW]
      · obtain ⟨k', rfl⟩ : ∃ k', k = k' + 1 := ⟨k - 1, by omega⟩
        rw [sumW_take (by omega)]
        exact wrap_range _
    refine ixK_n hlt' ?_
    rw [faK_i, Addr.add_add]
    refine ld1K_i (hc 2 _ rfl) ?_
    obtain ⟨pa, pc, rfl, _⟩ := h1.shape
    rw [lenK_i, addK_i, wrap64 (by omega) (by omega)]
    refine ixK_n hlt' ?_
    rw [faK_i, Addr.add_add]
    refine ld1K_i (hc 0 _ rfl) ?_
    rw [eqK_i]
    refine condK_p (fun e => ?_) fun e => ?_
    · refine ixK_n hlt' ?_
      rw [faK_i, Addr.add_add]
      refine ld1K_i (hc 1 _ rfl) ?_
      rw [addK_i, addK_i, loop_step (by omega)]
      refine ⟨⟨k + 1, hlt', ?_, rfl⟩, by rw [iOf2, iOf2]; omega⟩
      rw [sumW_take hlt', goneF, if_pos e, hrt]
      simp
    · rw [addK_i, loop_step (by omega)]
      refine ⟨⟨k + 1, hlt', ?_, rfl⟩, by rw [iOf2, iOf2]; omega⟩
      rw [sumW_take hlt', goneF, if_neg e, Int.add_zero, wrap64 (wr _ rfl).1 (wr _ rfl).2, hrt]
      simp
  · have : k = x.length := by omega
    subst this
    rw [List.take_length]
    exact hR
theorem goneN_eq (x : List Dop) : goneN x = (x.map goneF).sum := rfl
open Classical in
theorem NormalShort_ok {S S' D : Nat → Prop} {kv v : Value} {keys : List DKey} {x : List Dop} {w : World} (hk : RKeys S w kv keys) (h : RDops S' D w v x) (hb : mDops x ≤ 1048576) :
    callK Try.prog 12 [kv, v] (fun v w' => v = .bool true ∧ Grow w w') w := by
  apply S12_ok
  unfold S12
  have kn : ∀ {w1}, Grow w w1 → callK Try.prog 35 [] (fun v w' => v = .bool true ∧ Grow w w') w1 := fun hg => callK_mono known16_ok fun v w' ⟨e, h⟩ => ⟨e, hg.trans h⟩
  refine callK_mono (tamex_ok hk h (by omega)) ?_
  rintro v1 w1 ⟨rfl, g1⟩
  rw [notK_i]
  refine condK_neg (fun ht => ?_) fun ht => kn g1
  have hf := ht.form1
  have hl := ht.len
  refine callK_mono (of_dops (RDops.grow h g1) (by omega)) ?_
  rintro v2 w2 ⟨o2, g2⟩
  have g02 := g1.trans g2
  obtain ⟨s1, s2, s3⟩ := norm_short x hf hl
  have hmn := normB_m x hb
  have hnl := mDops_len (normB x)
  have hxl := mDops_len x
  have r2 := ODops.reads o2
  have hx2 := RDops.grow h g02
  obtain ⟨a2, c2, rfl, hm2⟩ := r2.shape
  obtain ⟨a1, c1, rfl, hm1⟩ := h.shape
  rw [lenK_i]
  refine sums_loop hx2 (by omega) ?_
  rw [lenK_i]
  refine sums_loop r2 (by omega) ?_
  simp only [nth_s, nth_z, List.headD_cons, List.tail_cons]
  have hsmall : x.length ≤ 20000 := by have := ht.2.1; omega
  have q1 : sumW goneF x = goneN x ∧ 0 ≤ sumW goneF x ∧ sumW goneF x ≤ x.length * 536870912 := sumW_small (m := 536870912) (by decide) x (fun o ho => by
    have := (hf o ho).nn
    unfold goneF; split <;> omega) (by omega)
  have e1 : sumW goneF x = sumW goneF (normB x) := by
    have hz : ∀ o ∈ normB x, 0 ≤ goneF o ∧ goneF o ≤ 10737418240000 := by
      -- every delete of the form is at most all that is deleted
      intro o ho
      have hnn : ∀ o ∈ normB x, 0 ≤ goneF o := by
        intro o ho
        have c := canon_run x hf hl
        have hd : ∀ l, DoneC l → ∀ o ∈ l, 0 ≤ goneF o := by
          intro l hl
          induction hl with
          | nil => intro o ho; simp at ho
          | snoc d ins gone n p h hi hg hb hn hp ih =>
            intro o ho
            rcases List.mem_append.1 ho with ho | ho
            · rcases List.mem_append.1 ho with ho | ho
              · exact ih o ho
              · unfold gapL at ho
                split at ho
                · rcases List.mem_append.1 ho with ho | ho
                  · have := hi.kinds o ho; unfold goneF; rw [if_neg (by omega)]; exact Int.le_refl _
                  · simp at ho; subst ho; unfold goneF; simp only [if_true]; omega
                · have := hi.kinds o ho; unfold goneF; rw [if_neg (by omega)]; exact Int.le_refl _
            · simp at ho; subst ho; unfold goneF; simp
        have hall : ∀ o ∈ (runS x).done ++ gapL (runS x).ins (runS x).gone, 0 ≤ goneF o := by
          intro o ho
          rcases List.mem_append.1 ho with ho | ho
          · exact hd _ c.done o ho
          · unfold gapL at ho
            split at ho
            · rcases List.mem_append.1 ho with ho | ho
              · have := c.ins.kinds o ho; unfold goneF; rw [if_neg (by omega)]; exact Int.le_refl _
              · simp at ho; subst ho; unfold goneF; simp only [if_true]; omega
            · have := c.ins.kinds o ho; unfold goneF; rw [if_neg (by omega)]; exact Int.le_refl _
        have hsub : ∀ o ∈ normB x, o ∈ (runS x).done ++ gapL (runS x).ins (runS x).gone := by
          intro o ho
          unfold normB opsS trimL at ho
          split at ho
          · split at ho
            · rw [List.dropLast_eq_take] at ho; exact List.mem_of_mem_take ho
            · exact ho
          · exact ho
        exact hall o (hsub o ho)
      refine ⟨hnn o ho, ?_⟩
      have hle : ∀ (l : List Dop), (∀ o ∈ l, 0 ≤ goneF o) → ∀ o ∈ l, goneF o ≤ (l.map goneF).sum := by
        intro l
        induction l with
        | nil => intro _ o ho; simp at ho
        | cons a l ih =>
          intro hl o ho
          have h1 := hl a (by simp)
          have h2 : 0 ≤ (l.map goneF).sum := by
            clear ih ho
            induction l with
            | nil => exact Int.le_refl _
            | cons b l ih => 
              have := ih (fun o ho => hl o (by simp at ho ⊢; rcases ho with h | h; exact .inl h; exact .inr (.inr h)))
              have := hl b (by simp)
              simp only [List.map_cons, List.sum_cons]; omega
          simp only [List.map_cons, List.sum_cons]
          rcases List.mem_cons.1 ho with rfl | ho
          · omega
          · have := ih (fun o ho => hl o (by simp [ho])) o ho; omega
      have := hle (normB x) hnn o ho
      rw [← goneN_eq, s2] at this
      have := q1.2.2
      omega
    have q2 := sumW_small (m := 10737418240000) (by decide) (normB x) hz (by omega)
    rw [q1.1, q2.1, ← goneN_eq, s2]
  rw [lenK_i, lenK_i, leK_i]
  refine condK_p (fun _ => ?_) fun e => (e (by omega)).elim
  rw [eqK_i, s1]
  refine condK_p (fun _ => ?_) fun e => (e rfl).elim
  rw [eqK_i]
  refine condK_p (fun _ => ?_) fun e => (e e1).elim
  refine callK_mono (is_dops hx2 (by omega)) ?_
  rintro v3 w3 ⟨rfl, g3⟩
  refine callK_mono (same_dops (RDops.grow r2 g3) (RDops.grow hx2 g3)) ?_
  rintro v4 w4 ⟨rfl, g4⟩
  rw [beqK_i, condK_b, if_pos (by simp)]
  exact kn ((g02.trans g3).trans g4)
end Go.Proofs.Ytmfplfaeibehiaa
