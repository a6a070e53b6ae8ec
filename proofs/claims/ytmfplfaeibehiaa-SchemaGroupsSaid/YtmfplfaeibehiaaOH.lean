/- Contracts: keys that may be a schema's; how much a delta has; deltas that may be; what is tame. Conditions: the sizes. -/
import Derived.Test.YtmfplfaeibehiaaOG
namespace Go.Proofs.Ytmfplfaeibehiaa
open Go Go.K

def KeyOK (k : DKey) : Prop := 1 ≤ k.id ∧ k.id ≤ 1000 ∧ 1 ≤ k.kind ∧ k.kind ≤ 4 ∧ 0 ≤ k.group ∧ k.group ≤ 8 ∧ (k.block = false → k.group = 0) ∧ (k.block = true → k.before = false)
def MayN (keys : List DKey) (n : Nat) : Prop := ∀ i, i < n → ∀ k, keys[i]? = some k → KeyOK k ∧ ∀ j, j < i → ∀ k', keys[j]? = some k' → k'.id ≠ k.id
def MayKeys (keys : List DKey) : Prop := keys.length ≤ 64 ∧ MayN keys keys.length
open Classical in
theorem rmay_ok {S : Nat → Prop} {v : Value} {keys : List DKey} {w : World} (h : RKeys S w v keys) : callK Try.prog 56 [v] (fun v' w' => v' = .bool (decide (MayKeys keys)) ∧ Grow w w') w := by
  apply S56_ok
  unfold S56
  obtain ⟨a, c, rfl, hm⟩ := h.shape
  simp only [maxLen] at hm
  have no : ∀ w', Grow w w' → ¬ MayKeys keys → Value.bool false = .bool (decide (MayKeys keys)) ∧ Grow w w' := fun w' g hn => ⟨by rw [decide_eq_false hn], g⟩
  rw [lenK_i, gtK_i]
  refine condK_p (fun h6 => no _ (Mod.refl _ _) (by rintro ⟨h, _⟩; omega)) fun h6 => ?_
  refine LoopK_i (fun vs w1 => ∃ i : Nat, i ≤ keys.length ∧ vs = [.int .i64 i] ∧ Grow w w1 ∧ MayN keys i) (fun vs _ => keys.length - iOf vs 0) ⟨0, Nat.zero_le _, rfl, Mod.refl _ _, fun i hi => by omega⟩ ?_
  rintro vs w1 ⟨i, hi, rfl, g1, hmay⟩ _
  rw [lenK_i, nth_z, List.headD_cons, ltK_i]
  refine condK_p (fun hlt => ?_) fun hge => ?_
  · have hlt' : i < keys.length := by omega
    have hki : keys[i]? = some keys[i] := List.getElem?_eq_getElem hlt'
    obtain ⟨p, r, rfl, _, hr, hc, hx⟩ := (h.grow g1 (by decide) fun _ _ h => h).get hlt'
    subst hx
    refine ixK_n hlt' (ldnK_i hr (fun j u hu => by rw [Addr.add_add]; exact hc j u hu) ?_)
    refine newst_i (vs := keys[i].cells) rfl (RKey.one (w := w) (x := keys[i]) rfl) fun b w2 hb hz g2 hc2 _ => ?_
    have g02 := g1.trans g2
    have bad : ¬ KeyOK keys[i] → Value.bool false = .bool (decide (MayKeys keys)) ∧ Grow w w2 := fun hn => no _ g02 fun hM => hn (hM.2 i hlt' _ hki).1
    have l0 := hc2 0 _ rfl
    have l1 := hc2 1 _ rfl
    have l2 := hc2 2 _ rfl
    have l4 := hc2 4 _ rfl
    have l5 := hc2 5 _ rfl
    simp only [faK_i]
    refine JoinK_i (fun vs w3 => w3 = w2 ∧ KeyOK keys[i]) ?_ ?_
    · rintro vs _ ⟨rfl, hok⟩ _
      rename World => w2
      refine LoopK_i (fun vs w3 => ∃ j : Nat, j ≤ i ∧ vs = [.int .i64 j] ∧ Grow w2 w3 ∧ ∀ q, q < j → ∀ k', keys[q]? = some k' → k'.id ≠ keys[i].id) (fun vs _ => i - iOf vs 0) ⟨0, Nat.zero_le _, rfl, Mod.refl _ _, fun q hq => by omega⟩ ?_
      rintro vs w3 ⟨j, hj, rfl, g3, hq⟩ _
      rw [nth_z, List.headD_cons, ltK_i]
      refine condK_p (fun hjl => ?_) fun hjg => ?_
      · have hjl' : j < keys.length := by omega
        obtain ⟨_, r', e, _, hr', hc', hx'⟩ := (h.grow (g02.trans g3) (by decide) fun _ _ h => h).get hjl'
        cases e
        subst hx'
        refine ⟨fun w4 => Grow w3 w4, Mod.drew _ _, ?_⟩
        refine ixK_n hjl' ?_
        rw [faK_i, Addr.add_add]
        refine qld1K_i (fun w4 h4 => h4.cell (hc' 0 _ rfl) fun h => h) ?_
        refine qld1K_i (fun w4 h4 => h4.cell (g3.cell l0 fun h => h) fun h => h) ?_
        rw [eqK_i]
        intro w4 h4
        refine condK_p (fun he => no _ ((g02.trans g3).trans h4) fun hM => ?_) fun he => ?_
        · exact (hM.2 i hlt' _ hki).2 j (by omega) _ (List.getElem?_eq_getElem hjl') he
        · rw [addK_i, loop_step (by omega)]
          refine ⟨⟨j + 1, by omega, rfl, g3.trans h4, fun q hq1 k' hk' => ?_⟩, by rw [iOf0, iOf0]; omega⟩
          by_cases e : q = j
          · subst e; rw [List.getElem?_eq_getElem hjl'] at hk'; cases hk'; exact he
          · exact hq q (by omega) k' hk'
      · have : j = i := by omega
        subst this
        rw [addK_i, loop_step (by omega)]
        refine ⟨⟨j + 1, hlt', rfl, g02.trans g3, fun q hq1 k hk => ?_⟩, by rw [iOf0, iOf0]; omega⟩
        by_cases e : q = j
        · subst e; rw [hki] at hk; cases hk; exact ⟨hok, hq⟩
        · exact hmay q (by omega) k hk
    · refine ld1K_i l0 ?_
      rw [ltK_i]
      refine condK_p (fun h1 => bad (by rintro ⟨h, _⟩; omega)) fun h1 => ?_
      refine ld1K_i l0 ?_
      rw [gtK_i]
      refine condK_p (fun h2 => bad (by rintro ⟨_, h, _⟩; omega)) fun h2 => ?_
      refine ld1K_i l2 ?_
      rw [ltK_i]
      refine condK_p (fun h3 => bad (by rintro ⟨_, _, h, _⟩; omega)) fun h3 => ?_
      refine ld1K_i l2 ?_
      rw [gtK_i]
      refine condK_p (fun h4 => bad (by rintro ⟨_, _, _, h, _⟩; omega)) fun h4 => ?_
      refine ld1K_i l5 ?_
      rw [ltK_i]
      refine condK_p (fun h5 => bad (by rintro ⟨_, _, _, _, h, _⟩; omega)) fun h5 => ?_
      refine ld1K_i l5 ?_
      rw [gtK_i]
      refine condK_p (fun h7 => bad (by rintro ⟨_, _, _, _, _, h, _⟩; omega)) fun h7 => ?_
      refine ld1K_i l1 ?_
      have tail : (keys[i].block = false → keys[i].group = 0) → ld1K (.pointer (some ((⟨b, 0, none⟩ : Addr).add 1))) (fun t59 w16 => condK t59 (ld1K (.pointer (some ((⟨b, 0, none⟩ : Addr).add 4))) (fun t62 w17 => condK t62 (Value.bool false = .bool (decide (MayKeys keys)) ∧ Grow w w17) (w17 = w2 ∧ KeyOK keys[i])) w16) (w16 = w2 ∧ KeyOK keys[i])) w2 := by
        intro hgz
        refine ld1K_i l1 ?_
        cases hb : keys[i].block with
        | true =>
          rw [condK_b, if_pos rfl]
          refine ld1K_i l4 ?_
          cases hbf : keys[i].before with
          | true => rw [condK_b, if_pos rfl]; exact bad (by rintro ⟨_, _, _, _, _, _, _, h⟩; rw [h hb] at hbf; cases hbf)
          | false => rw [condK_b]; exact (if_neg (by simp)).mpr ⟨rfl, by omega, by omega, by omega, by omega, by omega, by omega, hgz, fun _ => hbf⟩
        | false => rw [condK_b]; exact (if_neg (by simp)).mpr ⟨rfl, by omega, by omega, by omega, by omega, by omega, by omega, hgz, fun h => by rw [hb] at h; cases h⟩
      rw [notK_i]
      cases hb : keys[i].block with
      | true =>
        rw [condK_b]
        exact (if_neg (by simp)).mpr (tail fun h => by rw [hb] at h; cases h)
      | false =>
        rw [condK_b]
        refine (if_pos (by simp)).mpr (ld1K_i l5 ?_)
        rw [neK_i]
        exact condK_neg (fun hz => tail fun _ => hz) fun hz => bad (by rintro ⟨_, _, _, _, _, _, h, _⟩; exact hz (h hb))
  · have : i = keys.length := by omega
    subst this
    refine ⟨?_, g1⟩
    rw [decide_eq_true ⟨by omega, hmay⟩]

/-! ### how much -/
def szA (l : List Attr) : Nat := (l.map fun a => a.val.s.size).sum
def szC (l : List Chg) : Nat := (l.map fun a => a.val.s.size).sum
theorem mSet_eq (l : List Attr) : mSet l = l.length + szA l := by
  induction l with
  | nil => rfl
  | cons a l ih => simp only [mSet, szA, List.map_cons, List.sum_cons, List.length_cons, mAttr] at ih ⊢; omega
theorem mPat_eq (l : List Chg) : mPat l = l.length + szC l := by
  induction l with
  | nil => rfl
  | cons a l ih => simp only [mPat, szC, List.map_cons, List.sum_cons, List.length_cons, mChg] at ih ⊢; omega
theorem szA_take {l : List Attr} {k : Nat} (h : k < l.length) : szA (l.take (k + 1)) = szA (l.take k) + l[k].val.s.size := by
  rw [List.take_add_one, List.getElem?_eq_getElem h]; simp only [szA, Option.toList, List.map_append, List.sum_append, List.map_cons, List.map_nil, List.sum_cons, List.sum_nil, Nat.add_zero]
theorem szC_take {l : List Chg} {k : Nat} (h : k < l.length) : szC (l.take (k + 1)) = szC (l.take k) + l[k].val.s.size := by
  rw [List.take_add_one, List.getElem?_eq_getElem h]; simp only [szC, Option.toList, List.map_append, List.sum_append, List.map_cons, List.map_nil, List.sum_cons, List.sum_nil, Nat.add_zero]
theorem mDops_take {l : List Dop} {k : Nat} (h : k < l.length) : mDops (l.take (k + 1)) = mDops (l.take k) + mDop l[k] := by
  rw [List.take_add_one, List.getElem?_eq_getElem h]; simp only [mDops, Option.toList, List.map_append, List.sum_append, List.map_cons, List.map_nil, List.sum_cons, List.sum_nil, Nat.add_zero]
theorem mDops_mem {l : List Dop} {o : Dop} (h : o ∈ l) : mDop o ≤ mDops l := by
  induction l with
  | nil => simp at h
  | cons a l ih =>
    have e : mDops (a :: l) = mDop a + mDops l := by simp [mDops]
    rcases List.mem_cons.1 h with rfl | h
    · omega
    · have := ih h; omega
theorem mDops_len (l : List Dop) : l.length ≤ mDops l := by
  induction l with
  | nil => exact Nat.zero_le _
  | cons a l ih => simp only [mDops, List.map_cons, List.sum_cons, List.length_cons, mDop] at ih ⊢; omega
theorem mDops_le (l : List Dop) (k : Nat) : mDops (l.take k) ≤ mDops l := by
  have : mDops l = mDops (l.take k) + mDops (l.drop k) := by
    conv => lhs; rw [← List.take_append_drop k l]
    simp only [mDops, List.map_append, List.sum_append]
  omega
theorem szA_le (l : List Attr) (k : Nat) : szA (l.take k) ≤ szA l := by
  have : szA l = szA (l.take k) + szA (l.drop k) := by
    conv => lhs; rw [← List.take_append_drop k l]
    simp only [szA, List.map_append, List.sum_append]
  omega
theorem szC_le (l : List Chg) (k : Nat) : szC (l.take k) ≤ szC l := by
  have : szC l = szC (l.take k) + szC (l.drop k) := by
    conv => lhs; rw [← List.take_append_drop k l]
    simp only [szC, List.map_append, List.sum_append]
  omega
theorem mSet_mem {l : List Attr} {a : Attr} (h : a ∈ l) : a.val.s.size + 1 ≤ mSet l := by
  induction l with
  | nil => simp at h
  | cons b l ih =>
    have e : mSet (b :: l) = mAttr b + mSet l := by simp [mSet]
    rcases List.mem_cons.1 h with rfl | h
    · simp only [mAttr] at e; omega
    · have := ih h; omega
theorem mPat_mem {l : List Chg} {a : Chg} (h : a ∈ l) : a.val.s.size + 1 ≤ mPat l := by
  induction l with
  | nil => simp at h
  | cons b l ih =>
    have e : mPat (b :: l) = mChg b + mPat l := by simp [mPat]
    rcases List.mem_cons.1 h with rfl | h
    · simp only [mChg] at e; omega
    · have := ih h; omega
theorem size_ok {S D : Nat → Prop} {v : Value} {x : List Dop} {w : World} (h : RDops S D w v x) (hb : mDops x ≤ 1099511627776) :
    callK Try.prog 31 [v] (fun v' w' => v' = .int .i64 (mDops x) ∧ Grow w w') w := by
  apply S31_ok
  unfold S31
  obtain ⟨a, c, rfl, hm⟩ := h.shape
  simp only [maxLen] at hm
  refine LoopK_i (fun vs w1 => ∃ k : Nat, k ≤ x.length ∧ vs = [.int .i64 (mDops (x.take k)), .int .i64 k] ∧ Grow w w1) (fun vs _ => x.length - iOf vs 1) ⟨0, Nat.zero_le _, rfl, Mod.refl _ _⟩ ?_
  rintro vs w1 ⟨k, hk, rfl, hg⟩ _
  simp only [nth_s, nth_z, List.headD_cons, List.tail_cons]
  rw [lenK_i, ltK_i]
  refine condK_p (fun hlt => ?_) fun hge => ?_
  · have hlt' : k < x.length := by omega
    have hmk := mDops_take hlt'
    have hmk1 := mDops_le x (k + 1)
    obtain ⟨p, r, rfl, _, hr, hc, rv, sv, pv, rfl, h1, h2, h3⟩ := (RDops.grow h hg).get hlt'
    obtain ⟨a1, c1, rfl, m1⟩ := h1.shape
    obtain ⟨a2, c2, rfl, m2⟩ := h2.shape
    obtain ⟨a3, c3, rfl, m3⟩ := h3.shape
    have cl : ∀ {W}, Grow w1 W → ∀ j u, [Value.int .u8 x[k].kind, .int .i64 x[k].n, .slice a1 x[k].runes.length c1, .slice a2 x[k].set.length c2, .slice a3 x[k].patch.length c3][j]? = some u → W.cell? ((p.add (k * 5)).add j) = some u := fun hW j u hu => by rw [Addr.add_add]; exact hW.cell (hc j u hu) fun h => h
    simp only [mDop, mSet_eq, mPat_eq] at hmk
    refine drawK_i (fun w2 => Grow w1 w2) (Mod.drew _ _) ?_
    rw [addK_i, wrap64 (by omega) (by omega)]
    refine ixK_n hlt' ?_
    rw [faK_i]
    refine qld1K_i (fun W hW => cl hW 2 _ rfl) ?_
    rw [lenK_i, addK_i, wrap64 (by omega) (by omega)]
    refine ixK_n hlt' ?_
    rw [faK_i]
    refine qld1K_i (fun W hW => cl hW 3 _ rfl) ?_
    rw [lenK_i, addK_i, wrap64 (by omega) (by omega)]
    refine ixK_n hlt' ?_
    rw [faK_i]
    refine qld1K_i (fun W hW => cl hW 4 _ rfl) ?_
    rw [lenK_i, addK_i, wrap64 (by omega) (by omega)]
    intro w2 g2
    generalize hN : ((mDops (x.take k) : Nat) : Int) + 1 + x[k].runes.length + x[k].set.length + x[k].patch.length = N
    refine LoopK_i (fun vs w3 => ∃ i : Nat, i ≤ x[k].set.length ∧ vs = [.int .i64 (N + szA (x[k].set.take i)), .int .i64 i] ∧ Grow w1 w3) (fun vs _ => x[k].set.length - iOf vs 1) ⟨0, Nat.zero_le _, by simp [szA], g2⟩ ?_
    rintro vs w3 ⟨i, hi, rfl, g3⟩ _
    simp only [nth_s, nth_z, List.headD_cons, List.tail_cons]
    refine ixK_n hlt' ?_
    rw [faK_i]
    refine ld1K_i (cl g3 3 _ rfl) ?_
    rw [lenK_i, ltK_i]
    refine condK_p (fun hil => ?_) fun hig => ?_
    · have hil' : i < x[k].set.length := by omega
      have hsk := szA_take hil'
      have hsk1 := szA_le x[k].set (i + 1)
      refine ixK_n hlt' ?_
      rw [faK_i]
      refine ld1K_i (cl g3 3 _ rfl) ?_
      obtain ⟨q, r', rfl, _, hr', hc', hx'⟩ := (h2.grow g3 (by decide) fun _ _ h => h).get hil'
      subst hx'
      refine ixK_n hil' ?_
      rw [faK_i, faK_i, Addr.add_add, Addr.add_add]
      refine ld1K_i (hc' 4 _ rfl) ?_
      rw [slenK_i, addK_i, addK_i, loop_step (by omega), wrap64 (by omega) (by omega)]
      refine ⟨⟨i + 1, hil', by rw [hsk]; congr 2; omega, g3⟩, by rw [iOf1, iOf1]; omega⟩
    · have : i = x[k].set.length := by omega
      subst this
      rw [List.take_length]
      generalize hN2 : N + szA x[k].set = N2
      refine LoopK_i (fun vs w4 => ∃ i : Nat, i ≤ x[k].patch.length ∧ vs = [.int .i64 (N2 + szC (x[k].patch.take i)), .int .i64 i] ∧ Grow w1 w4) (fun vs _ => x[k].patch.length - iOf vs 1) ⟨0, Nat.zero_le _, by simp [szC], g3⟩ ?_
      rintro vs w4 ⟨i, hi, rfl, g4⟩ _
      simp only [nth_s, nth_z, List.headD_cons, List.tail_cons]
      refine ixK_n hlt' ?_
      rw [faK_i]
      refine ld1K_i (cl g4 4 _ rfl) ?_
      rw [lenK_i, ltK_i]
      refine condK_p (fun hil => ?_) fun hig => ?_
      · have hil' : i < x[k].patch.length := by omega
        have hsk := szC_take hil'
        have hsk1 := szC_le x[k].patch (i + 1)
        refine ixK_n hlt' ?_
        rw [faK_i]
        refine ld1K_i (cl g4 4 _ rfl) ?_
        obtain ⟨q, r', rfl, _, hr', hc', hx'⟩ := (h3.grow g4 (by decide) fun _ _ h => h).get hil'
        subst hx'
        refine ixK_n hil' ?_
        rw [faK_i, faK_i, Addr.add_add, Addr.add_add]
        refine ld1K_i (hc' 5 _ rfl) ?_
        rw [slenK_i, addK_i, addK_i, loop_step (by omega), wrap64 (by omega) (by omega)]
        refine ⟨⟨i + 1, hil', by rw [hsk]; congr 2; omega, g4⟩, by rw [iOf1, iOf1]; omega⟩
      · have : i = x[k].patch.length := by omega
        subst this
        rw [List.take_length, addK_i, loop_step (by omega)]
        refine ⟨⟨k + 1, hlt', ?_, hg.trans g4⟩, by rw [iOf1, iOf1]; omega⟩
        congr 2
        omega
  · have : k = x.length := by omega
    subst this
    rw [List.take_length]
    exact ⟨rfl, hg⟩
end Go.Proofs.Ytmfplfaeibehiaa
