/- What is known of normal forms; the laws NormalTwice and NormalShort: they answer true, and leave all memory as it was. Conditions: how much there is. -/
import Derived.Test.YtmfplfaeibehiaaOO
namespace Go.Proofs.Ytmfplfaeibehiaa
open Go Go.K

abbrev dz3 : List Value := [.slice none 0 0, .slice none 0 0]
theorem run1 {w w' : World} {q : Int} {g : Nat} (hc : ∀ j v, [Value.int .i32 q][j]? = some v → w'.cell? ((⟨g, 0, none⟩ : Addr).add j) = some v) : RRun (fun _ => True) w' (.slice (some ⟨g, 0, none⟩) 1 1) [q] := by
  refine ⟨_, _, rfl, Nat.le_refl _, by simp [maxLen], fun i x hx => ⟨_, [.int .i32 x], rfl, trivial, rfl, fun j u hu => ?_, rfl⟩⟩
  have hi : i = 0 := by have := (List.getElem?_eq_some_iff.1 hx).1; simp at this; exact this
  subst hi
  simp at hx; subst hx
  rw [Nat.zero_mul, Nat.zero_add]; exact hc j u hu
theorem known16_ok {w : World} : callK Try.prog 35 [] (fun v w' => v = .bool true ∧ Grow w w') w := by
  apply S35_ok
  unfold S35
  refine ⟨#[.int .u8 3, .int .i64 2, .slice none 0 0, .slice none 0 0, .slice none 0 0], by kernel_rfl, ?_⟩
  refine row1_i fun w1 g1 z1 c1 => ?_
  have r1 := run1 (w := w) c1
  generalize Value.slice (some ⟨w.heap.size, 0, none⟩) 1 1 = v1 at r1 ⊢
  obtain ⟨p1, q1, rfl, _⟩ := r1.shape
  refine ⟨#[.int .u8 2, .int .i64 0, .slice p1 1 q1, .slice none 0 0, .slice none 0 0], by kernel_rfl, ?_⟩
  refine row1_i fun w2 g2 z2 c2 => ?_
  have r2 := run1 (w := w) c2
  generalize Value.slice (some ⟨w1.heap.size, 0, none⟩) 1 1 = v2 at r2 ⊢
  obtain ⟨p2, q2, rfl, _⟩ := r2.shape
  refine ⟨#[.int .u8 2, .int .i64 0, .slice p2 1 q2, .slice none 0 0, .slice none 0 0], by kernel_rfl, ?_⟩
  refine ⟨#[.int .u8 1, .int .i64 4, .slice none 0 0, .slice none 0 0, .slice none 0 0], by kernel_rfl, ?_⟩
  let rows : List (List Value) := [row5 ⟨3, 2, [], [], []⟩ (.slice none 0 0) (.slice none 0 0) (.slice none 0 0), row5 ⟨2, 0, [97], [], []⟩ (.slice p1 1 q1) (.slice none 0 0) (.slice none 0 0), row5 ⟨2, 0, [98], [], []⟩ (.slice p2 1 q2) (.slice none 0 0) (.slice none 0 0), row5 ⟨1, 4, [], [], []⟩ (.slice none 0 0) (.slice none 0 0) (.slice none 0 0)]
  refine rowK_i (cs := rows.flatten) (by kernel_rfl) ?_
  have g3 : Grow w2 (w2.alloc (.cells rows.flatten.toArray TOp)) := Mod.alloc _ _ _
  have hL : RDops (fun b => b = w2.heap.size) (fun _ => True) (w2.alloc (.cells rows.flatten.toArray TOp)) (.slice (some ⟨w2.heap.size, 0, none⟩) 4 4) [⟨3, 2, [], [], []⟩, ⟨2, 0, [97], [], []⟩, ⟨2, 0, [98], [], []⟩, ⟨1, 4, [], [], []⟩] := by
    refine SlR.made (l := [(⟨3, 2, [], [], []⟩ : Dop), ⟨2, 0, [97], [], []⟩, ⟨2, 0, [98], [], []⟩, ⟨1, 4, [], [], []⟩]) (t := TOp) rows (by simp [rows]) rfl (by simp [maxLen]) fun i r x hr hx => ?_
    match i with
    | 0 => cases hr; cases hx; exact ⟨_, _, _, rfl, SlR.nil, SlR.nil, SlR.nil⟩
    | 1 => cases hr; cases hx; exact ⟨_, _, _, rfl, (r1.grow g2 (by decide) fun _ _ h => h).grow g3 (by decide) fun _ _ h => h, SlR.nil, SlR.nil⟩
    | 2 => cases hr; cases hx; exact ⟨_, _, _, rfl, r2.grow g3 (by decide) fun _ _ h => h, SlR.nil, SlR.nil⟩
    | 3 => cases hr; cases hx; exact ⟨_, _, _, rfl, SlR.nil, SlR.nil, SlR.nil⟩
    | i + 4 => simp [rows] at hr
  generalize w2.alloc (.cells rows.flatten.toArray TOp) = w3 at hL g3 ⊢
  have g03 := (g1.trans g2).trans g3
  refine callK_mono (of_dops hL (by decide)) ?_
  rintro v4 w4 ⟨o4, g4⟩
  have e4 : normB [⟨3, 2, [], [], []⟩, ⟨2, 0, [97], [], []⟩, ⟨2, 0, [98], [], []⟩, ⟨1, 4, [], [], []⟩] = [⟨2, 0, [97, 98], [], []⟩, ⟨3, 2, [], [], []⟩] := by decide
  rw [e4] at o4
  refine row2_i fun w5 g5 z5 c5 => ?_
  have r5 : RRun (fun _ => True) w5 (.slice (some ⟨w4.heap.size, 0, none⟩) 2 2) [97, 98] := by
    refine ⟨_, _, rfl, Nat.le_refl _, by simp [maxLen], fun i x hx => ⟨_, [.int .i32 x], rfl, trivial, rfl, fun j u hu => ?_, rfl⟩⟩
    have hj : j = 0 := by have := (List.getElem?_eq_some_iff.1 hu).1; simp at this; exact this
    subst hj
    simp at hu; subst hu
    match i with
    | 0 => cases hx; exact c5 0 _ rfl
    | 1 => cases hx; exact c5 1 _ rfl
    | i + 2 => simp at hx
  generalize Value.slice (some ⟨w4.heap.size, 0, none⟩) 2 2 = v5 at r5 ⊢
  obtain ⟨p5, q5, rfl, _⟩ := r5.shape
  refine ⟨#[.int .u8 2, .int .i64 0, .slice p5 2 q5, .slice none 0 0, .slice none 0 0], by kernel_rfl, ?_⟩
  refine ⟨#[.int .u8 3, .int .i64 2, .slice none 0 0, .slice none 0 0, .slice none 0 0], by kernel_rfl, ?_⟩
  let rows2 : List (List Value) := [row5 ⟨2, 0, [97, 98], [], []⟩ (.slice p5 2 q5) (.slice none 0 0) (.slice none 0 0), row5 ⟨3, 2, [], [], []⟩ (.slice none 0 0) (.slice none 0 0) (.slice none 0 0)]
  refine rowK_i (cs := rows2.flatten) (by kernel_rfl) ?_
  have g6 : Grow w5 (w5.alloc (.cells rows2.flatten.toArray TOp)) := Mod.alloc _ _ _
  have hM : RDops (fun b => b = w5.heap.size) (fun _ => True) (w5.alloc (.cells rows2.flatten.toArray TOp)) (.slice (some ⟨w5.heap.size, 0, none⟩) 2 2) [⟨2, 0, [97, 98], [], []⟩, ⟨3, 2, [], [], []⟩] := by
    refine SlR.made (l := [(⟨2, 0, [97, 98], [], []⟩ : Dop), ⟨3, 2, [], [], []⟩]) (t := TOp) rows2 (by simp [rows2]) rfl (by simp [maxLen]) fun i r x hr hx => ?_
    match i with
    | 0 => cases hr; cases hx; exact ⟨_, _, _, rfl, r5.grow g6 (by decide) fun _ _ h => h, SlR.nil, SlR.nil⟩
    | 1 => cases hr; cases hx; exact ⟨_, _, _, rfl, SlR.nil, SlR.nil, SlR.nil⟩
    | i + 2 => simp [rows2] at hr
  generalize w5.alloc (.cells rows2.flatten.toArray TOp) = w6 at hM g6 ⊢
  have g46 := g5.trans g6
  have s4 := RDops.grow (ODops.reads o4) g46
  refine callK_mono (same_dops s4 hM) ?_
  rintro v7 w7 ⟨rfl, g7⟩
  rw [decide_eq_true rfl, condK_b, if_pos rfl]
  refine callK_mono (is_dops (RDops.grow s4 g7) (by decide)) ?_
  rintro v8 w8 ⟨rfl, g8⟩
  have e8 : normB [⟨2, 0, [97, 98], [], []⟩, ⟨3, 2, [], [], []⟩] = [⟨2, 0, [97, 98], [], []⟩, ⟨3, 2, [], [], []⟩] := by decide
  exact ⟨by rw [e8, decide_eq_true rfl], (((g03.trans g4).trans g46).trans g7).trans g8⟩
theorem TameX.len {keys : List DKey} {x : List Dop} (h : TameX keys x) : x.length ≤ 8589934592 := by
  have := h.2.1
  have := mDops_len x
  omega
open Classical in
theorem NormalTwice_ok {S S' D : Nat → Prop} {kv v : Value} {keys : List DKey} {x : List Dop} {w : World} (hk : RKeys S w kv keys) (h : RDops S' D w v x) (hb : mDops x ≤ 1048576) :
    callK Try.prog 10 [kv, v] (fun v w' => v = .bool true ∧ Grow w w') w := by
  apply S10_ok
  unfold S10
  have kn : ∀ {w1}, Grow w w1 → callK Try.prog 35 [] (fun v w' => v = .bool true ∧ Grow w w') w1 := fun hg => callK_mono known16_ok fun v w' ⟨e, h⟩ => ⟨e, hg.trans h⟩
  refine callK_mono (tamex_ok hk h (by omega)) ?_
  rintro v1 w1 ⟨rfl, g1⟩
  rw [notK_i]
  refine condK_neg (fun ht => ?_) fun ht => kn g1
  have hf := ht.form1
  have hl := ht.len
  refine callK_mono (of_dops (RDops.grow h g1) (by omega)) ?_
  rintro v2 w2 ⟨o2, g2⟩
  have g02 := g1.trans g2
  have hgap := norm_gaps x hf hl
  have hlast := norm_last x hf hl
  have htw := norm_twice x hf hl
  have hmn : mDops (normB x) ≤ 8388608 := by
    have h1 := runS_m x
    have h2 := gapL_m (runS x).ins (runS x).gone
    have h3 := mDops_sub (l := (runS x).done ++ gapL (runS x).ins (runS x).gone)
    rw [mDops_app] at h3
    unfold normB opsS
    omega
  generalize normB x = y at o2 hgap hlast htw hmn
  have r2 := ODops.reads o2
  obtain ⟨a, c, rfl, hm⟩ := r2.shape
  have hyl := mDops_len y
  rw [lenK_i]
  refine LoopK_i (fun vs w3 => ∃ k : Nat, k ≤ y.length ∧ vs = [.int .i64 k] ∧ w3 = w2) (fun vs _ => y.length - iOf vs 0) ⟨0, Nat.zero_le _, rfl, rfl⟩ ?_
  rintro vs _ ⟨k, hk, rfl, rfl⟩ _
  rename World => w2
  rw [nth_z, List.headD_cons, ltK_i]
  refine condK_p (fun hlt => ?_) fun hge => ?_
  · have hlt' : k < y.length := by omega
    refine JoinK_i (fun vs w3 => w3 = w2) ?_ ?_
    · rintro vs _ rfl _
      rw [addK_i, loop_step (by omega)]
      exact ⟨⟨k + 1, hlt', rfl, rfl⟩, by rw [iOf0, iOf0]; omega⟩
    · rw [gtK_i]
      refine condK_p (fun hpos => ?_) fun _ => rfl
      have hk1 : k - 1 < y.length := by omega
      obtain ⟨p, r, rfl, _, hr, hc, rv, sv, pv, rfl, _⟩ := r2.get hk1
      obtain ⟨_, r', e, _, hr', hc', rv', sv', pv', rfl, _⟩ := r2.get hlt'
      cases e
      have hg := hgap (k - 1) y[k - 1] y[k] (List.getElem?_eq_getElem hk1) (by rw [show k - 1 + 1 = k by omega]; exact List.getElem?_eq_getElem hlt')
      rw [subK_i, wrap64 (by omega) (by omega), show ((k : Int) - 1) = ((k - 1 : Nat) : Int) by omega]
      have second : subK .i64 (.int .i64 k) (.int .i64 1) (fun t41 => ixK 5 (.slice (some p) y.length c) t41 fun t42 => faK 0 t42 fun t43 => ld1K t43 (fun t44 w8 => eqK .u8 t44 (.int .u8 3) fun t45 => condK t45 (ixK 5 (.slice (some p) y.length c) (.int .i64 k) fun t49 => faK 0 t49 fun t50 => ld1K t50 (fun t51 w9 => eqK .u8 t51 (.int .u8 3) fun t52 => condK t52 (Value.bool false = .bool true ∧ Grow w w9) (w9 = w2)) w8) (w8 = w2)) w2) := by
        rw [subK_i, wrap64 (by omega) (by omega), show ((k : Int) - 1) = ((k - 1 : Nat) : Int) by omega]
        refine ixK_n hk1 ?_
        rw [faK_i, Addr.add_add]
        refine ld1K_i (hc 0 _ rfl) ?_
        rw [eqK_i]
        refine condK_p (fun h3 => ?_) fun _ => rfl
        refine ixK_n hlt' ?_
        rw [faK_i, Addr.add_add]
        refine ld1K_i (hc' 0 _ rfl) ?_
        rw [eqK_i]
        exact condK_p (fun h4 => by have := hg h3; omega) fun _ => rfl
      refine ixK_n hk1 ?_
      rw [faK_i, Addr.add_add]
      refine ld1K_i (hc 0 _ rfl) ?_
      rw [eqK_i]
      refine condK_p (fun h3 => ?_) fun _ => second
      refine ixK_n hlt' ?_
      rw [faK_i, Addr.add_add]
      refine ld1K_i (hc' 0 _ rfl) ?_
      rw [neK_i]
      exact condK_neg (fun _ => second) fun h4 => (h4 (hg h3)).elim
  · refine JoinK_i (fun vs w3 => w3 = w2) ?_ ?_
    · rintro vs _ rfl _
      rename World => w2
      refine callK_mono (of_dops r2 (by omega)) ?_
      rintro v3 w3 ⟨o3, g3⟩
      refine callK_mono (same_dops (ODops.reads o3) (RDops.grow r2 g3)) ?_
      rintro v4 w4 ⟨rfl, g4⟩
      rw [decide_eq_true htw, condK_b, if_pos rfl]
      exact kn ((g02.trans g3).trans g4)
    · rw [lenK_i, subK_i, wrap64 (by omega) (by omega), geK_i]
      refine condK_p (fun hge => ?_) fun _ => rfl
      have hip : 0 < y.length := by omega
      have hlt : y.length - 1 < y.length := by omega
      rw [show ((y.length : Int) - 1) = ((y.length - 1 : Nat) : Int) by omega]
      obtain ⟨p, r, rfl, _, hr, hc, rv, sv, pv, rfl, q1, q2, q3⟩ := r2.get hlt
      refine ixK_n hlt ?_
      rw [faK_i, Addr.add_add]
      refine ld1K_i (hc 0 _ rfl) ?_
      rw [eqK_i]
      refine condK_p (fun h1 => ?_) fun _ => rfl
      refine ixK_n hlt ?_
      rw [faK_i, Addr.add_add]
      refine ld1K_i (hc 4 _ rfl) ?_
      obtain ⟨pa, pc, rfl, _⟩ := q3.shape
      rw [lenK_i, eqK_i]
      exact condK_p (fun h2 => (hlast _ (getLast_get hip) ⟨h1, len0.1 h2⟩).elim) fun _ => rfl
end Go.Proofs.Ytmfplfaeibehiaa
