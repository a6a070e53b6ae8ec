/- Contracts: what a maker has made; a delta's normal form; whether it is normal. Conditions: the sizes. -/
import Derived.Test.YtmfplfaeibehiaaON
namespace Go.Proofs.Ytmfplfaeibehiaa
open Go Go.K

theorem mDops_app (l m : List Dop) : mDops (l ++ m) = mDops l + mDops m := by simp [mDops]
theorem mDops_one (o : Dop) : mDops [o] = mDop o := by simp [mDops]
theorem gapL_m (ins : List Dop) (g : Int) : mDops (gapL ins g) ≤ mDops ins + 1 := by
  unfold gapL; split
  · rw [mDops_app, mDops_one]; simp [mDop, mSet, mPat]
  · omega
theorem putS_m (d : List Dop) (n : Int) (p : List Chg) : mDops (putS d n p) ≤ mDops d + 1 + mPat p := by
  rcases snoc_cases d with rfl | ⟨i, b, rfl⟩
  · simp [putS, mDops, mDop, mSet]
  · unfold putS
    rw [List.getLast?_append, List.getLast?_singleton, Option.some_or]
    simp only
    split
    · rw [set_last]
      simp only [mDops_app, mDops_one, mDop]; omega
    · simp only [mDops_app, mDops_one, mDop, mSet, List.length_nil, List.map_nil, List.sum_nil]; omega
theorem addI_m (d : List Dop) (rs : List Int) (set : List Attr) : mDops (addI d rs set) ≤ mDops d + 1 + rs.length + mSet set := by
  rcases snoc_cases d with rfl | ⟨i, b, rfl⟩
  · simp [addI, mDops, mDop, mPat]
  · unfold addI
    rw [List.getLast?_append, List.getLast?_singleton, Option.some_or]
    simp only
    split
    · rw [set_last]
      simp only [mDops_app, mDops_one, mDop, List.length_append]; omega
    · simp only [mDops_app, mDops_one, mDop, mPat, List.map_nil, List.sum_nil]; omega
theorem stepS_m (s : MkS) (o : Dop) : mDops (stepS s o).done + mDops (stepS s o).ins ≤ mDops s.done + mDops s.ins + 2 * mDop o := by
  have h0 : 1 ≤ mDop o := by simp [mDop]; omega
  unfold stepS
  split
  · unfold retS
    split
    · omega
    · have h1 := putS_m (s.done ++ gapL s.ins s.gone) o.n o.patch
      have h2 := gapL_m s.ins s.gone
      rw [mDops_app] at h1
      simp only [mDop] at h0 ⊢
      simp only [mDops, List.map_nil, List.sum_nil] at h1 h2 ⊢
      omega
  · split
    · unfold insS
      split
      · omega
      · have h1 := addI_m s.ins o.runes o.set
        simp only [mDop] at h0 ⊢
        omega
    · simp only [delS]; omega
theorem runS_m (x : List Dop) : mDops (runS x).done + mDops (runS x).ins ≤ 2 * mDops x := by
  induction x using rev_ind with
  | h0 => exact Nat.zero_le _
  | h1 x o ih =>
    have e : runS (x ++ [o]) = stepS (runS x) o := by simp [runS]
    rw [e, mDops_app, mDops_one]
    have := stepS_m (runS x) o
    omega
theorem mDops_sub {l : List Dop} : mDops (trimL l) ≤ mDops l := by
  unfold trimL
  split
  · split
    · rw [List.dropLast_eq_take]; exact mDops_le _ _
    · exact Nat.le_refl _
  · exact Nat.le_refl _
/-- Ops -/
theorem ops_ok {F : Nat → Prop} {w : World} {b : Nat} {s : MkS} (h : MkI F w b s) (hb : mDops s.done + mDops s.ins ≤ 274877906944) :
    callK Try.prog 43 [.pointer (some ⟨b, 0, none⟩)] (fun v' w' => ODops w.heap.size w' v' (opsS s) ∧ Grow w w') w := by
  apply S43_ok
  unfold S43
  obtain ⟨dv, iv, C, hot, h⟩ := h
  have hdl := mDops_len s.done
  have hil := mDops_len s.ins
  have hgm := gapL_m s.ins s.gone
  have hgl := mDops_len (gapL s.ins s.gone)
  rw [pnilK_i]
  simp only [Option.isNone_some]
  rw [condK_b, if_neg (by simp)]
  have gd : Grow w w.drew := Mod.drew _ _
  have h' := h.grow gd
  have zd : w.drew.heap.size = w.heap.size := rfl
  rw [← zd]
  have fin : ∀ {W' : World}, Grow w.drew W' → Grow w W' := fun g => gd.trans g
  generalize w.drew = w1 at gd h' zd fin ⊢
  refine drawC_i (fun _ _ => False) ?_
  rw [nilckK_i, faK_i, addr0]
  refine sld1_i ⟨h'.c0, fun j hj e => e⟩ ?_
  refine callK_mono (gap_ok h' (by omega)) ?_
  rintro v2 w2 ⟨o2, g2⟩
  refine ⟨g2, ?_⟩
  obtain ⟨a1, c1, hv1, hm1, _⟩ := OwnR.shape h'.done
  obtain ⟨a2, c2, hv2, hm2, _⟩ := OwnR.shape o2
  refine rowK_i (cs := [dv, v2]) (by subst hv1; subst hv2; kernel_rfl) ?_
  have g3 : Grow w2 (w2.alloc (.cells [dv, v2].toArray 50)) := Mod.alloc _ _ _
  have hc3 : ∀ j v, [dv, v2][j]? = some v → (w2.alloc (.cells [dv, v2].toArray 50)).cell? ((⟨w2.heap.size, 0, none⟩ : Addr).add j) = some v := fun j v hv => cell_box hv
  generalize w2.alloc (.cells [dv, v2].toArray 50) = w3 at g3 hc3 ⊢
  refine ⟨g3, ?_⟩
  have g13 := g2.trans g3
  have z3 := g13.size
  have rd : RDops (fun _ => True) (fun x => C x) w3 dv s.done := SlR.sub (OwnR.sl (h'.grow g13).done) (fun _ _ _ => trivial) (by decide) fun _ _ h => h
  have rg : RDops (fun _ => True) (fun x => (C x ∨ hot = some x) ∧ x < w1.heap.size) w3 v2 (gapL s.ins s.gone) := by
    have := OwnR.mod (R' := RDop fun x => (C x ∨ hot = some x) ∧ x < w1.heap.size) o2 g3 (fun _ _ h => h) fun r y _ hy => hy.mod g3 (fun _ _ _ h => h) fun _ _ h => h
    exact SlR.sub (OwnR.sl this) (fun _ _ _ => trivial) (by decide) fun _ _ h => h
  refine callK_mono (concat_dops rd rg (by rw [← addr0 w2.heap.size 0]; exact hc3 0 _ rfl) (hc3 1 _ rfl) (by omega)) ?_
  rintro v4 w4 ⟨o4, g4⟩
  refine ⟨g4, ?_⟩
  have g14 := g13.trans g4
  have z14 := g14.size
  have hlm : mDops (s.done ++ gapL s.ins s.gone) ≤ 549755813888 := by rw [mDops_app]; omega
  have hop : opsS s = trimL (s.done ++ gapL s.ins s.gone) := rfl
  rw [hop]
  generalize s.done ++ gapL s.ins s.gone = L at o4 hlm ⊢
  have hLl := mDops_len L
  have r4 := OwnR.sl o4
  obtain ⟨va, vc, rfl, _, _, _⟩ := OwnR.shape o4
  refine JoinK_i (fun vs w5 => ∃ v, vs = [v] ∧ Grow w1 w5 ∧ RDops (fun _ => True) (fun _ => True) w5 v (trimL L)) ?_ ?_
  · rintro vs w5 ⟨v, rfl, g5, h5⟩ _
    rw [nth_z, List.headD_cons]
    refine callK_mono (copy_dops h5 (by have := mDops_sub (l := L); omega)) ?_
    rintro v6 w6 ⟨o6, g6⟩
    have := g5.size
    refine ⟨?_, fin (g5.trans g6)⟩
    refine OwnR.mod (OwnR.base o6 fun g hg => by have := (OwnR.ownB o6 g hg).1; omega) (Mod.refl (fun _ => False) _) (fun _ _ h => h) fun r x _ hx => hx.mod (Mod.refl (fun _ => False) _) (fun _ _ _ h => h) fun y _ hy => ⟨by omega, hy.2⟩
  · have rT : RDops (fun _ => True) (fun _ => True) w4 (.slice va L.length vc) L := SlR.sub r4 (fun _ _ _ => trivial) (by decide) fun r x hx => hx.mod (Mod.refl (fun _ => False) _) (fun _ _ _ h => h) fun _ _ _ => trivial
    rw [lenK_i, subK_i, wrap64 (by omega) (by omega), geK_i]
    refine condK_p (fun hge => ?_) fun hge => ?_
    · have hip : 0 < L.length := by omega
      have hlt : L.length - 1 < L.length := by omega
      rw [show ((L.length : Int) - 1) = ((L.length - 1 : Nat) : Int) by omega]
      obtain ⟨q, r, rfl, _, hr, hc, rv, sv', pv', rfl, q1, q2, q3⟩ := rT.get hlt
      refine ixK_n hlt ?_
      rw [faK_i, Addr.add_add]
      refine ld1K_i (hc 0 _ rfl) ?_
      rw [eqK_i]
      refine condK_p (fun hk => ?_) fun hk => ⟨_, rfl, g14, by rw [trimL, getLast_get hip]; simp only; rw [if_neg (fun h => hk h.1)]; exact rT⟩
      refine ixK_n hlt ?_
      rw [faK_i, Addr.add_add]
      refine ld1K_i (hc 4 _ rfl) ?_
      obtain ⟨pa, pc, rfl, _⟩ := q3.shape
      rw [lenK_i, eqK_i]
      refine condK_p (fun hp => ?_) fun hp => ⟨_, rfl, g14, by rw [trimL, getLast_get hip]; simp only; rw [if_neg (fun h => hp (len0.2 h.2))]; exact rT⟩
      refine slice_hi (e := 59) (i := Try.t59) (by kernel_rfl) (by kernel_rfl) (by kernel_rfl) rT (Nat.sub_le _ _) fun v' hv' => ?_
      refine ⟨v', rfl, g14, ?_⟩
      rw [trimL, getLast_get hip]
      simp only
      rw [if_pos ⟨hk, len0.1 hp⟩, List.dropLast_eq_take]
      exact hv'
    · have : L = [] := List.eq_nil_of_length_eq_zero (by omega)
      subst this
      exact ⟨_, rfl, g14, rT⟩
/-- Of -/
theorem of_dops {S D : Nat → Prop} {v : Value} {x : List Dop} {w : World} (h : RDops S D w v x) (hb : mDops x ≤ 68719476736) :
    callK Try.prog 32 [v] (fun v' w' => ODops w.heap.size w' v' (normB x) ∧ Grow w w') w := by
  apply S32_ok
  unfold S32
  have hxl := mDops_len x
  refine callK_mono new_ok ?_
  rintro v1 w1 ⟨g1, b, hb1, hb2, rfl, hI1⟩
  have ho := h.old
  obtain ⟨a, c, rfl, hm⟩ := h.shape
  rw [lenK_i]
  refine LoopK_i (fun vs w2 => ∃ k : Nat, k ≤ x.length ∧ vs = [.int .i64 k] ∧ Grow w w2 ∧ MkI (fun y => w.heap.size ≤ y) w2 b (runS (x.take k))) (fun vs _ => x.length - iOf vs 0) ⟨0, Nat.zero_le _, rfl, g1, hI1.sub fun y hy => by rw [hy]; exact hb1⟩ ?_
  rintro vs w2 ⟨k, hk, rfl, g2, hI⟩ _
  rw [nth_z, List.headD_cons, ltK_i]
  have hmk := runS_m (x.take k)
  have hmk2 := mDops_le x k
  refine condK_p (fun hlt => ?_) fun hge => ?_
  · have hlt' : k < x.length := by omega
    have hmem : x[k] ∈ x := by simp
    have hmo := mDops_mem hmem
    obtain ⟨p, r, rfl, _, hr, hc, hop⟩ := (RDops.grow ho g2).get hlt'
    refine ixK_n hlt' (ldnK_i hr (fun j u hu => by rw [Addr.add_add]; exact hc j u hu) ?_)
    refine newst_n (vs := r) hr rfl hop.one fun bb w3 hbb hz3 g3 hc3 _ => ?_
    have g23 := g2.trans g3
    have hI3 : MkI (fun y => w.heap.size ≤ y) w3 b (runS (x.take k)) := hI.mod g3 fun _ _ h => h
    obtain ⟨rv, sv, pv, rfl, q1, q2, q3⟩ := hop.mod (D' := fun b => D b ∧ b < w.heap.size) g3 (fun _ _ _ h => h) fun _ _ h => h
    have estep : runS (x.take (k + 1)) = stepS (runS (x.take k)) x[k] := by
      rw [List.take_add_one, List.getElem?_eq_getElem hlt']; simp only [runS, Option.toList, List.foldl_append, List.foldl_cons, List.foldl_nil]
    have next : ∀ w4, MkI (fun y => w.heap.size ≤ y) w4 b (runS (x.take (k + 1))) → Mod (fun y => w.heap.size ≤ y) w3 w4 → (∃ k' : Nat, k' ≤ x.length ∧ [Value.int .i64 ((k + 1 : Nat) : Int)] = [.int .i64 k'] ∧ Grow w w4 ∧ MkI (fun y => w.heap.size ≤ y) w4 b (runS (x.take k'))) ∧ x.length - iOf [Value.int .i64 ((k + 1 : Nat) : Int)] 0 < x.length - iOf [Value.int .i64 k] 0 :=
      fun w4 h4 m4 => ⟨⟨k + 1, hlt', rfl, g23.next m4 fun y hy e => by omega, h4⟩, by rw [iOf0, iOf0]; omega⟩
    have wsz := g23.size
    have hdl := mDops_len (runS (x.take k)).done
    have hil := mDops_len (runS (x.take k)).ins
    simp only [mDop] at hmo
    have hps : x[k].patch.length ≤ mPat x[k].patch := by rw [mPat_eq]; omega
    have hss : x[k].set.length ≤ mSet x[k].set := by rw [mSet_eq]; omega
    simp only [faK_i]
    refine ld1K_i (hc3 0 _ rfl) ?_
    rw [eqK_i]
    refine condK_p (fun k1 => ?_) fun k1 => ?_
    · refine ld1K_i (hc3 1 _ rfl) (ld1K_i (hc3 4 _ rfl) ?_)
      refine callK_mono (retain_ok hI3 q3 (fun y hy hf => by have := hy.2; omega) (by omega) (by omega)) ?_
      rintro v4 w4 ⟨h4, m4⟩
      rw [addK_i, loop_step (by omega)]
      refine next w4 ?_ m4
      rw [estep, stepS, if_pos k1]
      exact h4.sub fun y hy => by rcases hy with hy | hy; exact hy; omega
    · rw [eqK_i]
      refine condK_p (fun k2 => ?_) fun k2 => ?_
      · refine ld1K_i (hc3 2 _ rfl) (ld1K_i (hc3 3 _ rfl) ?_)
        refine callK_mono (insert_ok hI3 q1 q2 (fun y hy hf => by have := hy.2; omega) (by omega) (fun o ho => by have := mDops_mem ho; simp only [mDop] at this; omega) (by omega) (by omega)) ?_
        rintro v4 w4 ⟨h4, m4⟩
        rw [addK_i, loop_step (by omega)]
        refine next w4 ?_ m4
        rw [estep, stepS, if_neg k1, if_pos k2]
        exact h4.sub fun y hy => by rcases hy with hy | hy; exact hy; omega
      · refine ld1K_i (hc3 1 _ rfl) ?_
        refine callK_mono (delete_ok hI3) ?_
        rintro v4 w4 ⟨h4, m4⟩
        rw [addK_i, loop_step (by omega)]
        refine next w4 ?_ m4
        rw [estep, stepS, if_neg k1, if_neg k2]
        exact h4
  · have : k = x.length := by omega
    subst this
    rw [List.take_length] at hI hmk
    refine callK_mono (ops_ok hI (by omega)) ?_
    rintro v3 w3 ⟨o3, g3⟩
    have := g2.size
    refine ⟨?_, g2.trans g3⟩
    exact OwnR.mod (OwnR.base o3 fun g hg => by have := (OwnR.ownB o3 g hg).1; omega) (Mod.refl (fun _ => False) _) (fun _ _ h => h) fun r x _ hx => hx.mod (Mod.refl (fun _ => False) _) (fun _ _ _ h => h) fun y _ hy => ⟨by omega, hy.2⟩
theorem is_dops {S D : Nat → Prop} {v : Value} {x : List Dop} {w : World} (h : RDops S D w v x) (hb : mDops x ≤ 68719476736) :
    callK Try.prog 34 [v] (fun v' w' => v' = .bool (decide (normB x = x)) ∧ Grow w w') w := by
  apply S34_ok
  unfold S34
  refine callK_mono (of_dops h hb) ?_
  rintro v1 w1 ⟨o1, g1⟩
  refine callK_mono (same_dops (ODops.reads o1) (RDops.grow h g1)) ?_
  rintro v2 w2 ⟨rfl, g2⟩
  exact ⟨rfl, g1.trans g2⟩
end Go.Proofs.Ytmfplfaeibehiaa
