/- Contracts: deltas that may be; what is tame; whether deltas are alike. Conditions: the sizes. -/
import Derived.Test.YtmfplfaeibehiaaOH
import Derived.Test.YtmfplfaeibehiaaNB
namespace Go.Proofs.Ytmfplfaeibehiaa
open Go Go.K

def OpsBad (keys : List DKey) (x : List Dop) : Prop := (∃ o ∈ x, ¬ FormO o ∨ maySet keys o.set = 3 ∨ mayPat keys o.patch = 3) ∨ 536870912 < sumW takesF x ∨ 536870912 < sumW makesF x
def OpsNoKey (keys : List DKey) (x : List Dop) : Prop := ∃ o ∈ x, maySet keys o.set ≠ 0 ∨ mayPat keys o.patch ≠ 0
open Classical in
noncomputable def mayOps (keys : List DKey) (x : List Dop) : Int := if OpsBad keys x then 3 else if OpsNoKey keys x then 4 else 0
open Classical in
theorem mayops_ok {S S' D : Nat → Prop} {kv v : Value} {keys : List DKey} {x : List Dop} {w : World} (hk : RKeys S w kv keys) (h : RDops S' D w v x) (hb : mDops x ≤ 1099511627776) :
    callK Try.prog 57 [kv, v] (fun v' w' => v' = .int .i64 (mayOps keys x) ∧ Grow w w') w := by
  apply S57_ok
  unfold S57
  obtain ⟨a, c, rfl, hm⟩ := h.shape
  simp only [maxLen] at hm
  have hss : ∀ o ∈ x, (∀ a ∈ o.set, a.val.s.size * 4 ≤ 140737488355328) ∧ (∀ a ∈ o.patch, a.val.s.size * 4 ≤ 140737488355328) := by
    intro o ho
    have := mDops_mem ho
    simp only [mDop] at this
    exact ⟨fun a ha => by have := mSet_mem ha; omega, fun a ha => by have := mPat_mem ha; omega⟩
  have bad : ∀ w', Grow w w' → OpsBad keys x → Value.int .i64 3 = .int .i64 (mayOps keys x) ∧ Grow w w' := fun w' g hb => ⟨by rw [mayOps, if_pos hb], g⟩
  refine LoopK_i (fun vs w1 => ∃ k : Nat, k ≤ x.length ∧ vs = [.int .i64 k] ∧ Grow w w1 ∧ ∀ o ∈ x.take k, FormO o ∧ maySet keys o.set ≠ 3 ∧ mayPat keys o.patch ≠ 3) (fun vs _ => x.length - iOf vs 0) ⟨0, Nat.zero_le _, rfl, Mod.refl _ _, by simp⟩ ?_
  rintro vs w1 ⟨k, hkl, rfl, g1, hall⟩ _
  rw [lenK_i, nth_z, List.headD_cons, ltK_i]
  refine condK_p (fun hlt => ?_) fun hge => ?_
  · have hlt' : k < x.length := by omega
    refine JoinK_i (fun vs w2 => Grow w w2 ∧ FormO x[k] ∧ maySet keys x[k].set ≠ 3 ∧ mayPat keys x[k].patch ≠ 3) ?_ ?_
    · rintro vs w2 ⟨g2, ho⟩ _
      rw [addK_i, loop_step (by omega)]
      refine ⟨⟨k + 1, hlt', rfl, g2, fun o hoo => ?_⟩, by rw [iOf0, iOf0]; omega⟩
      rw [List.take_add_one, List.getElem?_eq_getElem hlt'] at hoo
      rcases List.mem_append.1 hoo with hoo | hoo
      · exact hall o hoo
      · simp at hoo; subst hoo; exact ho
    · obtain ⟨p, r, rfl, _, hr, hc, ho⟩ := (RDops.grow h g1).get hlt'
      have hmem : x[k] ∈ x := by simp
      refine ixK_n hlt' (ldnK_i hr (fun j u hu => by rw [Addr.add_add]; exact hc j u hu) ?_)
      refine callK_mono (form_ok ho) ?_
      rintro v2 w2 ⟨rfl, g2⟩
      have g02 := g1.trans g2
      rw [notK_i]
      refine condK_neg (fun hf => ?_) fun hf => bad _ g02 (.inl ⟨_, hmem, .inl hf⟩)
      obtain ⟨rv, sv, pv, rfl, h1, h2, h3⟩ := ho.mod (D' := D) g2 (fun _ _ _ h => h) fun _ _ h => h
      refine ixK_n hlt' ?_
      rw [faK_i, Addr.add_add]
      refine ld1K_i (g2.cell (hc 3 _ rfl) fun h => h) ?_
      refine callK_mono (mayset_ok (hk.grow g02 (by decide) fun _ _ h => h) h2 (hss _ hmem).1) ?_
      rintro v3 w3 ⟨rfl, g3⟩
      rw [eqK_i]
      refine condK_p (fun hs => bad _ (g02.trans g3) (.inl ⟨_, hmem, .inr (.inl hs)⟩)) fun hs => ?_
      refine ixK_n hlt' ?_
      rw [faK_i, Addr.add_add]
      refine ld1K_i ((g2.trans g3).cell (hc 4 _ rfl) fun h => h) ?_
      refine callK_mono (maypat_ok (hk.grow (g02.trans g3) (by decide) fun _ _ h => h) (h3.grow g3 (by decide) fun _ _ h => h) (hss _ hmem).2) ?_
      rintro v4 w4 ⟨rfl, g4⟩
      rw [eqK_i]
      exact condK_p (fun hs => bad _ ((g02.trans g3).trans g4) (.inl ⟨_, hmem, .inr (.inr hs)⟩)) fun hp => ⟨(g02.trans g3).trans g4, hf, hs, hp⟩
  · have : k = x.length := by omega
    subst this
    rw [List.take_length] at hall
    refine JoinK_i (fun vs w2 => Grow w w2 ∧ ¬ OpsBad keys x) ?_ ?_
    · rintro vs w2 ⟨g2, ok⟩ _
      refine LoopK_i (fun vs w3 => ∃ k : Nat, k ≤ x.length ∧ vs = [.int .i64 k] ∧ Grow w w3 ∧ ∀ o ∈ x.take k, maySet keys o.set = 0 ∧ mayPat keys o.patch = 0) (fun vs _ => x.length - iOf vs 0) ⟨0, Nat.zero_le _, rfl, g2, by simp⟩ ?_
      rintro vs w3 ⟨k, hkl, rfl, g3, hz⟩ _
      rw [lenK_i, nth_z, List.headD_cons, ltK_i]
      refine condK_p (fun hlt => ?_) fun hge => ?_
      · have hlt' : k < x.length := by omega
        have hmem : x[k] ∈ x := by simp
        have four : ∀ w', Grow w w' → (maySet keys x[k].set ≠ 0 ∨ mayPat keys x[k].patch ≠ 0) → Value.int .i64 4 = .int .i64 (mayOps keys x) ∧ Grow w w' := fun w' g hb => ⟨by rw [mayOps, if_neg ok, if_pos ⟨_, hmem, hb⟩], g⟩
        obtain ⟨p, r, rfl, _, hr, hc, rv, sv, pv, rfl, h1, h2, h3⟩ := (RDops.grow h g3).get hlt'
        refine ixK_n hlt' ?_
        rw [faK_i, Addr.add_add]
        refine ld1K_i (hc 3 _ rfl) ?_
        refine callK_mono (mayset_ok (hk.grow g3 (by decide) fun _ _ h => h) h2 (hss _ hmem).1) ?_
        rintro v4 w4 ⟨rfl, g4⟩
        rw [neK_i]
        refine condK_neg (fun hs => ?_) fun hs => four _ (g3.trans g4) (.inl hs)
        refine ixK_n hlt' ?_
        rw [faK_i, Addr.add_add]
        refine ld1K_i (g4.cell (hc 4 _ rfl) fun h => h) ?_
        refine callK_mono (maypat_ok (hk.grow (g3.trans g4) (by decide) fun _ _ h => h) (h3.grow g4 (by decide) fun _ _ h => h) (hss _ hmem).2) ?_
        rintro v5 w5 ⟨rfl, g5⟩
        rw [neK_i]
        refine condK_neg (fun hp => ?_) fun hp => four _ ((g3.trans g4).trans g5) (.inr hp)
        rw [addK_i, loop_step (by omega)]
        refine ⟨⟨k + 1, hlt', rfl, (g3.trans g4).trans g5, fun o hoo => ?_⟩, by rw [iOf0, iOf0]; omega⟩
        rw [List.take_add_one, List.getElem?_eq_getElem hlt'] at hoo
        rcases List.mem_append.1 hoo with hoo | hoo
        · exact hz o hoo
        · simp at hoo; subst hoo; exact ⟨hs, hp⟩
      · have : k = x.length := by omega
        subst this
        rw [List.take_length] at hz
        refine ⟨?_, g3⟩
        rw [mayOps, if_neg ok, if_neg]
        rintro ⟨o, ho, h | h⟩
        · exact h (hz o ho).1
        · exact h (hz o ho).2
    · refine callK_mono (takes_ok (RDops.grow h g1)) ?_
      rintro v2 w2 ⟨rfl, g2⟩
      rw [gtK_i]
      refine condK_p (fun ht => bad _ (g1.trans g2) (.inr (.inl ht))) fun ht => ?_
      refine callK_mono (makes_ok (RDops.grow h (g1.trans g2))) ?_
      rintro v3 w3 ⟨rfl, g3⟩
      rw [gtK_i]
      refine condK_p (fun hm => bad _ ((g1.trans g2).trans g3) (.inr (.inr hm))) fun hm => ⟨(g1.trans g2).trans g3, ?_⟩
      rintro (⟨o, ho, h⟩ | h | h)
      · obtain ⟨q1, q2, q3⟩ := hall o ho
        rcases h with h | h | h
        · exact h q1
        · exact q2 h
        · exact q3 h
      · exact ht h
      · exact hm h
def TameX (keys : List DKey) (x : List Dop) : Prop := keys.length ≤ 64 ∧ mDops x ≤ 20000 ∧ MayKeys keys ∧ mayOps keys x = 0
open Classical in
theorem tamex_ok {S S' D : Nat → Prop} {kv v : Value} {keys : List DKey} {x : List Dop} {w : World} (hk : RKeys S w kv keys) (h : RDops S' D w v x) (hb : mDops x ≤ 1099511627776) :
    callK Try.prog 30 [kv, v] (fun v' w' => v' = .bool (decide (TameX keys x)) ∧ Grow w w') w := by
  apply S30_ok
  unfold S30
  have no : ∀ w', Grow w w' → ¬ TameX keys x → Value.bool false = .bool (decide (TameX keys x)) ∧ Grow w w' := fun w' g hn => ⟨by rw [decide_eq_false hn], g⟩
  refine JoinK_i (fun vs w1 => Grow w w1 ∧ keys.length ≤ 64 ∧ mDops x ≤ 20000) ?_ ?_
  · rintro vs w1 ⟨g1, h64, hz⟩ _
    refine callK_mono (rmay_ok (hk.grow g1 (by decide) fun _ _ h => h)) ?_
    rintro v2 w2 ⟨rfl, g2⟩
    refine condK_p (fun hmk => ?_) fun hmk => no _ (g1.trans g2) fun h => hmk h.2.2.1
    refine callK_mono (mayops_ok (hk.grow (g1.trans g2) (by decide) fun _ _ h => h) (RDops.grow h (g1.trans g2)) hb) ?_
    rintro v3 w3 ⟨rfl, g3⟩
    rw [eqK_i]
    refine ⟨?_, (g1.trans g2).trans g3⟩
    congr 1
    rw [decide_eq_decide]
    exact ⟨fun h => ⟨h64, hz, hmk, h⟩, fun h => h.2.2.2⟩
  · obtain ⟨pa, pc, rfl, _⟩ := hk.shape
    rw [lenK_i, gtK_i]
    refine condK_p (fun h6 => no _ (Mod.refl _ _) fun h => by have := h.1; omega) fun h6 => ?_
    refine callK_mono (size_ok h hb) ?_
    rintro v2 w2 ⟨rfl, g2⟩
    rw [gtK_i]
    exact condK_p (fun h7 => no _ g2 fun h => by have := h.2.1; omega) fun h7 => ⟨g2, by omega, by omega⟩
theorem TameX.forms {keys : List DKey} {x : List Dop} (h : TameX keys x) : ∀ o ∈ x, FormO o := by
  intro o ho
  have := h.2.2.2
  unfold mayOps at this
  split at this
  · cases this
  · rename_i hb
    cases Classical.em (FormO o) with
    | inl h => exact h
    | inr h => exact (hb (.inl ⟨o, ho, .inl h⟩)).elim
theorem FormO.f1 {o : Dop} (h : FormO o) : Form1 o := by
  rcases h.form1 with h | h | h
  · exact .inl h
  · exact .inr (.inl h)
  · exact .inr (.inr h)
theorem TameX.form1 {keys : List DKey} {x : List Dop} (h : TameX keys x) : ∀ o ∈ x, Form1 o := fun o ho => (h.forms o ho).f1

/-! ### ops.Same -/
theorem same1_ok {D D' : Nat → Prop} {r r' : List Value} {a b : Dop} {w : World} (ha : RDop D w r a) (hb : RDop D' w r' b) :
    callK Try.prog 69 [.agg r.toArray, .agg r'.toArray] (fun v w' => v = .bool (decide (a = b)) ∧ Grow w w') w := by
  apply S69_ok
  unfold S69
  have no : ∀ w', Grow w w' → a ≠ b → Value.bool false = .bool (decide (a = b)) ∧ Grow w w' := fun w' g hn => ⟨by rw [decide_eq_false hn], g⟩
  obtain ⟨rv, sv, pv, rfl, h1, h2, h3⟩ := ha
  obtain ⟨rv', sv', pv', rfl, h1', h2', h3'⟩ := hb
  refine boxn_i fun b1 w1 _ _ g1 hc1 _ => boxn_i fun b2 w2 _ _ g2 hc2 _ => ?_
  have g02 := g1.trans g2
  have A : ∀ {W}, Grow w2 W → ∀ j u, [Value.int .u8 a.kind, .int .i64 a.n, rv, sv, pv][j]? = some u → W.cell? ((⟨b1, 0, none⟩ : Addr).add j) = some u := fun hW j u hu => (g2.trans hW).cell (hc1 j u hu) fun h => h
  have B : ∀ {W}, Grow w2 W → ∀ j u, [Value.int .u8 b.kind, .int .i64 b.n, rv', sv', pv'][j]? = some u → W.cell? ((⟨b2, 0, none⟩ : Addr).add j) = some u := fun hW j u hu => hW.cell (hc2 j u hu) fun h => h
  simp only [faK_i]
  refine ld1K_i (A (Mod.refl _ _) 0 _ rfl) (ld1K_i (B (Mod.refl _ _) 0 _ rfl) ?_)
  rw [eqK_i]
  refine condK_p (fun e0 => ?_) fun e0 => no _ g02 fun e => e0 (by rw [e])
  refine ld1K_i (A (Mod.refl _ _) 1 _ rfl) (ld1K_i (B (Mod.refl _ _) 1 _ rfl) ?_)
  rw [eqK_i]
  refine condK_p (fun e1 => ?_) fun e1 => no _ g02 fun e => e1 (by rw [e])
  refine ld1K_i (A (Mod.refl _ _) 2 _ rfl) (ld1K_i (B (Mod.refl _ _) 2 _ rfl) ?_)
  refine callK_mono (eq_run (h1.grow g02 (by decide) fun _ _ h => h) (h1'.grow g02 (by decide) fun _ _ h => h)) ?_
  rintro v3 w3 ⟨rfl, g3⟩
  refine condK_p (fun e2 => ?_) fun e2 => no _ (g02.trans g3) fun e => e2 (by rw [e])
  refine ld1K_i (A g3 3 _ rfl) (ld1K_i (B g3 3 _ rfl) ?_)
  refine callK_mono (same_set (h2.grow (g02.trans g3) (by decide) fun _ _ h => h) (h2'.grow (g02.trans g3) (by decide) fun _ _ h => h)) ?_
  rintro v4 w4 ⟨rfl, g4⟩
  have g04 := (g02.trans g3).trans g4
  refine condK_p (fun e3 => ?_) fun e3 => no _ g04 fun e => e3 (by rw [e])
  refine ld1K_i (A (g3.trans g4) 4 _ rfl) (ld1K_i (B (g3.trans g4) 4 _ rfl) ?_)
  refine callK_mono (same_pat (h3.grow g04 (by decide) fun _ _ h => h) (h3'.grow g04 (by decide) fun _ _ h => h)) ?_
  rintro v5 w5 ⟨rfl, g5⟩
  refine ⟨?_, g04.trans g5⟩
  congr 1
  rw [decide_eq_decide]
  constructor
  · intro e4; cases a; cases b; simp only at e0 e1 e2 e3 e4; subst e0; subst e1; subst e2; subst e3; subst e4; rfl
  · intro e; rw [e]
theorem same_dops {S S' D D' : Nat → Prop} {a b : Value} {l m : List Dop} {w : World} (ha : RDops S D w a l) (hb : RDops S' D' w b m) :
    callK Try.prog 44 [a, b] (fun v w' => v = .bool (decide (l = m)) ∧ Grow w w') w := by
  apply S44_ok
  unfold S44
  apply S68_ok
  unfold S68
  have ha0 := ha
  have hb0 := hb
  obtain ⟨pa, ca, rfl, hla⟩ := ha.shape
  obtain ⟨pb, cb, rfl, hlb⟩ := hb.shape
  simp only [maxLen] at hla hlb
  have no : ∀ w', Grow w w' → l ≠ m → Value.bool false = .bool (decide (l = m)) ∧ Grow w w' := fun w' g hn => ⟨by rw [decide_eq_false hn], g⟩
  rw [lenK_i, lenK_i, neK_i]
  refine condK_neg (fun hlen => ?_) fun hlen => no _ (Mod.refl _ _) fun e => hlen (by rw [e])
  rw [lenK_i]
  refine LoopK_i (fun vs w1 => ∃ k : Nat, k ≤ l.length ∧ vs = [.int .i64 k] ∧ Grow w w1 ∧ l.take k = m.take k) (fun vs _ => l.length - iOf vs 0) ⟨0, Nat.zero_le _, rfl, Mod.refl _ _, rfl⟩ ?_
  rintro vs w1 ⟨k, hk, rfl, hg, ht⟩ _
  rw [nth_z, List.headD_cons, ltK_i]
  refine condK_p (fun hlt => ?_) fun hge => ?_
  · have hlt' : k < l.length := by omega
    have hlm' : k < m.length := by omega
    obtain ⟨p, r, rfl, _, hr, hc, ho⟩ := (RDops.grow ha hg).get hlt'
    obtain ⟨p', r', rfl, _, hr', hc', ho'⟩ := (RDops.grow hb hg).get hlm'
    refine ixK_n hlt' (ldnK_i hr (fun j u hu => by rw [Addr.add_add]; exact hc j u hu) ?_)
    refine newst_n (vs := r) hr rfl ho.one fun b1 w2 hb1 hz1 g2 hc2 _ => ?_
    refine ixK_n hlm' (ldnK_i hr' (fun j u hu => by rw [Addr.add_add]; exact g2.cell (hc' j u hu) fun h => h) ?_)
    refine newst_n (vs := r') hr' rfl ho'.one fun b2 w3 hb2 hz2 g3 hc3 _ => ?_
    refine ldnK_i hr (fun j u hu => g3.cell (hc2 j u hu) fun h => h) ?_
    refine ldnK_i hr' hc3 ?_
    have g03 : Grow w1 w3 := g2.trans g3
    refine callyK_f (by kernel_rfl) ?_
    refine callK_mono (same1_ok (ho.mod (D' := D) g03 (fun _ _ _ h => h) fun _ _ h => h) (ho'.mod (D' := D') g03 (fun _ _ _ h => h) fun _ _ h => h)) ?_
    rintro v4 w4 ⟨rfl, g4⟩
    have g14 := g03.trans g4
    rw [notK_i]
    refine condK_neg (fun he => ?_) fun he => no _ (hg.trans g14) fun e => he (by subst e; rfl)
    rw [addK_i, loop_step (by omega)]
    refine ⟨⟨k + 1, hlt', rfl, hg.trans g14, ?_⟩, by rw [iOf0, iOf0]; omega⟩
    rw [List.take_add_one, List.take_add_one, ht, List.getElem?_eq_getElem hlt', List.getElem?_eq_getElem hlm', he]
  · have : k = l.length := by omega
    subst this
    rw [List.take_length, show l.length = m.length by omega, List.take_length] at ht
    exact ⟨by rw [decide_eq_true ht], hg⟩
end Go.Proofs.Ytmfplfaeibehiaa
