/- HistoryMost: for every input of bulk at most 1048576 the law returns true, and each argument reads behind the call as it read before; the two tables tied. Condition: the bulk. -/
import Derived.Test.YtlbaopamhkmepaaGreatDoorZHistoryMostUpto6
import Derived.Test.YtlbaopamhkmepaaGreatDoorRows
import Derived.Lib.LaidU8
import Derived.Lib.LaidIn
import Derived.LaidHandle
import Derived.LaidMore
import Derived.MakeChecks
import Derived.Laws.Cover3
import Derived.Test.YtlbaopamhkmepaaGreatDoorTie
import Derived.Test.YtlbaopamhkmepaaGreatDoorCards
import Derived.WalkKit
import Derived.OpenShut
import Derived.ShutString
import Derived.ChangeOld
import Derived.ChangeVars
import Derived.JoinedOf
import Derived.JoinedCond
import Derived.Deep.DeepHandedRow
import Derived.SevenTiedAt
namespace Go.Proofs.YtlbaopamhkmepaaGreatDoor
open Go Go.K

theorem validr_ok {r : Int} {w : World} : callK Tryz.prog 195 [.int .i32 r] (fun v' w' => v' = .bool (decide (MayR r)) ∧ w' = w) w := by
  apply S195_ok
  unfold S195
  have key : ∀ {b : Bool}, (b = true ↔ MayR r) → Value.bool b = .bool (decide (MayR r)) ∧ w = w := fun h => ⟨by congr 1; rw [Bool.eq_iff_iff, h, decide_eq_true_eq], rfl⟩
  unfold MayR at key ⊢
  rw [leK_i]
  refine condK_p (fun h0 => ?_) fun h0 => ?_
  · rw [ltK_i]
    refine condK_p (fun h1 => key (by simp; omega)) fun h1 => ?_
    rw [ltK_i]
    refine condK_p (fun h2 => ?_) fun h2 => key (by simp; omega)
    rw [leK_i]
    exact condK_p (fun h3 => key (by simp; omega)) fun h3 => key (by simp; omega)
  · rw [ltK_i]
    refine condK_p (fun h2 => ?_) fun h2 => key (by simp; omega)
    rw [leK_i]
    exact condK_p (fun h3 => key (by simp; omega)) fun h3 => key (by simp; omega)
theorem rmayp_ok {r : Int} {w : World} : callK Tryz.prog 159 [.int .i32 r] (fun v' w' => v' = .bool (decide (MayR r)) ∧ w' = w) w := by
  apply S159_ok
  unfold S159
  exact validr_ok
/-- whether one of the runes may not be -/
theorem crunes_ok {S : Nat → Prop} {v : Value} {l : List Int} {w : World} (h : RRun S w v l) :
    callK Tryz.prog 189 [v, .func (.func 190) #[] #[]] (fun v' w' => v' = .bool (!decide (∀ r ∈ l, MayR r)) ∧ w' = w) w := by
  apply S189_ok
  unfold S189
  refine callK_mono (K := fun v' w' => w' = w ∧ ((v' = .int .i64 (-1) ∧ ∀ r ∈ l, MayR r) ∨ ∃ i : Nat, v' = .int .i64 i ∧ ¬ ∀ r ∈ l, MayR r)) ?_ ?_
  · apply S205_ok
    unfold S205
    obtain ⟨a, c, rfl, hm⟩ := h.shape
    simp only [maxLen] at hm
    rw [lenK_i]
    refine LoopK_i (fun vs W => ∃ i : Nat, i ≤ l.length ∧ vs = [.int .i64 i] ∧ W = w ∧ ∀ c ∈ l.take i, MayR c) (fun vs _ => l.length - iOf vs 0) ⟨0, Nat.zero_le _, rfl, rfl, by simp⟩ ?_
    rintro vs _ ⟨i, hi, rfl, rfl, hall⟩ _
    rename World => w
    rw [nth_z, List.headD_cons, ltK_i]
    refine condK_p (fun hlt => ?_) fun hge => ?_
    · have hlt' : i < l.length := by omega
      obtain ⟨q, r, rfl, _, hr, hc, rfl⟩ := h.get hlt'
      refine ixK_n hlt' (ld1K_i (by have := hc 0 _ rfl; exact this) ?_)
      refine callyK_f (by kernel_rfl) ?_
      apply S190_ok
      unfold S190
      refine callK_mono rmayp_ok ?_
      rintro _ _ ⟨rfl, rfl⟩
      rename World => w
      rw [notK_i]
      by_cases hm1 : MayR l[i]
      · rw [decide_eq_true hm1]
        refine condK_f ?_
        rw [addK_i, loop_step (by omega)]
        refine ⟨⟨i + 1, hlt', rfl, rfl, fun c hc => ?_⟩, by rw [iOf0, iOf0]; omega⟩
        rw [List.take_add_one, List.getElem?_eq_getElem hlt'] at hc
        rcases List.mem_append.1 hc with hc | hc
        · exact hall c hc
        · simp at hc; subst hc; exact hm1
      · rw [decide_eq_false hm1]
        exact condK_t ⟨rfl, .inr ⟨i, rfl, fun hall => hm1 (hall _ (List.getElem_mem hlt'))⟩⟩
    · have : i = l.length := by omega
      subst this
      exact ⟨rfl, .inl ⟨rfl, fun c hc => hall c (by rw [List.take_length]; exact hc)⟩⟩
  · rintro _ _ ⟨rfl, ⟨rfl, hall⟩ | ⟨i, rfl, hn⟩⟩
    · rw [geK_i]
      exact ⟨by rw [decide_eq_true hall]; rfl, rfl⟩
    · rw [geK_i]
      exact ⟨by rw [decide_eq_false hn, decide_eq_true (by omega : (i : Int) ≥ 0)]; rfl, rfl⟩
/-- the form of its kind, without the length -/
def FormP (o : Dop) : Prop := (o.kind = 1 ∧ o.runes = [] ∧ o.set = []) ∨ (o.kind = 3 ∧ o.runes = [] ∧ o.set = [] ∧ o.patch = []) ∨ (o.kind = 2 ∧ o.n = 0 ∧ o.patch = [] ∧ ∀ r ∈ o.runes, MayR r)
instance (o : Dop) : Decidable (FormP o) := by unfold FormP; infer_instance
theorem formO_iff (o : Dop) : FormO o ↔ FormP o ∧ 1 ≤ lenO o ∧ lenO o ≤ 536870912 := by
  unfold FormO FormP lenO
  constructor
  · rintro (⟨h1, h2, h3, h4, h5⟩ | ⟨h1, h2, h3, h4, h5, h6⟩ | ⟨h1, h2, h3, h4, h5, h6⟩)
    · exact ⟨.inl ⟨h1, h2, h3⟩, by rw [h1, if_neg (by decide)]; exact h4, by rw [h1, if_neg (by decide)]; exact h5⟩
    · exact ⟨.inr (.inl ⟨h1, h2, h3, h4⟩), by rw [h1, if_neg (by decide)]; exact h5, by rw [h1, if_neg (by decide)]; exact h6⟩
    · exact ⟨.inr (.inr ⟨h1, h3, h4, h2⟩), by rw [if_pos h1]; omega, by rw [if_pos h1]; omega⟩
  · rintro ⟨⟨h1, h2, h3⟩ | ⟨h1, h2, h3, h4⟩ | ⟨h1, h2, h3, h4⟩, h5, h6⟩
    · rw [h1, if_neg (by decide)] at h5 h6; exact .inl ⟨h1, h2, h3, h5, h6⟩
    · rw [h1, if_neg (by decide)] at h5 h6; exact .inr (.inl ⟨h1, h2, h3, h4, h5, h6⟩)
    · rw [if_pos h1] at h5 h6; exact .inr (.inr ⟨h1, h4, h2, h3, by omega, by omega⟩)
theorem formp_ok {D : Nat → Prop} {r : List Value} {o : Dop} {w : World} (h : RDop D w r o) :
    callK Tryz.prog 152 [.agg r.toArray] (fun v w' => v = .bool (decide (FormP o)) ∧ Grow w w') w := by
  apply S152_ok
  unfold S152
  have hr1 := h.one
  obtain ⟨rv, sv, pv, rfl, h1, h2, h3⟩ := h
  refine boxn_i fun b w1 _ hz g hc _ => ?_
  have h1' := h1.grow g (by decide) fun _ _ h => h
  obtain ⟨a1, c1, rfl, m1⟩ := h1.shape
  obtain ⟨a2, c2, rfl, m2⟩ := h2.shape
  obtain ⟨a3, c3, rfl, m3⟩ := h3.shape
  have key : ∀ {x : Bool}, (x = true ↔ FormP o) → Value.bool x = .bool (decide (FormP o)) ∧ Grow w w1 := fun h => ⟨by congr 1; rw [Bool.eq_iff_iff, h, decide_eq_true_eq], g⟩
  unfold FormP at key ⊢
  refine JoinK_i (fun vs w2 => w2 = w1 ∧ vs = [.bool (decide (¬ (o.runes = [] ∧ o.set = [])))]) ?_ ?_
  rotate_left
  · rw [faK_i]
    refine ld1K_i (hc 2 _ rfl) ?_
    rw [lenK_i, gtK_i]
    refine condK_p (fun e => ?_) fun e => ?_
    · refine ⟨rfl, ?_⟩
      rw [decide_eq_true]
      rintro ⟨e2, _⟩; rw [e2] at e; simp at e
    · have e1 : o.runes = [] := List.eq_nil_of_length_eq_zero (by omega)
      rw [faK_i]
      refine ld1K_i (hc 3 _ rfl) ?_
      rw [lenK_i, gtK_i]
      refine ⟨rfl, ?_⟩
      congr 2
      rw [decide_eq_decide]
      constructor
      · rintro e3 ⟨_, e4⟩; rw [e4] at e3; simp at e3
      · intro e3
        have : o.set ≠ [] := fun e4 => e3 ⟨e1, e4⟩
        have := List.length_pos_iff.2 this
        omega
  rintro _ _ ⟨rfl, rfl⟩ _
  rename World => w1
  rw [nth_z, List.headD_cons, faK_i]
  refine ld1K_i (hc 0 _ rfl) ?_
  rw [eqK_i]
  refine condK_p (fun k1 => ?_) fun k1 => ?_
  · rw [notK_i]
    refine key ?_
    simp only [k1, decide_not, Bool.not_not, decide_eq_true_eq]
    constructor
    · exact fun h => .inl ⟨trivial, h⟩
    · rintro (h | h | h)
      · exact h.2
      · omega
      · omega
  rw [eqK_i]
  refine condK_p (fun k3 => ?_) fun k3 => ?_
  · rw [notK_i]
    by_cases hT : o.runes = [] ∧ o.set = []
    · rw [show (!decide ¬ (o.runes = [] ∧ o.set = [])) = true by simp [hT]]
      refine condK_t ?_
      rw [faK_i]
      refine ld1K_i (hc 4 _ rfl) ?_
      rw [lenK_i, eqK_i]
      refine key ?_
      rw [decide_eq_true_eq, len0]
      constructor
      · exact fun h => .inr (.inl ⟨k3, hT.1, hT.2, h⟩)
      · rintro (h | h | h)
        · omega
        · exact h.2.2.2
        · omega
    · rw [show (!decide ¬ (o.runes = [] ∧ o.set = [])) = false by simp [hT]]
      refine condK_f (key ?_)
      simp only [Bool.false_eq_true, false_iff]
      rintro (h | h | h)
      · omega
      · exact hT ⟨h.2.1, h.2.2.1⟩
      · omega
  rw [eqK_i]
  refine condK_p (fun k2 => ?_) fun k2 => key (by simp only [Bool.false_eq_true, false_iff]; rintro (h | h | h) <;> omega)
  rw [faK_i]
  refine ld1K_i (hc 1 _ rfl) ?_
  rw [eqK_i]
  refine condK_p (fun hn => ?_) fun hn => key (by simp only [Bool.false_eq_true, false_iff]; rintro (h | h | h) <;> omega)
  rw [faK_i]
  refine ld1K_i (hc 4 _ rfl) ?_
  rw [lenK_i, eqK_i]
  refine condK_p (fun hp => ?_) fun hp => key (by
    simp only [Bool.false_eq_true, false_iff]
    rintro (h | h | h)
    · omega
    · omega
    · exact hp (len0.2 h.2.2.1))
  rw [len0] at hp
  rw [faK_i]
  refine ld1K_i (hc 2 _ rfl) ?_
  refine callK_mono (crunes_ok h1') ?_
  rintro _ _ ⟨rfl, rfl⟩
  rename World => w1
  rw [notK_i, Bool.not_not]
  refine key ?_
  rw [decide_eq_true_eq]
  constructor
  · exact fun h => .inr (.inr ⟨k2, hn, hp, h⟩)
  · rintro (h | h | h)
    · omega
    · omega
    · exact h.2.2.2
theorem sizep_ok {D : Nat → Prop} {r : List Value} {o : Dop} {w : World} (h : RDop D w r o) :
    callK Tryz.prog 153 [.agg r.toArray] (fun v w' => v = .int .i64 (lenO o) ∧ Grow w w') w := by
  apply S153_ok
  unfold S153
  obtain ⟨rv, sv, pv, rfl, h1, h2, h3⟩ := h
  obtain ⟨a1, c1, rfl, m1⟩ := h1.shape
  refine boxn_i fun b w1 _ hz g hc _ => ?_
  rw [faK_i]
  refine ld1K_i (hc 0 _ rfl) ?_
  rw [eqK_i]
  refine condK_p (fun k1 => ?_) fun k1 => ?_
  · rw [faK_i]
    refine ld1K_i (hc 2 _ rfl) ?_
    rw [lenK_i]
    exact ⟨by rw [lenO, if_pos k1], g⟩
  · rw [faK_i]
    refine ld1K_i (hc 1 _ rfl) ?_
    exact ⟨by rw [lenO, if_neg k1], g⟩
/-- what a delta takes -/
theorem takesp_ok {S D : Nat → Prop} {v : Value} {x : List Dop} {w : World} (h : RDops S D w v x) :
    callK Tryz.prog 94 [v] (fun v' w' => v' = .int .i64 (sumW takesF x) ∧ Grow w w') w := by
  apply S94_ok
  unfold S94
  obtain ⟨a, c, rfl, hm⟩ := h.shape
  simp only [maxLen] at hm
  rw [lenK_i]
  refine LoopK_i (fun vs w1 => ∃ k : Nat, k ≤ x.length ∧ vs = [.int .i64 (sumW takesF (x.take k)), .int .i64 k] ∧ Grow w w1) (fun vs _ => x.length - iOf vs 1) ⟨0, Nat.zero_le _, rfl, Mod.refl _ _⟩ ?_
  rintro vs w1 ⟨k, hk, rfl, g⟩ _
  simp only [nth_s, nth_z, List.headD_cons, List.tail_cons]
  rw [ltK_i]
  refine condK_p (fun hlt => ?_) fun hge => ?_
  · have hlt' : k < x.length := by omega
    obtain ⟨p, r, rfl, hS, hr, hc, hop⟩ := (RDops.grow h g).get hlt'
    refine ixK_n hlt' (ldnK_i hr (fun j u hu => by rw [Addr.add_add]; exact hc j u hu) ?_)
    refine newst_n hr rfl hop.one fun b w2 hb hz g2 hc2 _ => ?_
    obtain ⟨rv, sv, pv, rfl, h1, h2, h3⟩ := hop
    rw [faK_i]
    refine ld1K_i (hc2 0 _ rfl) ?_
    rw [neK_i]
    refine condK_neg (fun e => ?_) fun e => ?_
    · rw [addK_i, loop_step (by omega)]
      refine ⟨⟨k + 1, hlt', ?_, g.trans g2⟩, by rw [iOf1, iOf1]; omega⟩
      rw [sumW_take hlt', takesF, if_pos e, Int.add_zero]
      have : IntKind.i64.wrap (sumW takesF (x.take k)) = sumW takesF (x.take k) := by
        by_cases h0 : k = 0
        · subst h0; simp [sumW]; rfl
        · obtain ⟨k', rfl⟩ : ∃ k', k = k' + 1 := ⟨k - 1, by omega⟩
          rw [sumW_take (by omega)]
          have := wrap_range (sumW takesF (x.take k') + takesF x[k'])
          rw [wrap64 (by omega) (by omega)]
      rw [this]
    · rw [faK_i]
      refine ld1K_i (hc2 1 _ rfl) ?_
      rw [addK_i, addK_i, loop_step (by omega)]
      refine ⟨⟨k + 1, hlt', ?_, g.trans g2⟩, by rw [iOf1, iOf1]; omega⟩
      rw [sumW_take hlt', takesF, if_neg e]
  · have : k = x.length := by omega
    subst this
    rw [List.take_length]
    exact ⟨rfl, g⟩
theorem makesp_ok {S D : Nat → Prop} {v : Value} {x : List Dop} {w : World} (h : RDops S D w v x) :
    callK Tryz.prog 95 [v] (fun v' w' => v' = .int .i64 (sumW makesF x) ∧ Grow w w') w := by
  apply S95_ok
  unfold S95
  obtain ⟨a, c, rfl, hm⟩ := h.shape
  simp only [maxLen] at hm
  rw [lenK_i]
  refine LoopK_i (fun vs w1 => ∃ k : Nat, k ≤ x.length ∧ vs = [.int .i64 (sumW makesF (x.take k)), .int .i64 k] ∧ Grow w w1) (fun vs _ => x.length - iOf vs 1) ⟨0, Nat.zero_le _, rfl, Mod.refl _ _⟩ ?_
  rintro vs w1 ⟨k, hk, rfl, g⟩ _
  simp only [nth_s, nth_z, List.headD_cons, List.tail_cons]
  rw [ltK_i]
  refine condK_p (fun hlt => ?_) fun hge => ?_
  · have hlt' : k < x.length := by omega
    obtain ⟨p, r, rfl, hS, hr, hc, hop⟩ := (RDops.grow h g).get hlt'
    refine ixK_n hlt' (ldnK_i hr (fun j u hu => by rw [Addr.add_add]; exact hc j u hu) ?_)
    refine newst_n hr rfl hop.one fun b w2 hb hz g2 hc2 _ => ?_
    have hop2 := hop.mod (D' := D) g2 (fun _ _ _ h => h) fun _ _ h => h
    obtain ⟨rv, sv, pv, rfl, h1, h2, h3⟩ := id hop
    rw [faK_i]
    refine ld1K_i (hc2 0 _ rfl) ?_
    rw [neK_i]
    refine condK_neg (fun e => ?_) fun e => ?_
    · rw [addK_i, loop_step (by omega)]
      refine ⟨⟨k + 1, hlt', ?_, g.trans g2⟩, by rw [iOf1, iOf1]; omega⟩
      rw [sumW_take hlt', makesF, if_pos e, Int.add_zero]
      have : IntKind.i64.wrap (sumW makesF (x.take k)) = sumW makesF (x.take k) := by
        by_cases h0 : k = 0
        · subst h0; simp [sumW]; rfl
        · obtain ⟨k', rfl⟩ : ∃ k', k = k' + 1 := ⟨k - 1, by omega⟩
          rw [sumW_take (by omega)]
          have := wrap_range (sumW makesF (x.take k') + makesF x[k'])
          rw [wrap64 (by omega) (by omega)]
      rw [this]
    · refine ldnK_i hr hc2 ?_
      refine callK_mono (sizep_ok hop2) ?_
      rintro _ w3 ⟨rfl, g3⟩
      rw [addK_i, addK_i, loop_step (by omega)]
      refine ⟨⟨k + 1, hlt', ?_, (g.trans g2).trans g3⟩, by rw [iOf1, iOf1]; omega⟩
      rw [sumW_take hlt', makesF, if_neg e]
  · have : k = x.length := by omega
    subst this
    rw [List.take_length]
    exact ⟨rfl, g⟩
theorem ite_iff {α : Type} {p q : Prop} [Decidable p] [Decidable q] {a b : α} (h : p ↔ q) : (if p then a else b) = if q then a else b := by
  by_cases hp : p
  · rw [if_pos hp, if_pos (h.1 hp)]
  · rw [if_neg hp, if_neg fun hq => hp (h.2 hq)]
/-- what is wrong with a change by itself -/
def ChgBad (c : Chg) : Prop := (c.gone = true ∧ c.val ≠ AVal.zero) ∨ (c.gone = false ∧ ¬ ValOK c.val)
def ChgNo (ks : List DKey) (c : Chg) : Prop := findK ks c.key = none ∨ (c.gone = false ∧ ¬ FitsK ks c.key c.val)
set_option maxRecDepth 20000 in
open Classical in
/-- patch.May -/
theorem pmayp_ok {D S : Nat → Prop} {sv v : Value} {ks : List DKey} {p : List Chg} {w : World} (hS : SchR D w sv ks) (h : RPat S w v p) (hT : Tabs w) (hI : ∀ c ∈ p, 0 ≤ c.val.f) :
    callK Tryz.prog 155 [sv, v] (fun v' w' => v' = .int .i64 (mayPat ks p) ∧ Grow w w') w := by
  apply S155_ok
  unfold S155
  obtain ⟨a, c, rfl, hm⟩ := h.shape
  simp only [maxLen] at hm
  have bad : ∀ w', Grow w w' → PatBad p → Value.int .i64 3 = .int .i64 (mayPat ks p) ∧ Grow w w' := fun w' g hb => ⟨by rw [mayPat, if_pos hb], g⟩
  rw [lenK_i, gtK_i]
  refine condK_p (fun h6 => bad _ (Mod.refl _ _) (.inr (.inl (by omega)))) fun h6 => ?_
  rw [lenK_i]
  refine LoopK_i (fun vs W => ∃ i : Nat, i ≤ p.length ∧ vs = [.int .i64 (if PatNoKey ks (p.take i) then 4 else 0), .int .i64 i] ∧ Grow w W ∧ (∀ a ∈ p.take i, ¬ ChgBad a) ∧ RisN Chg.key p i) (fun vs _ => p.length - iOf vs 1)
    ⟨0, Nat.zero_le _, by rw [if_neg (by rintro ⟨a, ha, _⟩; simp at ha)]; rfl, Mod.refl _ _, by simp, fun j hj => by omega⟩ ?_
  rintro vs W ⟨i, hi, rfl, g, hv, hris⟩ _
  simp only [nth_s, nth_z, List.headD_cons, List.tail_cons]
  rw [ltK_i]
  refine condK_p (fun hlt => ?_) fun hge => ?_
  rotate_left
  · have : i = p.length := by omega
    subst this
    rw [List.take_length] at hv ⊢
    refine ⟨?_, g⟩
    have hnb : ¬ PatBad p := by
      rintro (hn | hn | ⟨c, hc, hn⟩)
      · exact hn hris
      · omega
      · exact hv c hc hn
    unfold mayPat
    rw [if_neg hnb]
  have hlt' : i < p.length := by omega
  have hmem := List.getElem_mem hlt'
  have hf0 := hI p[i] hmem
  have e1 : p.take (i + 1) = p.take i ++ [p[i]] := by rw [List.take_add_one, List.getElem?_eq_getElem hlt']; rfl
  have hno : PatNoKey ks (p.take (i + 1)) ↔ PatNoKey ks (p.take i) ∨ ChgNo ks p[i] := by
    unfold PatNoKey ChgNo
    rw [e1]
    constructor
    · rintro ⟨a, ha, hn⟩
      rcases List.mem_append.1 ha with ha | ha
      · exact .inl ⟨a, ha, hn⟩
      · simp at ha; subst ha; exact .inr hn
    · rintro (⟨a, ha, hn⟩ | hn)
      · exact ⟨a, List.mem_append_left _ ha, hn⟩
      · exact ⟨p[i], List.mem_append_right _ (List.mem_singleton.2 rfl), hn⟩
  refine JoinK_i (fun vs W2 => Grow w W2 ∧ vs = [.int .i64 (if PatNoKey ks (p.take (i + 1)) then 4 else 0)] ∧ ¬ ChgBad p[i] ∧ RisN Chg.key p (i + 1)) ?_ ?_
  · rintro vs W2 ⟨g2, rfl, hnb, hr⟩ _
    simp only [nth_s, nth_z, List.headD_cons, List.tail_cons]
    rw [addK_i, loop_step (by omega)]
    refine ⟨⟨i + 1, hlt', rfl, g2, fun a ha => ?_, hr⟩, by rw [iOf1, iOf1]; omega⟩
    rw [e1] at ha
    rcases List.mem_append.1 ha with ha | ha
    · exact hv a ha
    · simp at ha; subst ha; exact hnb
  obtain ⟨q, r, rfl, _, hr, hc, rfl⟩ := (h.grow g (by decide) fun _ _ h => h).get hlt'
  refine ixK_n hlt' (ldnK_i hr (fun j u hu => by rw [Addr.add_add]; exact hc j u hu) ?_)
  refine newst_n (vs := p[i].cells) rfl rfl (RChg.one (w := w) (x := p[i]) rfl) fun b7 W1 hb7 hz7 g7 hc7 _ => ?_
  rw [faK_i]
  refine ld1K_i (hc7 0 _ rfl) ?_
  refine callK_mono (sfind_ok (hS.grow (g.trans g7)) p[i].key) ?_
  rintro _ W2 ⟨rfl, g2⟩
  refine extK_i (vs := [_, _]) (by rfl) (extK_i (vs := [_, _]) (by rfl) ?_)
  refine newst_n (vs := ((findK ks p[i].key).getD DKey.zero).cells) rfl rfl (RKey.one (w := W2) (x := (findK ks p[i].key).getD DKey.zero) rfl) fun b8 W3 hb8 hz8 g3 _ _ => ?_
  have g03 := ((g.trans g7).trans g2).trans g3
  have c7 : ∀ j u, p[i].cells[j]? = some u → W3.cell? ((⟨b7, 0, none⟩ : Addr).add j) = some u := fun j u hu => (g2.trans g3).cell (hc7 j u hu) fun h => h
  have hgo : p[i].cells[1]? = some (.bool p[i].gone) := rfl
  have hva : ∀ j u, p[i].val.cells[j]? = some u → p[i].cells[2 + j]? = some u := fun j u hu => by rw [Nat.add_comm]; exact hu
  refine JoinK_i (fun vs W4 => Grow W3 W4 ∧ ((vs = [.bool true] ∧ PatBad p) ∨ (vs = [.bool false] ∧ ¬ ChgBad p[i] ∧ RisN Chg.key p (i + 1)))) ?_ ?_
  · rintro vs W4 ⟨g4, ⟨rfl, hb⟩ | ⟨rfl, hnb, hrs⟩⟩ _
    · exact condK_t (bad _ (g03.trans g4) hb)
    refine condK_f ?_
    rw [notK_i]
    cases hk : findK ks p[i].key with
    | none =>
      refine condK_t ⟨g03.trans g4, ?_, hnb, hrs⟩
      rw [if_pos (hno.2 (.inr (.inl hk)))]
    | some k =>
      refine condK_f ?_
      rw [faK_i]
      refine ld1K_i (g4.cell (c7 1 _ hgo) fun h => h) ?_
      rw [notK_i]
      cases hg : p[i].gone with
      | true =>
        refine condK_f ⟨g03.trans g4, ?_, hnb, hrs⟩
        congr 2
        refine ite_iff ?_
        rw [hno]
        constructor
        · exact .inl
        · rintro (h | h | h)
          · exact h
          · rw [hk] at h; cases h
          · rw [hg] at h; cases h.1
      | false =>
        refine condK_t ?_
        rw [faK_i]
        refine ld1K_i (g4.cell (c7 0 _ rfl) fun h => h) ?_
        rw [faK_i]
        refine ldnK_i (vs := p[i].val.cells) rfl (fun j u hu => g4.cell (by rw [Addr.add_add]; exact c7 (2 + j) u (hva j u hu)) fun h => h) ?_
        refine callK_mono (sfits_ok (hS.grow (g03.trans g4)) (hT.grow (g03.trans g4)) hf0) ?_
        rintro _ W5 ⟨rfl, g5⟩
        rw [notK_i]
        by_cases hfit : FitsK ks p[i].key p[i].val
        · rw [decide_eq_true hfit]
          refine condK_f ⟨(g03.trans g4).trans g5, ?_, hnb, hrs⟩
          congr 2
          refine ite_iff ?_
          rw [hno]
          constructor
          · exact .inl
          · rintro (h | h | h)
            · exact h
            · rw [hk] at h; cases h
            · exact (h.2 hfit).elim
        · rw [decide_eq_false hfit]
          refine condK_t ⟨(g03.trans g4).trans g5, ?_, hnb, hrs⟩
          rw [if_pos (hno.2 (.inr (.inr ⟨hg, hfit⟩)))]
  refine JoinK_i (fun vs W4 => Grow W3 W4 ∧ ((vs = [.bool true] ∧ PatBad p) ∨ (vs = [.bool false] ∧ RisN Chg.key p (i + 1)))) ?_ ?_
  · rintro vs W4 ⟨g4, ⟨rfl, hb⟩ | ⟨rfl, hrs⟩⟩ _
    · exact condK_t ⟨g4, .inl ⟨rfl, hb⟩⟩
    refine condK_f ?_
    rw [faK_i]
    refine ld1K_i (g4.cell (c7 1 _ hgo) fun h => h) ?_
    cases hg : p[i].gone with
    | true =>
      refine condK_t ?_
      rw [faK_i]
      refine ldnK_i (vs := p[i].val.cells) rfl (fun j u hu => g4.cell (by rw [Addr.add_add]; exact c7 (2 + j) u (hva j u hu)) fun h => h) ?_
      refine ⟨AVal.zero.cells.toArray, by kernel_rfl, ?_⟩
      refine runK_i (run_ne_val _ _ p[i].val AVal.zero W4) ?_
      by_cases hz : p[i].val = AVal.zero
      · rw [decide_eq_true hz]
        refine condK_f ?_
        rw [faK_i]
        refine ld1K_i (g4.cell (c7 1 _ hgo) fun h => h) ?_
        rw [notK_i, hg]
        refine condK_f ⟨g4, .inr ⟨rfl, ?_, hrs⟩⟩
        rintro (h | h)
        · exact h.2 hz
        · rw [hg] at h; cases h.1
      · rw [decide_eq_false hz]
        exact condK_t ⟨g4, .inl ⟨rfl, .inr (.inr ⟨p[i], hmem, .inl ⟨hg, hz⟩⟩)⟩⟩
    | false =>
      refine condK_f ?_
      rw [faK_i]
      refine ld1K_i (g4.cell (c7 1 _ hgo) fun h => h) ?_
      rw [notK_i, hg]
      refine condK_t ?_
      rw [faK_i]
      refine ldnK_i (vs := p[i].val.cells) rfl (fun j u hu => g4.cell (by rw [Addr.add_add]; exact c7 (2 + j) u (hva j u hu)) fun h => h) ?_
      refine callK_mono (vmay_ok (hT.grow (g03.trans g4)) hf0) ?_
      rintro _ W5 ⟨rfl, g5⟩
      rw [notK_i]
      refine ⟨g4.trans g5, ?_⟩
      by_cases hok : ValOK p[i].val
      · refine .inr ⟨by rw [decide_eq_true hok]; rfl, ?_, hrs⟩
        rintro (h | h)
        · rw [hg] at h; cases h.1
        · exact h.2 hok
      · exact .inl ⟨by rw [decide_eq_false hok]; rfl, .inr (.inr ⟨p[i], hmem, .inr ⟨hg, hok⟩⟩)⟩
  refine drawK_i (fun W => Grow W3 W) (Mod.drew _ _) ?_
  rw [gtK_i]
  refine condK_p (fun hi0 => ?_) fun hi0 W4 g4 => ⟨g4, .inr ⟨rfl, fun j hj => by omega⟩⟩
  rw [subK_i, wrap64 (by omega) (by omega), show ((i : Int) - 1) = ((i - 1 : Nat) : Int) by omega]
  have hi1 : i - 1 < p.length := by omega
  obtain ⟨_, r2, e2, _, hr2, hc2, rfl⟩ := (h.grow g03 (by decide) fun _ _ h => h).get hi1
  cases e2
  refine ixK_n hi1 ?_
  rw [faK_i, Addr.add_add]
  refine qld1K_i (fun W hW => hW.cell (hc2 0 _ rfl) fun h => h) ?_
  rw [faK_i]
  refine qld1K_i (fun W hW => hW.cell (c7 0 _ rfl) fun h => h) ?_
  rw [geK_i]
  intro W4 g4
  by_cases hge : p[i - 1].key ≥ p[i].key
  · rw [decide_eq_true hge]
    refine ⟨g4, .inl ⟨rfl, .inl fun hall => ?_⟩⟩
    have := hall i (by omega) hlt' _ _ (List.getElem?_eq_getElem hi1) (List.getElem?_eq_getElem hlt')
    omega
  · rw [decide_eq_false hge]
    refine ⟨g4, .inr ⟨rfl, fun j h1 h2 a b ha hb => ?_⟩⟩
    by_cases e : j = i
    · subst e
      rw [List.getElem?_eq_getElem hi1] at ha
      rw [List.getElem?_eq_getElem hlt'] at hb
      cases ha; cases hb; omega
    · exact hris j h1 (by omega) a b ha hb
/-- an op's numbers lie as they must -/
def InO (o : Dop) : Prop := (∀ a ∈ o.set, 0 ≤ a.val.f) ∧ ∀ c ∈ o.patch, 0 ≤ c.val.f
open Classical in
noncomputable def mayO (ks : List DKey) (o : Dop) : Int := if ¬ FormO o then 3 else if maySet ks o.set ≠ 0 then maySet ks o.set else mayPat ks o.patch
open Classical in
theorem onep_ok {E D : Nat → Prop} {sv : Value} {ks : List DKey} {r : List Value} {o : Dop} {w : World} (hS : SchR E w sv ks) (h : RDop D w r o) (hT : Tabs w) (hI : InO o) :
    callK Tryz.prog 93 [sv, .agg r.toArray] (fun v w' => v = .int .i64 (mayO ks o) ∧ Grow w w') w := by
  apply S93_ok
  unfold S93
  refine boxn_i fun b w1 _ hz g hc _ => ?_
  have hr5 : r.length = 5 := by obtain ⟨_, _, _, rfl, _⟩ := h; rfl
  have h1 := h.mod (D' := D) g (fun _ _ _ h => h) fun _ _ h => h
  refine JoinK_i (fun vs w2 => Grow w1 w2 ∧ FormO o) ?_ ?_
  · rintro vs w2 ⟨g2, hf⟩ _
    obtain ⟨rv, uv, pv, rfl, q1, q2, q3⟩ := h1.mod (D' := D) g2 (fun _ _ _ h => h) fun _ _ h => h
    rw [faK_i]
    refine ld1K_i (g2.cell (hc 3 _ rfl) fun h => h) ?_
    refine callK_mono (smay_ok (hS.grow (g.trans g2)) q2 (hT.grow (g.trans g2)) hI.1) ?_
    rintro _ w3 ⟨rfl, g3⟩
    rw [neK_i]
    have e0 : mayO ks o = if maySet ks o.set ≠ 0 then maySet ks o.set else mayPat ks o.patch := by rw [mayO, if_neg (not_not_intro hf)]
    refine condK_neg (fun hz => ?_) fun hz => ⟨by rw [e0, if_pos hz], (g.trans g2).trans g3⟩
    rw [faK_i]
    refine ld1K_i ((g2.trans g3).cell (hc 4 _ rfl) fun h => h) ?_
    refine callK_mono (pmayp_ok (hS.grow ((g.trans g2).trans g3)) (q3.grow g3 (by decide) fun _ _ h => h) (hT.grow ((g.trans g2).trans g3)) hI.2) ?_
    rintro _ w4 ⟨rfl, g4⟩
    exact ⟨by rw [e0, if_neg (not_not_intro hz)], ((g.trans g2).trans g3).trans g4⟩
  have no : ∀ w', Grow w1 w' → ¬ FormO o → Value.int .i64 3 = .int .i64 (mayO ks o) ∧ Grow w w' := fun w' g' hn => ⟨by rw [mayO, if_pos hn], g.trans g'⟩
  refine ldnK_i hr5 hc ?_
  refine callK_mono (formp_ok h1) ?_
  rintro _ w2 ⟨rfl, g2⟩
  rw [notK_i]
  refine condK_neg (fun hp => ?_) fun hp => no _ g2 fun hf => hp ((formO_iff o).1 hf).1
  refine ldnK_i hr5 (fun j u hu => g2.cell (hc j u hu) fun h => h) ?_
  refine callK_mono (sizep_ok (h1.mod (D' := D) g2 (fun _ _ _ h => h) fun _ _ h => h)) ?_
  rintro _ w3 ⟨rfl, g3⟩
  rw [ltK_i]
  refine condK_p (fun hl => no _ (g2.trans g3) fun hf => by have := ((formO_iff o).1 hf).2.1; omega) fun hl => ?_
  refine ldnK_i hr5 (fun j u hu => (g2.trans g3).cell (hc j u hu) fun h => h) ?_
  refine callK_mono (sizep_ok (h1.mod (D' := D) (g2.trans g3) (fun _ _ _ h => h) fun _ _ h => h)) ?_
  rintro _ w4 ⟨rfl, g4⟩
  rw [gtK_i]
  refine condK_p (fun hl2 => no _ ((g2.trans g3).trans g4) fun hf => by have := ((formO_iff o).1 hf).2.2; omega) fun hl2 => ⟨(g2.trans g3).trans g4, (formO_iff o).2 ⟨hp, by omega, by omega⟩⟩
theorem maySet_nil (ks : List DKey) : maySet ks [] = 0 := setK_iff.2 setK_nil
theorem mayPat_nil (ks : List DKey) : mayPat ks [] = 0 := patK_iff.2 patK_nil
theorem maySet_v (ks : List DKey) (l : List Attr) : maySet ks l = 0 ∨ maySet ks l = 3 ∨ maySet ks l = 4 := by
  unfold maySet; split
  · exact .inr (.inl rfl)
  · split
    · exact .inr (.inr rfl)
    · exact .inl rfl
theorem mayPat_v (ks : List DKey) (l : List Chg) : mayPat ks l = 0 ∨ mayPat ks l = 3 ∨ mayPat ks l = 4 := by
  unfold mayPat; split
  · exact .inr (.inl rfl)
  · split
    · exact .inr (.inr rfl)
    · exact .inl rfl
theorem mayO_v (ks : List DKey) (o : Dop) : (mayO ks o = 3 ↔ ¬ FormO o ∨ maySet ks o.set = 3 ∨ mayPat ks o.patch = 3) ∧ (mayO ks o = 0 ∨ mayO ks o = 3 ∨ mayO ks o = 4) ∧ (mayO ks o ≠ 3 → (mayO ks o = 0 ↔ maySet ks o.set = 0 ∧ mayPat ks o.patch = 0)) := by
  have v1 := maySet_v ks o.set
  have v2 := mayPat_v ks o.patch
  by_cases hf : FormO o
  · have hx : maySet ks o.set = 0 ∨ mayPat ks o.patch = 0 := by
      rcases hf with ⟨_, _, h, _⟩ | ⟨_, _, h, _⟩ | ⟨_, _, _, h, _⟩
      · left; rw [h]; exact maySet_nil ks
      · left; rw [h]; exact maySet_nil ks
      · right; rw [h]; exact mayPat_nil ks
    unfold mayO
    rw [if_neg (not_not_intro hf)]
    by_cases hz : maySet ks o.set = 0
    · rw [if_neg (not_not_intro hz)]
      exact ⟨⟨fun h => .inr (.inr h), fun h => by rcases h with h | h | h; exact (h hf).elim; omega; exact h⟩, v2, fun _ => ⟨fun h => ⟨hz, h⟩, fun h => h.2⟩⟩
    · rw [if_pos hz]
      refine ⟨⟨fun h => .inr (.inl h), fun h => by rcases h with h | h | h; exact (h hf).elim; exact h; omega⟩, v1, fun _ => ⟨fun h => ⟨h, by omega⟩, fun h => h.1⟩⟩
  · unfold mayO
    rw [if_pos hf]
    exact ⟨⟨fun _ => .inl hf, fun _ => rfl⟩, .inr (.inl rfl), fun h => (h rfl).elim⟩
open Classical in
/-- ops.May -/
theorem maypo_ok {E S D : Nat → Prop} {sv v : Value} {ks : List DKey} {x : List Dop} {w : World} (hS : SchR E w sv ks) (h : RDops S D w v x) (hT : Tabs w) (hI : ∀ o ∈ x, InO o) :
    callK Tryz.prog 59 [sv, v] (fun v' w' => v' = .int .i64 (mayOps ks x) ∧ Grow w w') w := by
  apply S59_ok
  unfold S59
  have ho := h
  obtain ⟨a, c, rfl, hm⟩ := h.shape
  simp only [maxLen] at hm
  have bad : ∀ w', Grow w w' → OpsBad ks x → Value.int .i64 3 = .int .i64 (mayOps ks x) ∧ Grow w w' := fun w' g hb => ⟨by rw [mayOps, if_pos hb], g⟩
  rw [lenK_i]
  refine LoopK_i (fun vs w1 => ∃ k : Nat, k ≤ x.length ∧ vs = [.int .i64 (if OpsNoKey ks (x.take k) then 4 else 0), .int .i64 k] ∧ Grow w w1 ∧ ∀ o ∈ x.take k, mayO ks o ≠ 3) (fun vs _ => x.length - iOf vs 1)
    ⟨0, Nat.zero_le _, by rw [if_neg (by rintro ⟨a, ha, _⟩; simp at ha)]; rfl, Mod.refl _ _, by simp⟩ ?_
  rintro vs w1 ⟨k, hk, rfl, g, hall⟩ _
  simp only [nth_s, nth_z, List.headD_cons, List.tail_cons]
  rw [ltK_i]
  refine condK_p (fun hlt => ?_) fun hge => ?_
  · have hlt' : k < x.length := by omega
    have hmem := List.getElem_mem hlt'
    obtain ⟨p, r, rfl, _, hr, hc, hop⟩ := (RDops.grow h g).get hlt'
    refine ixK_n hlt' (ldnK_i hr (fun j u hu => by rw [Addr.add_add]; exact hc j u hu) ?_)
    refine newst_n hr rfl hop.one fun b w2 hb hz g2 hc2 _ => ?_
    refine ldnK_i hr hc2 ?_
    refine callK_mono (onep_ok (hS.grow (g.trans g2)) (hop.mod (D' := D) g2 (fun _ _ _ h => h) fun _ _ h => h) (hT.grow (g.trans g2)) (hI _ hmem)) ?_
    rintro _ w3 ⟨rfl, g3⟩
    have g03 := (g.trans g2).trans g3
    obtain ⟨m1, m2, m3⟩ := mayO_v ks x[k]
    rw [eqK_i]
    refine condK_p (fun h3 => ?_) fun h3 => ?_
    · rw [h3]; exact bad _ g03 (.inl ⟨_, hmem, m1.1 h3⟩)
    have e1 : x.take (k + 1) = x.take k ++ [x[k]] := by rw [List.take_add_one, List.getElem?_eq_getElem hlt']; rfl
    have hall' : ∀ o ∈ x.take (k + 1), mayO ks o ≠ 3 := fun o ho => by
      rw [e1] at ho
      rcases List.mem_append.1 ho with ho | ho
      · exact hall o ho
      · simp at ho; subst ho; exact h3
    have hno : OpsNoKey ks (x.take (k + 1)) ↔ OpsNoKey ks (x.take k) ∨ mayO ks x[k] ≠ 0 := by
      unfold OpsNoKey
      rw [e1]
      constructor
      · rintro ⟨a, ha, hn⟩
        rcases List.mem_append.1 ha with ha | ha
        · exact .inl ⟨a, ha, hn⟩
        · simp at ha; subst ha
          exact .inr fun h0 => by have := (m3 h3).1 h0; rcases hn with hn | hn; exact hn this.1; exact hn this.2
      · rintro (⟨a, ha, hn⟩ | hn)
        · exact ⟨a, List.mem_append_left _ ha, hn⟩
        · refine ⟨x[k], List.mem_append_right _ (List.mem_singleton.2 rfl), ?_⟩
          by_cases hz : maySet ks x[k].set = 0
          · exact .inr fun h0 => hn ((m3 h3).2 ⟨hz, h0⟩)
          · exact .inl hz
    rw [neK_i]
    refine condK_neg (fun h0 => ?_) fun h0 => ?_
    · rw [addK_i, loop_step (by omega)]
      refine ⟨⟨k + 1, hlt', ?_, g03, hall'⟩, by rw [iOf1, iOf1]; omega⟩
      congr 2
      refine ite_iff ?_
      rw [hno]
      exact ⟨.inl, fun h' => by rcases h' with h' | h'; exact h'; exact (h' h0).elim⟩
    · rw [addK_i, loop_step (by omega)]
      refine ⟨⟨k + 1, hlt', ?_, g03, hall'⟩, by rw [iOf1, iOf1]; omega⟩
      rw [if_pos (hno.2 (.inr h0))]
      congr 2
      omega
  · have : k = x.length := by omega
    subst this
    rw [List.take_length] at hall ⊢
    refine callK_mono (takesp_ok (RDops.grow ho g)) ?_
    rintro _ w2 ⟨rfl, g2⟩
    rw [gtK_i]
    refine condK_p (fun h1 => bad _ (g.trans g2) (.inr (.inl h1))) fun h1 => ?_
    refine callK_mono (makesp_ok (RDops.grow ho (g.trans g2))) ?_
    rintro _ w3 ⟨rfl, g3⟩
    rw [gtK_i]
    refine condK_p (fun h2 => bad _ ((g.trans g2).trans g3) (.inr (.inr h2))) fun h2 => ?_
    refine ⟨?_, (g.trans g2).trans g3⟩
    have hnb : ¬ OpsBad ks x := by
      rintro (⟨o, ho, hn⟩ | hn | hn)
      · exact hall o ho ((mayO_v ks o).1.2 hn)
      · exact h1 hn
      · exact h2 hn
    unfold mayOps
    rw [if_neg hnb]
end Go.Proofs.YtlbaopamhkmepaaGreatDoor

namespace Go.Proofs.YtlbaopamhkmepaaGreatDoor
open Go Go.K

section
variable {ks : List DKey}
theorem good_head {o : Dop} {n : Nat} (h : GoodK ks o) (h1 : 1 ≤ n) (h2 : n ≤ lenN o) : GoodK ks (headO n o) := by
  rcases h with ⟨k1, k2, k3, k4, k5⟩ | ⟨k1, k2, k3, k4, k5⟩ | ⟨k1, k2, k3, k4, k5, k6⟩
  · unfold headO
    rw [if_neg (by omega)]
    exact .inl ⟨k1, k2, k3, by simp only; omega, k5⟩
  · unfold headO
    rw [if_neg (by omega)]
    exact .inr (.inl ⟨k1, k2, k3, k4, by simp only; omega⟩)
  · unfold headO
    rw [if_pos k1]
    simp only [lenN, k1, if_true] at h2
    refine .inr (.inr ⟨rfl, fun r hr => k2 r (List.mem_of_mem_take hr), k3, k4, ?_, k6⟩)
    intro e
    have := congrArg List.length e
    simp at this
    rcases this with h | h
    · omega
    · exact k5 h
theorem good_rest {o : Dop} {n : Nat} (h : GoodK ks o) (h2 : n < lenN o) : GoodK ks (restO n o) := by
  rcases h with ⟨k1, k2, k3, k4, k5⟩ | ⟨k1, k2, k3, k4, k5⟩ | ⟨k1, k2, k3, k4, k5, k6⟩
  · unfold restO
    simp only [lenN, show o.kind ≠ 2 by omega, if_false] at h2
    rw [if_neg (by omega)]
    exact .inl ⟨k1, k2, k3, by simp only; omega, k5⟩
  · unfold restO
    simp only [lenN, show o.kind ≠ 2 by omega, if_false] at h2
    rw [if_neg (by omega)]
    exact .inr (.inl ⟨k1, k2, k3, k4, by simp only; omega⟩)
  · unfold restO
    rw [if_pos k1]
    simp only [lenN, k1, if_true] at h2
    refine .inr (.inr ⟨rfl, fun r hr => k2 r (List.mem_of_mem_drop hr), k3, k4, ?_, k6⟩)
    intro e
    have := congrArg List.length e
    simp at this
    omega
theorem good_behind {n : Nat} {x : List Dop} (h : ∀ o ∈ x, GoodK ks o) : ∀ o ∈ behind n x, GoodK ks o := by
  cases x with
  | nil => intro o ho; simp [behind] at ho
  | cons a x =>
    intro o ho
    simp only [behind] at ho
    split at ho
    · rcases List.mem_cons.1 ho with rfl | ho
      · exact good_rest (h a (by simp)) (by assumption)
      · exact h o (by simp [ho])
    · exact h o (by simp [ho])
theorem GoodM.more {PS : List Attr → Prop} {PP : List Chg → Prop} {s : MkS} {t t' : Nat} (h : GoodM PS PP s t) (ht : t ≤ t') : GoodM PS PP s t' := ⟨h.done, h.ins, h.gone, Nat.le_trans h.tot ht⟩
theorem good_both (h64 : ks.length ≤ 64) {s : MkS} {t n : Nat} {u v : Dop} (hs : GoodM (SetK ks) (PatK ks) s t) (hu : GoodK ks u) (hv : GoodK ks v) (h1 : lenN u = n) (h2 : lenN v = n) (hk : v.kind ≠ 2) (hku : u.kind ≠ 3) (hn : 1 ≤ n) (ht : t + n ≤ 16777216) : GoodM (SetK ks) (PatK ks) (bothS ks s u v) (t + n) := by
  have fu := GoodK.form hu (by omega)
  have fv := GoodK.form hv (by omega)
  have vk : v.kind = 1 ∨ v.kind = 3 := by rcases hv with ⟨h, _⟩ | ⟨h, _⟩ | ⟨h, _⟩ <;> omega
  have uk : u.kind = 1 ∨ u.kind = 2 := by rcases hu with ⟨h, _⟩ | ⟨h, _⟩ | ⟨h, _⟩ <;> omega
  have ln : v.n = n := by
    have := h2
    simp only [lenN, hk, if_false] at this
    omega
  unfold bothS
  by_cases ku : u.kind = 1
  · rw [if_pos ku]
    by_cases kv : v.kind = 1
    · rw [if_pos kv]
      have := good_step hs (o := ⟨1, v.n, [], [], comP u.patch v.patch⟩) (.inl ⟨rfl, rfl, rfl, by simp only; omega, comP_may h64 fu.2.2 fv.2.2⟩) (by simp only [lenN, show ¬ (1 : Int) = 2 by decide, if_false]; omega)
      simp only [lenN, show ¬ (1 : Int) = 2 by decide, if_false, ln, Int.toNat_natCast] at this
      rw [ln]
      simpa [stepS] using this
    · rw [if_neg kv]
      have k3 : v.kind = 3 := by omega
      have := good_step hs hv (by omega)
      rw [h2] at this
      simpa [stepS, k3] using this
  · rw [if_neg ku]
    split
    · have hl : u.runes.length = n := by simpa [lenN, show u.kind = 2 by omega] using h1
      have hr : ∀ r ∈ u.runes, MayR r := by
        rcases hu with ⟨h, _⟩ | ⟨h, _⟩ | ⟨h, e, _⟩
        · omega
        · omega
        · exact e
      have := fold_good h64 u.set v.patch fu.2.1 fv.2.2 u.runes hr hs (by omega)
      rwa [hl] at this
    · exact hs.more (by omega)
/-- the numbers of what is composed lie as they must -/
theorem cmp_in (h64 : ks.length ≤ 64) {x y : List Dop} (hx : ∀ o ∈ x, GoodK ks o ∧ InO o) (hy : ∀ o ∈ y, GoodK ks o ∧ InO o) (hb : total x + total y ≤ 1099511627776) : ∀ z ∈ cmpD ks x y, InO z := by
  obtain ⟨h1, h2⟩ := ref_good h64 (fun o ho => (hx o ho).1) fun o ho => (hy o ho).1
  have one : ∀ {l : List Dop}, (∀ o ∈ l, GoodK ks o ∧ InO o) → ∀ u ∈ onesL l, InO u := fun {l} hl u hu => by
    simp only [onesL, List.mem_flatMap] at hu
    obtain ⟨o, ho, hu⟩ := hu
    obtain ⟨_, e1, e2⟩ := ones_kind hu
    have := (hl o ho).2
    unfold InO at this ⊢
    rw [e1, e2]; exact this
  have hin : ∀ z ∈ refC (oneP ks) (onesL x) (onesL y), InO z := by
    intro z hz
    rcases refC_mem hz with h | h | ⟨u, c, hu, hc, _, h⟩
    · exact one hx z h
    · exact one hy z h
    · have iu : InO u := by
        rcases hu with hu | rfl
        · exact one hx u hu
        · exact ⟨by simp, by simp⟩
      have ic := one hy c hc
      unfold oneP at h
      split at h
      · split at h
        · simp at h; subst h; exact ic
        · split at h
          · simp at h; subst h
            refine ⟨by simp, fun d hd => ?_⟩
            rcases comP_mem hd with hd | hd
            · exact iu.2 d hd
            · exact ic.2 d hd
          · simp at h
      · split at h
        · simp at h; subst h
          refine ⟨fun a ha => ?_, by simp⟩
          rcases appP_mem ha with ha | ⟨d, hd, _, rfl⟩
          · exact iu.1 a ha
          · exact ic.2 d (List.mem_filter.1 hd).1
        · simp at h
  obtain ⟨h3, _⟩ := good_norm (PS := fun l => ∀ a ∈ l, 0 ≤ a.val.f) (PP := fun p => ∀ c ∈ p, 0 ≤ c.val.f) (refC (oneP ks) (onesL x) (onesL y)) (fun z hz => by
    have i := hin z hz
    rcases (h1 z hz).1 with ⟨k1, k2, k3, k4, k5⟩ | ⟨k1, k2, k3, k4, k5⟩ | ⟨k1, k2, k3, k4, k5, k6⟩
    · exact .inl ⟨k1, k2, k3, k4, i.2⟩
    · exact .inr (.inl ⟨k1, k2, k3, k4, k5⟩)
    · exact .inr (.inr ⟨k1, k2, k3, k4, k5, i.1⟩)) (by omega)
  intro z hz
  rcases h3 z hz with ⟨k1, k2, k3, k4, k5⟩ | ⟨k1, k2, k3, k4, k5⟩ | ⟨k1, k2, k3, k4, k5, k6⟩
  · exact ⟨by rw [k3]; simp, k5⟩
  · exact ⟨by rw [k3]; simp, by rw [k4]; simp⟩
  · exact ⟨k6, by rw [k4]; simp⟩
theorem cmay_ok {E S D S' D' : Nat → Prop} {sv xv yv : Value} {x y : List Dop} {w : World} (hS : SchR E w sv ks) (hx : RDops S D w xv x) (hy : RDops S' D' w yv y) (hT : Tabs w) (ix : ∀ o ∈ x, InO o) (iy : ∀ o ∈ y, InO o) (mx : mayOps ks x = 0) (my : mayOps ks y = 0) :
    callK Tryz.prog 141 [sv, xv, yv] (fun v' w' => v' = .int .i64 0 ∧ Grow w w') w := by
  apply S141_ok
  unfold S141
  refine callK_mono (maypo_ok hS hx hT ix) ?_
  rintro _ w1 ⟨rfl, g1⟩
  refine callK_mono (maypo_ok (hS.grow g1) (RDops.grow hy g1) (hT.grow g1) iy) ?_
  rintro _ w2 ⟨rfl, g2⟩
  rw [mx, my, eqK_i]
  exact condK_p (fun _ => ⟨rfl, g1.trans g2⟩) fun e => (e rfl).elim
end
end Go.Proofs.YtlbaopamhkmepaaGreatDoor

namespace Go.Proofs.YtlbaopamhkmepaaGreatDoor
open Go Go.K

/-- where the maker and both readers lie -/
structure Cx (w W0 : World) (Sx Dx Sy Dy : Nat → Prop) (b c d : Nat) : Prop where
  b1 : w.heap.size ≤ b
  c1 : w.heap.size ≤ c
  d1 : w.heap.size ≤ d
  b2 : b < W0.heap.size
  c2 : c < W0.heap.size
  d2 : d < W0.heap.size
  bc : b ≠ c
  bd : b ≠ d
  cd : c ≠ d
  x : ∀ z, Sx z ∨ Dx z → z < w.heap.size
  y : ∀ z, Sy z ∨ Dy z → z < w.heap.size
/-- the maker's blocks -/
def Fof (W0 W : World) (b : Nat) (F : Nat → Prop) : Prop := ∀ z, F z → (z = b ∨ W0.heap.size ≤ z) ∧ z < W.heap.size
section
variable {w W0 W W' We : World} {Sx Dx Sy Dy F : Nat → Prop} {b c d : Nat} {u v : List Dop} {s s' : MkS}
theorem Cx.after (cx : Cx w W0 Sx Dx Sy Dy b c d) (hF : Fof W0 W b F) (hL : MkL W F We b s') (ru : RdI Sx Dx W c u) (rv : RdI Sy Dy W d v) (g : Grow w W) (h0 : W0.heap.size ≤ W.heap.size) :
    (∃ F', MkI F' We b s' ∧ Fof W0 We b F') ∧ RdI Sx Dx We c u ∧ RdI Sy Dy We d v ∧ Grow w We ∧ W0.heap.size ≤ We.heap.size := by
  obtain ⟨F', h1, h2, h3⟩ := hL
  have nc : ¬ F c := fun e => by have := (hF c e).1; have := cx.bc; have := cx.c2; omega
  have nd : ¬ F d := fun e => by have := (hF d e).1; have := cx.bd; have := cx.d2; omega
  have nx : ∀ z, z < w.heap.size → ¬ F z := fun z hz e => by have := (hF z e).1; have := cx.b1; have := cx.b2; omega
  refine ⟨⟨F', h1, fun z hz => ⟨?_, (h2 z hz).2⟩⟩, ru.mod h3 nc (fun z hz => nx z (cx.x z (.inl hz))) fun z hz => nx z (cx.x z (.inr hz)), rv.mod h3 nd (fun z hz => nx z (cx.y z (.inl hz))) fun z hz => nx z (cx.y z (.inr hz)), g.next h3 fun z hz e => nx z hz e, Nat.le_trans h0 h3.size⟩
  rcases (h2 z hz).1 with e | e
  · exact (hF z e).1
  · exact .inr (Nat.le_trans h0 e)
theorem Cx.tookX (cx : Cx w W0 Sx Dx Sy Dy b c d) (hm : MkI F W b s) (hF : Fof W0 W b F) (m : Mod (fun z => z = c) W W') (rv : RdI Sy Dy W d v) (g : Grow w W) (h0 : W0.heap.size ≤ W.heap.size) :
    MkI F W' b s ∧ Fof W0 W' b F ∧ RdI Sy Dy W' d v ∧ Grow w W' ∧ W0.heap.size ≤ W'.heap.size := by
  have := cx.bc; have := cx.c2; have := cx.c1; have := cx.cd
  refine ⟨hm.mod m fun z hz e => by have := (hF z hz).1; omega, fun z hz => ⟨(hF z hz).1, Nat.lt_of_lt_of_le (hF z hz).2 m.size⟩, rv.mod m (fun e => by omega) (fun z hz e => by have := cx.y z (.inl hz); omega) fun z hz e => by have := cx.y z (.inr hz); omega, g.next m fun z hz e => by omega, Nat.le_trans h0 m.size⟩
theorem Cx.tookY (cx : Cx w W0 Sx Dx Sy Dy b c d) (hm : MkI F W b s) (hF : Fof W0 W b F) (m : Mod (fun z => z = d) W W') (ru : RdI Sx Dx W c u) (g : Grow w W) (h0 : W0.heap.size ≤ W.heap.size) :
    MkI F W' b s ∧ Fof W0 W' b F ∧ RdI Sx Dx W' c u ∧ Grow w W' ∧ W0.heap.size ≤ W'.heap.size := by
  have := cx.bd; have := cx.d2; have := cx.d1; have := cx.cd
  refine ⟨hm.mod m fun z hz e => by have := (hF z hz).1; omega, fun z hz => ⟨(hF z hz).1, Nat.lt_of_lt_of_le (hF z hz).2 m.size⟩, ru.mod m (fun e => by omega) (fun z hz e => by have := cx.x z (.inl hz); omega) fun z hz e => by have := cx.x z (.inr hz); omega, g.next m fun z hz e => by omega, Nat.le_trans h0 m.size⟩
theorem Cx.grew (hm : MkI F W b s) (hF : Fof W0 W b F) (g : Grow W W') : MkI F W' b s ∧ Fof W0 W' b F := ⟨hm.mod g fun _ _ h => h, fun z hz => ⟨(hF z hz).1, Nat.lt_of_lt_of_le (hF z hz).2 g.size⟩⟩
end
section
variable {ks : List DKey}
theorem total_cons (o : Dop) (x : List Dop) : total (o :: x) = lenN o + total x := by simp [total]
theorem behind_all {o : Dop} {x : List Dop} : behind (lenN o) (o :: x) = x := by simp [behind]
set_option maxRecDepth 20000 in
theorem compose_ok {E S D S' D' : Nat → Prop} {sv xv yv : Value} {x y : List Dop} {w : World} (h64 : ks.length ≤ 64) (hS : SchR E w sv ks) (hx : RDops S D w xv x) (hy : RDops S' D' w yv y) (hT : Tabs w) (gx : ∀ o ∈ x, GoodK ks o ∧ InO o) (gy : ∀ o ∈ y, GoodK ks o ∧ InO o) (hb : total x + total y ≤ 16777216) :
    callK Tryz.prog 87 [sv, xv, yv] (fun v' w' => ∃ zv, v' = .tuple #[zv, .int .i64 0] ∧ ODops w.heap.size w' zv (cmpD ks x y) ∧ Grow w w') w := by
  apply S87_ok
  unfold S87
  refine callK_mono (cmay_ok hS hx hy hT (fun o ho => (gx o ho).2) (fun o ho => (gy o ho).2) (good_may (fun o ho => (gx o ho).1) (by omega)) (good_may (fun o ho => (gy o ho).1) (by omega))) ?_
  rintro _ w1 ⟨rfl, g1⟩
  rw [neK_i]
  refine condK_neg (fun _ => ?_) fun e => (e rfl).elim
  refine callK_mono new_ok ?_
  rintro _ w2 ⟨g2, b, hb1, hb2, rfl, hmk⟩
  have hx0 := RDops.old hx
  have hy0 := RDops.old hy
  have z1 := g1.size
  have z2 := g2.size
  obtain ⟨xa, xc, rfl, _⟩ := hx.shape
  obtain ⟨ya, yc, rfl, _⟩ := hy.shape
  refine ⟨#[.slice xa x.length xc, .int .i64 0], by kernel_rfl, ?_⟩
  refine boxn_i (vs := [.slice xa x.length xc, .int .i64 0]) fun c w3 hc hz3 g3 hc3 hl3 => ?_
  refine ⟨#[.slice ya y.length yc, .int .i64 0], by kernel_rfl, ?_⟩
  refine boxn_i (vs := [.slice ya y.length yc, .int .i64 0]) fun d w4 hd hz4 g4 hc4 hl4 => ?_
  have g04 := ((g1.trans g2).trans g3).trans g4
  have cx : Cx w w4 (fun z => S z ∧ z < w.heap.size) (fun z => D z ∧ z < w.heap.size) (fun z => S' z ∧ z < w.heap.size) (fun z => D' z ∧ z < w.heap.size) b c d :=
    ⟨by omega, by omega, by omega, by omega, by omega, by omega, by omega, by omega, by omega, fun z hz => by rcases hz with hz | hz <;> exact hz.2, fun z hz => by rcases hz with hz | hz <;> exact hz.2⟩
  -- at first
  have rx : RdI (fun z => S z ∧ z < w.heap.size) (fun z => D z ∧ z < w.heap.size) w4 c x := by
    refine ⟨_, x, 0, ⟨by have := g4.cell (hc3 0 _ rfl) fun h => h; rwa [addr0] at this, by have := g4.cell (hc3 1 _ rfl) fun h => h; rwa [addr0] at this, fun j hj => by have := (hl3 j hj).mod g4 fun h => h; rwa [addr0] at this, RDops.grow hx0 g04, fun z hz => by rcases hz with hz | hz <;> (have := hz.2; omega), fun o ho => GoodK.opk (gx o ho).1 (by have := total_mem ho; omega)⟩, fun o r e => by have := (GoodK.m (gx o (by rw [e]; simp)).1).2; omega, ?_⟩
    cases x with
    | nil => rfl
    | cons o r => simp only [remO, restO_0]
  have ry : RdI (fun z => S' z ∧ z < w.heap.size) (fun z => D' z ∧ z < w.heap.size) w4 d y := by
    refine ⟨_, y, 0, ⟨by have := hc4 0 _ rfl; rwa [addr0] at this, by have := hc4 1 _ rfl; rwa [addr0] at this, fun j hj => by have := hl4 j hj; rwa [addr0] at this, RDops.grow hy0 g04, fun z hz => by rcases hz with hz | hz <;> (have := hz.2; omega), fun o ho => GoodK.opk (gy o ho).1 (by have := total_mem ho; omega)⟩, fun o r e => by have := (GoodK.m (gy o (by rw [e]; simp)).1).2; omega, ?_⟩
    cases y with
    | nil => rfl
    | cons o r => simp only [remO, restO_0]
  have gm0 : GoodM (SetK ks) (PatK ks) MkS.z 0 := ⟨by simp [MkS.z], by simp [MkS.z], by simp [MkS.z], by simp [MkS.z, total]⟩
  generalize (fun z => S z ∧ z < w.heap.size) = Sx at cx rx
  generalize (fun z => D z ∧ z < w.heap.size) = Dx at cx rx
  generalize (fun z => S' z ∧ z < w.heap.size) = Sy at cx ry
  generalize (fun z => D' z ∧ z < w.heap.size) = Dy at cx ry
  have hE : SchR (fun z => E z ∧ z < w.heap.size) w sv ks := hS.sub fun z hz h => ⟨h, hz⟩
  have nF : ∀ {W : World} {F : Nat → Prop}, Fof w4 W b F → ∀ z, z < w.heap.size → ¬ F z := fun hF z hz e => by have := (hF z e).1; have := cx.b1; have := cx.b2; omega
  refine LoopK_i (fun vs W => ∃ (u v : List Dop) (s : MkS) (F : Nat → Prop) (t : Nat), vs = [] ∧ MkI F W b s ∧ Fof w4 W b F ∧ GoodM (SetK ks) (PatK ks) s t ∧ t + total u + total v ≤ total x + total y ∧ RdI Sx Dx W c u ∧ RdI Sy Dy W d v ∧ (∀ o ∈ u, GoodK ks o) ∧ (∀ o ∈ v, GoodK ks o) ∧ goC ks s u v = goC ks MkS.z x y ∧ Grow w W ∧ w4.heap.size ≤ W.heap.size)
    (fun _ W => rank W c + rank W d) ⟨x, y, MkS.z, _, 0, rfl, hmk.mod (g3.trans g4) fun _ _ h => h, fun z hz => ⟨.inl hz, by subst hz; omega⟩, gm0, by omega, rx, ry, fun o ho => (gx o ho).1, fun o ho => (gy o ho).1, rfl, g04, Nat.le_refl _⟩ ?_
  rintro _ W ⟨u, v, s, F, t, rfl, hm, hF, hs, htt, ru, rv, gu, gv, hgo, g, h0⟩ _
  have hT2 : ∀ {q : List Dop} {o : Dop}, o ∈ q → lenN o ≤ total q := fun h => total_mem h
  refine callK_mono (rover_ok rv) ?_
  rintro _ _ ⟨rfl, rfl⟩
  rename World => W
  rw [notK_i]
  cases v with
  | nil =>
    rw [decide_eq_true rfl]
    refine condK_f ?_
    rw [go_end fun o ho => GoodK.opk (gu o ho) (by have := hT2 ho; omega)] at hgo
    -- the rest of the first one
    refine LoopK_i (fun vs W => ∃ (u : List Dop) (s : MkS) (F : Nat → Prop) (t : Nat), vs = [] ∧ MkI F W b s ∧ Fof w4 W b F ∧ GoodM (SetK ks) (PatK ks) s t ∧ t + total u ≤ total x + total y ∧ RdI Sx Dx W c u ∧ RdI Sy Dy W d [] ∧ (∀ o ∈ u, GoodK ks o) ∧ u.foldl stepS s = goC ks MkS.z x y ∧ Grow w W ∧ w4.heap.size ≤ W.heap.size)
      (fun _ W => rank W c) ⟨u, s, F, t, rfl, hm, hF, hs, by omega, ru, rv, gu, hgo, g, h0⟩ ?_
    clear hm hF hs htt ru rv gu hgo g h0
    rintro _ W ⟨u, s, F, t, rfl, hm, hF, hs, htt, ru, rv, gu, hgo, g, h0⟩ _
    refine callK_mono (rover_ok ru) ?_
    rintro _ _ ⟨rfl, rfl⟩
    rename World => W
    rw [notK_i]
    cases u with
    | nil =>
      rw [decide_eq_true rfl]
      refine condK_f ?_
      simp only [List.foldl_nil] at hgo
      subst hgo
      obtain ⟨q1, q2, q3⟩ := hs.bnd (by omega)
      refine callK_mono (ops_ok hm q1) ?_
      rintro zv w5 ⟨oz, g5⟩
      have ez : opsS (goC ks MkS.z x y) = cmpD ks x y := rfl
      rw [ez] at oz
      obtain ⟨c1, c2⟩ := cmp_good h64 (fun o ho => (gx o ho).1) (fun o ho => (gy o ho).1) (by omega)
      have hn : ∀ o ∈ cmpD ks x y, 0 ≤ o.n := fun o ho => by rcases c1 o ho with ⟨_, _, _, h4, _⟩ | ⟨_, _, _, _, h4⟩ | ⟨_, _, h4, _⟩ <;> omega
      have ht1 := sumW_total (f := takesF) (cmpD ks x y) (fun o ho => by have := hn o ho; unfold takesF lenN; split <;> omega) (by omega)
      have ht2 := sumW_total (f := makesF) (cmpD ks x y) (fun o ho => by have := hn o ho; unfold makesF lenN lenO; split <;> (split <;> omega)) (by omega)
      refine callK_mono (takesp_ok (ODops.sl oz)) ?_
      rintro _ w6 ⟨rfl, g6⟩
      rw [gtK_i]
      refine condK_p (fun e => by omega) fun _ => ?_
      refine callK_mono (makesp_ok (RDops.grow (ODops.sl oz) g6)) ?_
      rintro _ w7 ⟨rfl, g7⟩
      rw [gtK_i]
      refine condK_p (fun e => by omega) fun _ => ?_
      refine ⟨zv, rfl, ?_, ((g.trans g5).trans g6).trans g7⟩
      have o7 := ODops.grow oz (g6.trans g7) fun _ _ _ h => h
      have : w.heap.size ≤ W.heap.size := g.size
      unfold ODops at o7 ⊢
      refine OwnR.base (OwnR.mod o7 (Mod.refl (fun _ => False) _) (fun _ _ h => h) fun r o _ ho => ho.mod (Mod.refl (fun _ => False) _) (fun _ _ _ h => h) fun z _ hz => ⟨by omega, hz.2⟩) fun z hz => by have := (OwnR.ownB o7 z hz).1; omega
    | cons o u =>
      rw [decide_eq_false (by simp)]
      refine condK_t ?_
      have ho := gu o (by simp)
      have hlo := hT2 (show o ∈ o :: u by simp)
      have op := GoodK.opk ho (by omega)
      refine callK_mono (rtake_ok ru (n := 536870912) (by decide) (by decide)) ?_
      rintro _ W1 ⟨r, o', u', rfl, hr, ru1, m1, ⟨e, _⟩ | ⟨o1, u1, e, rfl, rfl, hrk⟩⟩
      · simp at e
      cases e
      have hmin : min 536870912 (lenN o) = lenN o := by omega
      rw [hmin, headO_all op] at hr
      rw [hmin, behind_all] at ru1
      obtain ⟨hm1, hF1, rv1, gw1, h01⟩ := cx.tookX hm hF m1 rv g h0
      rw [total_cons] at htt
      refine callK_mono (tell_ok hm1 hr (fun z hz e => nF hF1 z (cx.x z (.inr hz)) e) hs ho (by omega)) ?_
      rintro _ W2 hL
      obtain ⟨⟨F2, hm2, hF2⟩, ru2, rv2, gw2, h02⟩ := cx.after hF1 hL ru1 rv1 gw1 h01
      refine ⟨⟨u, stepS s o, F2, t + lenN o, rfl, hm2, hF2, good_step hs ho (by omega), by omega, ru2, rv2, fun q hq => gu q (by simp [hq]), hgo, gw2, h02⟩, ?_⟩
      obtain ⟨_, _, _, mL⟩ := hL
      rw [ru1.rank_mod mL fun e => by have := (hF1 c e).1; have := cx.bc; have := cx.c2; omega]
      exact hrk
  | cons o v =>
    rw [decide_eq_false (by simp)]
    refine condK_t ?_
    have ho := gv o (by simp)
    have hlo := hT2 (show o ∈ o :: v by simp)
    have op := GoodK.opk ho (by omega)
    refine callK_mono (rkind_ok rv) ?_
    rintro _ _ ⟨rfl, rfl⟩
    rename World => W
    rw [eqK_i]
    refine condK_p (fun k2 => ?_) fun k2 => ?_
    · -- an insert of the second one
      rw [go_ins op k2] at hgo
      refine callK_mono (rtake_ok rv (n := 536870912) (by decide) (by decide)) ?_
      rintro _ W1 ⟨r, o', v', rfl, hr, rv1, m1, ⟨e, _⟩ | ⟨o1, v1, e, rfl, rfl, hrk⟩⟩
      · simp at e
      cases e
      have hmin : min 536870912 (lenN o) = lenN o := by omega
      rw [hmin, headO_all op] at hr
      rw [hmin, behind_all] at rv1
      obtain ⟨hm1, hF1, ru1, gw1, h01⟩ := cx.tookY hm hF m1 ru g h0
      rw [total_cons] at htt
      refine callK_mono (tell_ok hm1 hr (fun z hz e => nF hF1 z (cx.y z (.inr hz)) e) hs ho (by omega)) ?_
      rintro _ W2 hL
      obtain ⟨⟨F2, hm2, hF2⟩, ru2, rv2, gw2, h02⟩ := cx.after hF1 hL ru1 rv1 gw1 h01
      refine ⟨⟨u, v, stepS s o, F2, t + lenN o, rfl, hm2, hF2, good_step hs ho (by omega), by omega, ru2, rv2, gu, fun q hq => gv q (by simp [hq]), hgo, gw2, h02⟩, ?_⟩
      obtain ⟨_, _, _, mL⟩ := hL
      rw [ru1.rank_mod mL fun e => by have := (hF1 c e).1; have := cx.bc; have := cx.c2; omega, rv1.rank_mod mL fun e => by have := (hF1 d e).1; have := cx.bd; have := cx.d2; omega, ru.rank_mod m1 cx.cd]
      omega
    refine callK_mono (rkind_ok ru) ?_
    rintro _ _ ⟨rfl, rfl⟩
    rename World => W
    rw [eqK_i]
    -- what both give together
    have both : ∀ (a : Dop) (n : Nat), 1 ≤ n → n ≤ lenN o → (u = [] ∧ a = ⟨1, n, [], [], []⟩ ∧ n = lenN o ∨ ∃ a1 u1, u = a1 :: u1 ∧ a1.kind ≠ 3 ∧ n = min (lenN a1) (lenN o) ∧ a = headO n a1) →
        GoodK ks a ∧ lenN a = n ∧ a.kind ≠ 3 ∧ goC ks (bothS ks s a (headO n o)) (behind n u) (behind n (o :: v)) = goC ks MkS.z x y ∧ total (behind n u) + total (behind n (o :: v)) + n ≤ total u + total (o :: v) := by
      intro a n hn1 hn2 hc
      have tv := total_behind (x := v) hn2
      rcases hc with ⟨rfl, rfl, rfl⟩ | ⟨a1, u1, rfl, k3, hmin, rfl⟩
      · refine ⟨.inl ⟨rfl, rfl, rfl, by simp only; omega, patK_nil⟩, by simp [lenN], by simp, ?_, ?_⟩
        · rw [go_none op k2] at hgo
          rw [headO_all op, behind_all]; exact hgo
        · simp only [behind] at tv ⊢; omega
      · have ga := gu a1 (by simp)
        have hla := hT2 (show a1 ∈ a1 :: u1 by simp)
        have na : n ≤ lenN a1 := by omega
        have tu := total_behind (x := u1) na
        refine ⟨good_head ga hn1 na, headO_len na, by rw [headO_kind]; exact k3, ?_, by omega⟩
        rw [go_both (GoodK.opk ga (by omega)) op k3 k2 hmin] at hgo
        exact hgo
    -- the step
    have step : (∀ a1 u1, u = a1 :: u1 → a1.kind ≠ 3) → callK Tryz.prog 146 [.pointer (some ⟨c, 0, none⟩)] (fun t48 w14 => callK Tryz.prog 146 [.pointer (some ⟨d, 0, none⟩)] (fun t50 w15 => minK .i64 t48 t50 fun t51 =>
        callK Tryz.prog 145 [.pointer (some ⟨c, 0, none⟩), t51] (fun t56 w16 => callK Tryz.prog 145 [.pointer (some ⟨d, 0, none⟩), t51] (fun t59 w17 => callK Tryz.prog 147 [sv, .pointer (some ⟨b, 0, none⟩), t56, t59] (fun _ W' =>
          (∃ (u v : List Dop) (s : MkS) (F : Nat → Prop) (t : Nat), ([] : List Value) = [] ∧ MkI F W' b s ∧ Fof w4 W' b F ∧ GoodM (SetK ks) (PatK ks) s t ∧ t + total u + total v ≤ total x + total y ∧ RdI Sx Dx W' c u ∧ RdI Sy Dy W' d v ∧ (∀ o ∈ u, GoodK ks o) ∧ (∀ o ∈ v, GoodK ks o) ∧ goC ks s u v = goC ks MkS.z x y ∧ Grow w W' ∧ w4.heap.size ≤ W'.heap.size) ∧ rank W' c + rank W' d < rank W c + rank W d) w17) w16) w15) w14) W := by
      intro hk3
      refine callK_mono (rlong_ok ru) ?_
      rintro _ W1 ⟨rfl, g1'⟩
      have rv1 := rv.mod g1' (fun h => h) (fun _ _ h => h) fun _ _ h => h
      refine callK_mono (rlong_ok rv1) ?_
      rintro _ W2 ⟨rfl, g2'⟩
      have g12' := g1'.trans g2'
      have ru2 := ru.mod g12' (fun h => h) (fun _ _ h => h) fun _ _ h => h
      have rv2 := rv.mod g12' (fun h => h) (fun _ _ h => h) fun _ _ h => h
      obtain ⟨hm2, hF2⟩ := Cx.grew hm hF g12'
      have g02 := g.trans g12'
      have h02 : w4.heap.size ≤ W2.heap.size := Nat.le_trans h0 g12'.size
      have ek1 : rank W2 c = rank W c := ru.rank_mod g12' fun h => h
      have ek2 : rank W2 d = rank W d := rv.rank_mod g12' fun h => h
      rw [minK_i]
      obtain ⟨n, hn⟩ : ∃ n : Nat, n = min (longH u) (lenN o) := ⟨_, rfl⟩
      have en : (if ((longH (o :: v) : Nat) : Int) < ((longH u : Nat) : Int) then ((longH (o :: v) : Nat) : Int) else ((longH u : Nat) : Int)) = (n : Int) := by
        rw [longH_cons]
        split <;> omega
      rw [en]
      have hpos := op.pos
      have hn1 : 1 ≤ n := by
        cases u with
        | nil => rw [longH_nil, Nat.min_eq_right op.le] at hn; rw [hn]; exact hpos
        | cons a u1 => have := (GoodK.m (gu a (by simp))).2; rw [longH_cons] at hn; omega
      have hn2 : n ≤ lenN o := by omega
      refine callK_mono (rtake_ok ru2 (n := n) hn1 (by omega)) ?_
      rintro _ W3 ⟨r, a, u', rfl, hr, ru3, m3, hcase⟩
      obtain ⟨hm3, hF3, rv3, g03, h03⟩ := cx.tookX hm2 hF2 m3 rv2 g02 h02
      refine callK_mono (rtake_ok rv3 (n := n) hn1 (by omega)) ?_
      rintro _ W4 ⟨r2, o2, v2, rfl, hr2, rv4, m4, ⟨e, _⟩ | ⟨o1, v1, e, rfl, rfl, hrk⟩⟩
      · simp at e
      cases e
      have hmin2 : min n (lenN o) = n := by omega
      rw [hmin2] at hr2 rv4
      obtain ⟨hm4, hF4, ru4, g04', h04⟩ := cx.tookY hm3 hF3 m4 ru3 g03 h03
      have hca : (u = [] ∧ a = ⟨1, n, [], [], []⟩ ∧ n = lenN o ∨ ∃ a1 u1, u = a1 :: u1 ∧ a1.kind ≠ 3 ∧ n = min (lenN a1) (lenN o) ∧ a = headO n a1) ∧ u' = behind n u ∧ rank W3 c ≤ rank W2 c := by
        rcases hcase with ⟨hu, ha, hu', hrk'⟩ | ⟨a1, u1, hu, ha, hu', hrk'⟩
        · subst hu
          rw [longH_nil, Nat.min_eq_right op.le] at hn
          exact ⟨.inl ⟨rfl, ha, by omega⟩, hu', by omega⟩
        · subst hu
          rw [longH_cons] at hn
          have hmin3 : min n (lenN a1) = n := by omega
          rw [hmin3] at ha hu'
          exact ⟨.inr ⟨a1, u1, rfl, hk3 _ _ rfl, hn, ha⟩, hu', by omega⟩
      obtain ⟨hca1, rfl, hrk3⟩ := hca
      obtain ⟨ga, la, ka, hgo', htot⟩ := both a n hn1 hn2 hca1
      have gho := good_head ho hn1 hn2
      have hr4 : RDop Dx W4 r a := hr.mod m4 (fun z _ hz e => by have := cx.x z (.inr hz); have := cx.d1; omega) fun _ _ h => h
      have hS4 : SchR (fun z => E z ∧ z < w.heap.size) W4 sv ks := hE.grow g04'
      refine callK_mono (both_ok h64 hS4 (fun z hz e => nF hF4 z hz.2 e) hm4 (fun z hz => (hF4 z hz).2) hr4 (fun z hz e => nF hF4 z (cx.x z (.inr hz)) e) hr2 (fun z hz e => nF hF4 z (cx.y z (.inr hz)) e) hs ga gho (by omega) (by rw [la, headO_len hn2]) (by rw [headO_kind]; exact k2)) ?_
      rintro _ W5 hL
      obtain ⟨⟨F5, hm5, hF5⟩, ru5, rv5, g05, h05⟩ := cx.after hF4 hL ru4 rv4 g04' h04
      refine ⟨⟨behind n u, behind n (o :: v), _, F5, t + n, rfl, hm5, hF5, good_both h64 hs ga gho la (headO_len hn2) (by rw [headO_kind]; exact k2) ka hn1 (by omega), by omega, ru5, rv5, good_behind gu, good_behind gv, hgo', g05, h05⟩, ?_⟩
      obtain ⟨_, _, _, mL⟩ := hL
      have e1 : rank W5 c = rank W3 c := by rw [ru4.rank_mod mL fun e => by have := (hF4 c e).1; have := cx.bc; have := cx.c2; omega, ru3.rank_mod m4 cx.cd]
      have e2 : rank W5 d = rank W4 d := rv4.rank_mod mL fun e => by have := (hF4 d e).1; have := cx.bd; have := cx.d2; omega
      have e3 : rank W3 d = rank W2 d := rv2.rank_mod m3 fun e => cx.cd e.symm
      omega
    cases u with
    | nil => exact condK_p (fun e => by simp [kindH] at e) fun _ => step fun a1 u1 e => by simp at e
    | cons a u =>
      refine condK_p (fun k3 => ?_) fun k3 => step fun a1 u1 e => by cases e; exact k3
      -- a delete of the first one
      have ga := gu a (by simp)
      have hla := hT2 (show a ∈ a :: u by simp)
      have oa := GoodK.opk ga (by omega)
      rw [go_del oa op k3 k2] at hgo
      refine callK_mono (rtake_ok ru (n := 536870912) (by decide) (by decide)) ?_
      rintro _ W1 ⟨r, o', u', rfl, hr, ru1, m1, ⟨e, _⟩ | ⟨o1, u1, e, rfl, rfl, hrk⟩⟩
      · simp at e
      cases e
      have hmin : min 536870912 (lenN a) = lenN a := by omega
      rw [hmin, headO_all oa] at hr
      rw [hmin, behind_all] at ru1
      obtain ⟨hm1, hF1, rv1, gw1, h01⟩ := cx.tookX hm hF m1 rv g h0
      rw [total_cons a u] at htt
      refine callK_mono (tell_ok hm1 hr (fun z hz e => nF hF1 z (cx.x z (.inr hz)) e) hs ga (by omega)) ?_
      rintro _ W2 hL
      obtain ⟨⟨F2, hm2, hF2⟩, ru2, rv2, gw2, h02⟩ := cx.after hF1 hL ru1 rv1 gw1 h01
      refine ⟨⟨u, o :: v, stepS s a, F2, t + lenN a, rfl, hm2, hF2, good_step hs ga (by omega), by omega, ru2, rv2, fun q hq => gu q (by simp [hq]), gv, hgo, gw2, h02⟩, ?_⟩
      obtain ⟨_, _, _, mL⟩ := hL
      rw [ru1.rank_mod mL fun e => by have := (hF1 c e).1; have := cx.bc; have := cx.c2; omega, rv1.rank_mod mL fun e => by have := (hF1 d e).1; have := cx.bd; have := cx.d2; omega, rv.rank_mod m1 fun e => cx.cd e.symm]
      omega
end
end Go.Proofs.YtlbaopamhkmepaaGreatDoor

namespace Go.Proofs.YtlbaopamhkmepaaGreatDoor
open Go Go.K

/-- a group of deltas that may be, of at most so many cells -/
def GoodG (ks : List DKey) (T : Nat) (g : Grp) : Prop := (∀ o ∈ g.d, GoodK ks o ∧ InO o) ∧ (∀ o ∈ g.u, GoodK ks o ∧ InO o) ∧ total g.d ≤ T ∧ total g.u ≤ T
/-- the bracket's group with one more behind it -/
def withL (ks : List DKey) (own : List Grp) (g : Grp) : Grp := match own with
  | [] => g
  | a :: _ => ⟨cmpD ks a.d g.d, cmpD ks g.u a.u⟩
theorem GoodG.m {ks : List DKey} {T : Nat} {g : Grp} (h : GoodG ks T g) (hT : T ≤ 16777216) : mDops g.d ≤ 1099511627776 ∧ mDops g.u ≤ 1099511627776 := by
  have h1 := good_m fun o ho => (h.1 o ho).1
  have h2 := good_m fun o ho => (h.2.1 o ho).1
  have := h.2.2.1
  have := h.2.2.2
  omega
theorem GoodG.with {ks : List DKey} {T T' : Nat} {own : List Grp} {g : Grp} (h64 : ks.length ≤ 64) (h : GoodG ks T g) (ho : ∀ a ∈ own, GoodG ks T' a) (hT : T + T' ≤ 16777216) : GoodG ks (T + T') (withL ks own g) := by
  cases own with
  | nil => exact ⟨h.1, h.2.1, by have := h.2.2.1; show total g.d ≤ T + T'; omega, by have := h.2.2.2; show total g.u ≤ T + T'; omega⟩
  | cons a r =>
    have ha := ho a (by simp)
    have e1 := h.2.2.1
    have e2 := h.2.2.2
    have e3 := ha.2.2.1
    have e4 := ha.2.2.2
    have c1 := cmp_good h64 (fun o ho => (ha.1 o ho).1) (fun o ho => (h.1 o ho).1) (by omega)
    have c2 := cmp_good h64 (fun o ho => (h.2.1 o ho).1) (fun o ho => (ha.2.1 o ho).1) (by omega)
    exact ⟨fun o ho => ⟨c1.1 o ho, cmp_in h64 ha.1 h.1 (by omega) o ho⟩, fun o ho => ⟨c2.1 o ho, cmp_in h64 h.2.1 ha.2.1 (by omega) o ho⟩, by show total (cmpD ks a.d g.d) ≤ T + T'; omega, by show total (cmpD ks g.u a.u) ≤ T + T'; omega⟩
section
variable {F C C' : Nat → Prop} {W : World} {b T T' : Nat} {sv uv rv ov dv uu : Value} {ks : List DKey} {mx : Nat} {us rs own : List Grp} {op : Bool} {g : Grp}
set_option maxRecDepth 20000 in
theorem with_ok (hR : HistR F C W b sv ks uv rv ov mx us rs op own) (hg : RGrp C' W [dv, uu] g) (h1 : own.length ≤ 1) (h64 : ks.length ≤ 64) (hT : Tabs W) (gg : GoodG ks T g) (go : ∀ a ∈ own, GoodG ks T' a) (hb : T + T' ≤ 16777216) :
    callK Tryz.prog 50 [.pointer (some ⟨b, 0, none⟩), .agg #[dv, uu]] (fun v' w' => ∃ dv' uu', v' = .tuple #[.agg #[dv', uu'], .int .i64 0] ∧ RGrp (fun z => C' z ∨ W.heap.size ≤ z ∧ z < w'.heap.size) w' [dv', uu'] (withL ks own g) ∧ Grow W w') W := by
  apply S50_ok
  unfold S50
  refine boxn_i (vs := [dv, uu]) fun b3 w1 hb3 hz1 g1 hc1 _ => ?_
  refine newz_i fun b4 w2 hb4 hz2 g2 _ hl2 => ?_
  have g12 := g1.trans g2
  have hR2 := hR.grow g12
  have hr1 := hg.one
  refine nilckK_s ?_
  rw [faK_i, addr0]
  refine ld1K_i (hR2.cells 6 _ rfl) ?_
  obtain ⟨oa, oc, rfl, _⟩ := hR2.own.shape
  rw [lenK_i, eqK_i]
  refine condK_p (fun h0 => ?_) fun h0 => ?_
  · have e0 : own = [] := List.eq_nil_of_length_eq_zero (by omega)
    subst e0
    refine ldnK_i (vs := [dv, uu]) rfl (fun j u hu => g2.cell (hc1 j u hu) fun h => h) ?_
    refine stn_over (vs := [dv, uu]) rfl hr1 (fun j hj => hl2 j hj) fun w3 m3 hc3 _ => ?_
    refine ldnK_i (vs := [dv, uu]) rfl hc3 ?_
    refine ⟨dv, uu, rfl, ?_, g12.next m3 fun x hx e => by omega⟩
    exact hg.to (g12.next m3 fun x hx e => by omega : Grow W w3) (fun _ _ _ h => h) fun _ _ h => .inl h
  obtain ⟨a, rfl⟩ : ∃ a, own = [a] := by
    match own, h1, h0 with
    | [], _, h0 => simp at h0
    | [a], _, _ => exact ⟨a, rfl⟩
    | _ :: _ :: _, h1, _ => simp at h1
  have ga := go a (by simp)
  have gd : Grow w2 w2.drew := Mod.drew _ _
  have hR3 := hR2.grow gd
  have c3 : ∀ j u, ([dv, uu] : List Value)[j]? = some u → w2.drew.cell? ((⟨b3, 0, none⟩ : Addr).add j) = some u := fun j u hu => (g2.trans gd).cell (hc1 j u hu) fun h => h
  obtain ⟨p, r, rfl, _, hr2, hcr, da, ua, rfl, hda, hua⟩ := hR3.own.get (i := 0) (by simp)
  have hda' : RDops C C w2.drew da a.d := hda
  have hua' : RDops C C w2.drew ua a.u := hua
  obtain ⟨dv0, uu0, e0, hd0, hu0⟩ := hg
  cases e0
  have e1 := gg.2.2.1
  have e2 := gg.2.2.2
  have e3 := ga.2.2.1
  have e4 := ga.2.2.2
  have g3 := g12.trans gd
  refine drawC_i (fun _ _ => False) ?_
  refine nilckK_s ?_
  rw [faK_i, addr0]
  refine sld1_i ⟨hR3.cells 0 _ rfl, fun _ _ h => h⟩ ?_
  refine nilckK_s ?_
  rw [faK_i, addr0]
  refine sld1_i ⟨hR3.cells 6 _ rfl, fun _ _ h => h⟩ ?_
  refine ixK_n (j := 0) (by simp) ?_
  rw [faK_i, Addr.add_add]
  refine sld1_i ⟨hcr 0 _ rfl, fun _ _ h => h⟩ ?_
  rw [faK_i]
  refine sld1_i ⟨c3 0 _ rfl, fun _ _ h => h⟩ ?_
  refine callK_mono (compose_ok h64 hR3.sch hda' (hd0.grow g3) (hT.grow g3) ga.1 gg.1 (by omega)) ?_
  rintro _ w4 ⟨zd, rfl, od, g4⟩
  refine ⟨g4, extK_i (vs := [_, _]) (by rfl) (extK_i (vs := [_, _]) (by rfl) ?_)⟩
  rw [neK_i]
  refine condK_neg (fun _ => ?_) fun e => (e rfl).elim
  have gd2 : Grow w4 w4.drew := Mod.drew _ _
  have g34 := g4.trans gd2
  have hR4 := hR3.grow g34
  refine drawC_i (fun _ _ => False) ?_
  refine nilckK_s ?_
  rw [faK_i, addr0]
  refine sld1_i ⟨hR4.cells 0 _ rfl, fun _ _ h => h⟩ ?_
  rw [faK_i]
  refine sld1_i ⟨g34.cell (c3 1 _ rfl) fun h => h, fun _ _ h => h⟩ ?_
  refine nilckK_s ?_
  rw [faK_i, addr0]
  refine sld1_i ⟨hR4.cells 6 _ rfl, fun _ _ h => h⟩ ?_
  refine ixK_n (j := 0) (by simp) ?_
  rw [faK_i, Addr.add_add]
  refine sld1_i ⟨g34.cell (hcr 1 _ rfl) fun h => h, fun _ _ h => h⟩ ?_
  refine callK_mono (compose_ok h64 hR4.sch (hu0.grow (g3.trans g34)) (hua'.grow g34) (hT.grow (g3.trans g34)) gg.2.1 ga.2.1 (by omega)) ?_
  rintro _ w5 ⟨zu, rfl, ou, g5⟩
  refine ⟨g5, extK_i (vs := [_, _]) (by rfl) (extK_i (vs := [_, _]) (by rfl) ?_)⟩
  obtain ⟨ca, cc, ecd, _⟩ := (ODops.sl od).shape
  obtain ⟨ca', cc', ecu, _⟩ := (ODops.sl ou).shape
  refine ⟨#[zd, zu], by rw [ecd, ecu]; kernel_rfl, ?_⟩
  have z12 := g12.size
  have z3 : w2.drew.heap.size = w2.heap.size := rfl
  have z34 := g34.size
  have z4 := g4.size
  have z5 := g5.size
  have g35 := g34.trans g5
  refine stn_over (vs := [zd, zu]) rfl (fun u hu => by simp at hu; rcases hu with rfl | rfl; rw [ecd]; rfl; rw [ecu]; rfl) (fun j hj => ((hl2 j hj).mod gd fun h => h).mod g35 fun h => h) fun w6 m6 hc6 _ => ?_
  refine ldnK_i (vs := [zd, zu]) rfl hc6 ?_
  have z6 := m6.size
  have g06 : Grow W w6 := (g3.trans g35).next m6 fun x hx e => by omega
  have hb4' : b4 < w2.drew.heap.size := by omega
  refine ⟨zd, zu, rfl, ⟨zd, zu, rfl, ?_, ?_⟩, g06⟩
  · exact ((ODops.reads od).to (gd2.trans g5) (fun _ _ _ h => h) (fun _ _ _ h => h) (fun _ _ h => h) fun _ _ h => h).to m6 (fun x _ hx e => by have := hx.1; omega) (fun x _ hx e => by have := hx.1; omega) (fun x _ hx => .inr ⟨by have := hx.1; omega, by have := hx.2; omega⟩) fun x _ hx => .inr ⟨by have := hx.1; omega, by have := hx.2; omega⟩
  · exact (ODops.reads ou).to m6 (fun x _ hx e => by have := hx.1; have := gd2.size; omega) (fun x _ hx e => by have := hx.1; have := gd2.size; omega) (fun x _ hx => .inr ⟨by have := hx.1; have := gd2.size; omega, by have := hx.2; omega⟩) fun x _ hx => .inr ⟨by have := hx.1; have := gd2.size; omega, by have := hx.2; omega⟩
end
section
variable {F C M : Nat → Prop} {W W' : World} {b T T' : Nat} {ks : List DKey} {h : Hist}
/-- Push, within a bracket -/
theorem push2_ok {S D S' D' : Nat → Prop} {dv uu : Value} {x y : List Dop} (hh : HistI F W b ks h) (hop : h.op = true) (h1 : h.own.length ≤ 1) (h64 : ks.length ≤ 64) (hT : Tabs W) (hd : RDops S D W dv x) (hu : RDops S' D' W uu y) (gg : GoodG ks T ⟨x, y⟩) (go : ∀ a ∈ h.own, GoodG ks T' a) (hb : T + T' ≤ 16777216) (hF : ∀ z, F z → z < W.heap.size) :
    callK Tryz.prog 18 [.pointer (some ⟨b, 0, none⟩), dv, uu] (fun v' w' => v' = .int .i64 0 ∧ HAfter F W w' b ks { h with own := [withL ks h.own ⟨x, y⟩], rs := [] }) W := by
  apply S18_ok
  unfold S18
  refine callK_mono (hready_ok hh) ?_
  rintro _ _ ⟨rfl, rfl⟩
  rename World => W
  obtain ⟨C, sv, uv, rv, ov, hR⟩ := hh
  obtain ⟨bx, by'⟩ := gg.m (by omega)
  rw [notK_i]
  refine condK_f ?_
  refine callK_mono (copy_dops hd bx) ?_
  rintro cv w2 ⟨o2, g2⟩
  refine callK_mono (copy_dops (hu.grow g2) by') ?_
  rintro cu w3 ⟨o3, g3⟩
  have g23 := g2.trans g3
  obtain ⟨ca, cc, ecv, _⟩ := (ODops.sl o2).shape
  obtain ⟨ca', cc', ecu, _⟩ := (ODops.sl o3).shape
  refine ⟨#[cv, cu], by rw [ecv, ecu]; kernel_rfl, ?_⟩
  refine newst_n (vs := [cv, cu]) rfl rfl (fun u hu => by simp at hu; rcases hu with rfl | rfl; rw [ecv]; rfl; rw [ecu]; rfl) fun b7 w4 hb7 hz7 g4 hc4 _ => ?_
  have z2 := g2.size
  have z3 := g3.size
  have r2 : RDops (fun z => W.heap.size ≤ z ∧ z < w4.heap.size) (fun z => W.heap.size ≤ z ∧ z < w4.heap.size) w4 cv x := (ODops.reads o2).to (g3.trans g4) (fun _ _ _ h => h) (fun _ _ _ h => h) (fun z _ hz => ⟨hz.1, by omega⟩) fun z _ hz => ⟨hz.1, by omega⟩
  have r3 : RDops (fun z => W.heap.size ≤ z ∧ z < w4.heap.size) (fun z => W.heap.size ≤ z ∧ z < w4.heap.size) w4 cu y := (ODops.reads o3).to g4 (fun _ _ _ h => h) (fun _ _ _ h => h) (fun z _ hz => ⟨by omega, by omega⟩) fun z _ hz => ⟨by omega, by omega⟩
  have hg : RGrp (fun z => W.heap.size ≤ z ∧ z < w4.heap.size) w4 [cv, cu] ⟨x, y⟩ := ⟨cv, cu, rfl, r2, r3⟩
  have g04 := g23.trans g4
  have hR4 := hR.grow g04
  refine JoinK_i (fun _ w6 => ∃ F' C' ov', (∀ z, F' z → F z ∨ W.heap.size ≤ z ∧ z < w6.heap.size) ∧ HistR F' C' w6 b sv ks uv rv ov' h.max h.us h.rs h.op [withL ks h.own ⟨x, y⟩] ∧ Mod F W w6) ?_ ?_
  · rintro _ w6 ⟨F', C', ov', hF', hR6, m6⟩ _
    refine nilckK_s ?_
    rw [faK_i, addr0]
    refine hR6.setR (F' := F') (M := fun _ => False) (Mod.refl _ _) (fun _ h => h.elim) (fun _ h => h) (.inl OwnR.nil) (fun g hg => nomatch hg) fun w7 hR7 m7 => ⟨rfl, F', fun z hz => ?_, ⟨_, sv, uv, _, ov', hR7⟩, m6.trans (m7.mono fun z _ e => by rw [e]; exact hR.fb.1)⟩
    have := m7.size
    rcases hF' z hz with h | h
    · exact .inl h
    · exact .inr ⟨h.1, by omega⟩
  refine nilckK_s ?_
  rw [faK_i, addr0]
  refine ld1K_i (hR4.cells 5 _ rfl) ?_
  rw [hop]
  refine condK_t ?_
  refine ldnK_i (vs := [cv, cu]) rfl hc4 ?_
  rw [← hop]
  refine callK_mono (with_ok hR4 hg h1 h64 (hT.grow g04) gg go hb) ?_
  rintro _ w5 ⟨dv', uu', rfl, hg5, g5⟩
  refine extK_i (vs := [_, _]) (by rfl) (extK_i (vs := [_, _]) (by rfl) ?_)
  have z4 := g04.size
  have z5 := g5.size
  refine newst_n (vs := [dv', uu']) rfl rfl hg5.one fun b8 w6 hb8 hz8 g6 hc6 _ => ?_
  rw [neK_i]
  refine condK_neg (fun _ => ?_) fun e => (e rfl).elim
  refine ldnK_i (vs := [dv', uu']) rfl hc6 ?_
  have hg6 := hg5.to (C' := fun z => W.heap.size ≤ z ∧ z < w5.heap.size) g6 (fun _ _ _ h => h) fun z _ hz => by
    rcases hz with hz | hz
    · exact ⟨hz.1, by omega⟩
    · exact ⟨by omega, hz.2⟩
  have shp : ∃ a1 n1 c1 a2 n2 c2, dv' = .slice a1 n1 c1 ∧ uu' = .slice a2 n2 c2 := by
    obtain ⟨d0, u0, e0, q1, q2⟩ := hg6
    cases e0
    obtain ⟨a1, c1, rfl, _⟩ := q1.shape
    obtain ⟨a2, c2, rfl, _⟩ := q2.shape
    exact ⟨_, _, _, _, _, _, rfl, rfl⟩
  refine rowK_i (cs := [dv', uu']) (by obtain ⟨_, _, _, _, _, _, rfl, rfl⟩ := shp; kernel_rfl) ?_
  have g7 : Grow w6 (w6.alloc (.cells [dv', uu'].toArray TGrp)) := Mod.alloc _ _ _
  have z7 : (w6.alloc (.cells [dv', uu'].toArray TGrp)).heap.size = w6.heap.size + 1 := by simp
  have hg7 := hg6.mod g7 fun _ _ _ h => h
  have o7 : OwnR w6.heap.size TGrp 2 (RGrp fun z => W.heap.size ≤ z ∧ z < w5.heap.size) (w6.alloc (.cells [dv', uu'].toArray TGrp)) (.slice (some ⟨w6.heap.size, 0, none⟩) 1 1) [withL ks h.own ⟨x, y⟩] := OwnR.row1 (Nat.le_refl _) rfl hg5.one hg7
  generalize w6.alloc (.cells [dv', uu'].toArray TGrp) = w7 at g7 z7 hg7 o7 ⊢
  have g47 := (g5.trans g6).trans g7
  have z6 := g6.size
  have hR7 := (hR4.grow g47).more (F' := fun z => F z ∨ W.heap.size ≤ z ∧ z < w7.heap.size) (C' := fun z => C z ∨ W.heap.size ≤ z ∧ z < w7.heap.size) (fun _ h => .inl h) (fun _ h => .inl h) (fun z hz => by
    rcases hz with hz | hz
    · have := hR.cf z hz; exact ⟨.inl this.1, by omega, .inl hz⟩
    · exact ⟨.inr hz, hz.2, .inr fun hf => by have := hF z hf; omega⟩)
  refine nilckK_s ?_
  rw [faK_i, addr0]
  have osl : SlR (fun z => C z ∨ W.heap.size ≤ z ∧ z < w7.heap.size) 2 (RGrp fun z => C z ∨ W.heap.size ≤ z ∧ z < w7.heap.size) w7 (.slice (some ⟨w6.heap.size, 0, none⟩) 1 1) [withL ks h.own ⟨x, y⟩] :=
    SlR.sub (OwnR.sl o7) (fun z hz h => .inr ⟨by have := h.1; omega, hz⟩) (by decide) fun r g hg => hg.to (Mod.refl (fun _ => False) _) (fun _ _ _ h => h) fun z _ hz => .inr ⟨hz.1, by omega⟩
  refine hR7.setOwn osl fun w8 hR8 m8 => ⟨_, _, _, fun z hz => ?_, hR8, ?_⟩
  · have := m8.size
    rcases hz with hz | hz
    · exact .inl hz
    · exact .inr ⟨hz.1, by omega⟩
  · exact ((g04.trans g47).mono fun _ _ e => e.elim : Mod F W w7).trans (m8.mono fun z _ e => by rw [e]; exact hR.fb.1)
/-- the bracket's group, if there is one, kept -/
def endL (mx : Nat) (us own : List Grp) : List Grp := match own with
  | [] => us
  | g :: _ => keepL mx us g
/-- End -/
theorem end_ok (hh : HistI F W b ks h) (h1 : h.own.length ≤ 1) (hl : h.us.length ≤ h.max) (hmx : h.max ≤ 65536) :
    callK Tryz.prog 29 [.pointer (some ⟨b, 0, none⟩)] (fun v' w' => (h.op = false ∧ v' = .int .i64 9 ∧ w' = W) ∨ (h.op = true ∧ v' = .int .i64 0 ∧ HAfter F W w' b ks { h with us := endL h.max h.us h.own, op := false, own := [] })) W := by
  apply S29_ok
  unfold S29
  refine callK_mono (hready_ok hh) ?_
  rintro _ _ ⟨rfl, rfl⟩
  rename World => W
  obtain ⟨C, sv, uv, rv, ov, hR⟩ := hh
  rw [notK_i]
  refine condK_f (nilckK_s ?_)
  rw [faK_i, addr0]
  refine ld1K_i (hR.cells 5 _ rfl) ?_
  rw [notK_i]
  cases hop : h.op with
  | false => exact condK_t (.inl ⟨rfl, rfl, rfl⟩)
  | true =>
    rw [hop] at hR
    refine condK_f (nilckK_s ?_)
    rw [faK_i, addr0]
    refine ld1K_i (hR.cells 6 _ rfl) ?_
    obtain ⟨oa, oc, rfl, _⟩ := hR.own.shape
    rw [lenK_i]
    refine LoopK_i (fun vs W1 => ∃ (i : Nat) (F' : Nat → Prop) (uv' : Value), i ≤ h.own.length ∧ vs = [.int .i64 i] ∧ (∀ x, F' x → F x ∨ W.heap.size ≤ x ∧ x < W1.heap.size) ∧ HistR F' C W1 b sv ks uv' rv (.slice oa h.own.length oc) h.max (endL h.max h.us (h.own.take i)) h.rs true h.own ∧ Mod F W W1) (fun vs _ => h.own.length - iOf vs 0)
      ⟨0, F, uv, Nat.zero_le _, rfl, fun _ h => .inl h, hR, Mod.refl _ _⟩ ?_
    rintro vs W1 ⟨i, F', uv', hi, rfl, hF', hR1, m1⟩ _
    rw [nth_z, List.headD_cons, ltK_i]
    refine condK_p (fun hlt => ?_) fun hge => ?_
    · have hlt' : i < h.own.length := by omega
      obtain rfl : i = 0 := by omega
      obtain ⟨p, r, rfl, _, hr, hc, hg⟩ := hR1.own.get hlt'
      refine ixK_n (j := 0) (by omega) (ldnK_i hr (fun j u hu => by rw [Addr.add_add]; exact hc j u hu) ?_)
      refine newst_n hr rfl hg.one fun b4 W2 hb4 hz4 g4 hc4 _ => ?_
      refine ldnK_i hr hc4 ?_
      obtain ⟨dv, uu, rfl, q1, q2⟩ := id hg
      refine callK_mono (keep_ok (hR1.grow g4) hl hmx (hg.mod g4 fun _ _ _ h => h)) ?_
      rintro _ W3 ⟨F3, uv3, hF3, hR3, m3⟩
      rw [addK_i, loop_step (by omega)]
      have z1 := m1.size
      have z4 := g4.size
      have z3 := m3.size
      refine ⟨⟨1, F3, uv3, hlt', rfl, fun x hx => ?_, ?_, (m1.next g4 fun _ _ e => e.elim).next m3 fun x hx e => ?_⟩, by rw [iOf0, iOf0]; omega⟩
      · rcases hF3 x hx with e | e
        · rcases hF' x e with e | e
          · exact .inl e
          · exact .inr ⟨e.1, by omega⟩
        · exact .inr ⟨by omega, e.2⟩
      · have e1 : h.own.take 1 = [h.own[0]] := by rw [List.take_add_one, List.getElem?_eq_getElem hlt']; rfl
        rw [e1]
        exact hR3
      · rcases hF' x e with e | e
        · exact e
        · omega
    · obtain rfl : i = h.own.length := by omega
      rw [List.take_length] at hR1
      refine nilckK_s ?_
      rw [faK_i, addr0]
      refine hR1.setOp fun W2 hR2 m2 => nilckK_s ?_
      rw [faK_i, addr0]
      refine hR2.setOwn SlR.nil fun W3 hR3 m3 => .inr ⟨rfl, rfl, F', fun x hx => ?_, ⟨C, sv, uv', rv, _, hR3⟩, m1.trans ((m2.trans m3).mono fun x _ e => by rw [e]; exact hR.fb.1)⟩
      have := m2.size
      have := m3.size
      rcases hF' x hx with e | e
      · exact .inl e
      · exact .inr ⟨e.1, by omega⟩
end
section
variable {w0 W : World} {F : Nat → Prop} {b T T' : Nat} {ks : List DKey} {h : Hist}
theorem HL.push2 {S D S' D' : Nat → Prop} {dv uu : Value} {x y : List Dop} (hh : HL w0 F W b ks h) (hop : h.op = true) (h1 : h.own.length ≤ 1) (h64 : ks.length ≤ 64) (hT : Tabs w0) (hd : RDops S D W dv x) (hu : RDops S' D' W uu y) (gg : GoodG ks T ⟨x, y⟩) (go : ∀ a ∈ h.own, GoodG ks T' a) (hb : T + T' ≤ 16777216) :
    callK Tryz.prog 18 [.pointer (some ⟨b, 0, none⟩), dv, uu] (fun v' w' => v' = .int .i64 0 ∧ ∃ F', HL w0 F' w' b ks { h with own := [withL ks h.own ⟨x, y⟩], rs := [] } ∧ (∀ x, F' x → F x ∨ W.heap.size ≤ x) ∧ Mod F W w') W :=
  callK_mono (push2_ok hh.his hop h1 h64 (hT.grow hh.g) hd hu gg go hb fun x hx => (hh.hF x hx).2) fun _ _ h' => ⟨h'.1, hh.after h'.2⟩
theorem HL.begin (hh : HL w0 F W b ks h) (hop : h.op = false) :
    callK Tryz.prog 27 [.pointer (some ⟨b, 0, none⟩)] (fun v' w' => v' = .int .i64 0 ∧ ∃ F', HL w0 F' w' b ks { h with op := true, own := [] } ∧ (∀ x, F' x → F x ∨ W.heap.size ≤ x) ∧ Mod F W w') W :=
  callK_mono (begin_ok hh.his) fun _ _ h' => by
    rcases h' with ⟨e, _⟩ | ⟨_, e, ha⟩
    · rw [hop] at e; cases e
    · exact ⟨e, hh.after ha⟩
theorem HL.end (hh : HL w0 F W b ks h) (hop : h.op = true) (h1 : h.own.length ≤ 1) (hl : h.us.length ≤ h.max) (hmx : h.max ≤ 65536) :
    callK Tryz.prog 29 [.pointer (some ⟨b, 0, none⟩)] (fun v' w' => v' = .int .i64 0 ∧ ∃ F', HL w0 F' w' b ks { h with us := endL h.max h.us h.own, op := false, own := [] } ∧ (∀ x, F' x → F x ∨ W.heap.size ≤ x) ∧ Mod F W w') W :=
  callK_mono (end_ok hh.his h1 hl hmx) fun _ _ h' => by
    rcases h' with ⟨e, _⟩ | ⟨_, e, ha⟩
    · rw [hop] at e; cases e
    · exact ⟨e, hh.after ha⟩
end
end Go.Proofs.YtlbaopamhkmepaaGreatDoor

namespace Go.Proofs.YtlbaopamhkmepaaGreatDoor
open Go Go.K
section
variable {F C : Nat → Prop} {W : World} {b : Nat} {sv uv rv ov : Value} {ks : List DKey} {mx : Nat} {us rs own : List Grp}
theorem move_open {q : Nat} {v2 : Value} {a : Option Addr} {n c : Nat} (h : HistR F C W b sv ks uv rv ov mx us rs true own) (hq : W.cell? ⟨b, q, none⟩ = some (.slice a n c)) :
    callK Tryz.prog 52 [.pointer (some ⟨b, 0, none⟩), .pointer (some ⟨b, q, none⟩), v2] (fun v' w' => v' = .tuple #[.agg #[.slice none 0 0, .slice none 0 0], .int .i64 9] ∧ Grow W w') W := by
  apply S52_ok
  unfold S52
  refine newz_i fun b6 w1 hb6 hz1 g1 _ hl6 => ?_
  have hR1 := h.grow g1
  refine nilckK_s ?_
  refine ld1K_i (g1.cell hq fun h => h) ?_
  rw [lenK_i, subK_i]
  refine nilckK_s ?_
  rw [faK_i, addr0]
  refine ld1K_i (hR1.cells 5 _ rfl) ?_
  refine condK_t ⟨#[.slice none 0 0, .slice none 0 0], by kernel_rfl, ?_⟩
  refine stn_over (vs := [.slice none 0 0, .slice none 0 0]) rfl (fun u hu => by simp at hu; subst hu; rfl) (fun j hj => hl6 j hj) fun W'' m hc _ => ?_
  exact ldnK_i rfl hc ⟨rfl, g1.next m fun x hx e => by omega⟩
theorem stk_slice (h : StkR TGrp 2 (RGrp C) W uv us) : ∃ a n c, uv = .slice a n c := by
  obtain ⟨a, c, e, _⟩ := h.sl (by decide)
  exact ⟨a, _, c, e⟩
end
section
variable {F : Nat → Prop} {W : World} {b : Nat} {ks : List DKey} {h : Hist}
theorem undo_open (hh : HistI F W b ks h) (hop : h.op = true) :
    callK Tryz.prog 19 [.pointer (some ⟨b, 0, none⟩)] (fun v' w' => ∃ cv, v' = .tuple #[cv, .int .i64 9] ∧ Grow W w') W := by
  apply S19_ok
  unfold S19
  refine callK_mono (hready_ok hh) ?_
  rintro _ _ ⟨rfl, rfl⟩
  rename World => W
  obtain ⟨C, sv, uv, rv, ov, hR⟩ := hh
  rw [hop] at hR
  obtain ⟨ua, un, uc, rfl⟩ := stk_slice hR.und
  rw [notK_i]
  refine condK_f ?_
  refine JoinK_i (fun vs w2 => ∃ b4, vs = [.pointer (some ⟨b4, 0, none⟩), .int .i64 9] ∧ (∀ j v, ([.slice none 0 0, .slice none 0 0] : List Value)[j]? = some v → w2.cell? ((⟨b4, 0, none⟩ : Addr).add j) = some v) ∧ Grow W w2) ?_ ?_
  · rintro _ w2 ⟨b4, rfl, hc, g2⟩ _
    simp only [nth_s, nth_z, List.headD_cons, List.tail_cons]
    rw [faK_i]
    refine ld1K_i (hc 1 _ rfl) ?_
    refine callK_mono (copy_dops (S := fun _ => False) (D := fun _ => False) (x := []) SlR.nil (by simp [mDops])) ?_
    rintro cv w3 ⟨_, g3⟩
    exact ⟨cv, rfl, g2.trans g3⟩
  have gd : Grow W W.drew := Mod.drew _ _
  have zd : W.drew.heap.size = W.heap.size := rfl
  refine drawC_i (fun k y => k = 12 ∧ W.heap.size ≤ y) ?_
  refine nilckK_s ?_
  rw [faK_i, addr0]
  refine nilckK_s ?_
  rw [faK_i, addr0]
  refine ⟨?_, ?_⟩
  · refine callK_mono (move_open (q := 3) (hR.grow gd) (gd.cell (hR.cells 3 _ rfl) fun h => h)) ?_
    rintro _ w5 ⟨rfl, g5⟩
    refine ⟨g5.mono fun _ _ h => h.elim, ?_⟩
    refine extK_i (vs := [_, _]) (by rfl) (extK_i (vs := [_, _]) (by rfl) ?_)
    refine newz_i fun b4 w6 hb4 hz6 g6 _ hl6 => ⟨g6.mono fun _ _ h => h.elim, ?_⟩
    have z5 := g5.size
    refine stn_over (vs := [.slice none 0 0, .slice none 0 0]) rfl (fun u hu => by simp at hu; subst hu; rfl) (fun j hj => hl6 j hj) fun w7 m7 hc7 _ => ⟨m7.mono fun x _ e => ⟨rfl, by omega⟩, b4, rfl, hc7, ((gd.trans g5).trans g6).next m7 fun x hx e => by omega⟩
  · refine newz_i fun b4 w8 hb4 hz8 g8 _ hl8 => ⟨g8.mono fun _ _ h => h.elim, ?_⟩
    have z8 := g8.size
    refine callK_mono (move_open (q := 3) ((hR.grow gd).grow g8) (g8.cell (gd.cell (hR.cells 3 _ rfl) fun h => h) fun h => h)) ?_
    rintro _ w9 ⟨rfl, g9⟩
    refine ⟨g9.mono fun _ _ h => h.elim, ?_⟩
    refine extK_i (vs := [_, _]) (by rfl) (extK_i (vs := [_, _]) (by rfl) ?_)
    refine stn_over (vs := [.slice none 0 0, .slice none 0 0]) rfl (fun u hu => by simp at hu; subst hu; rfl) (fun j hj => (hl8 j hj).mod g9 fun h => h) fun w7 m7 hc7 _ => ⟨m7.mono fun x _ e => ⟨rfl, by omega⟩, b4, rfl, hc7, ((gd.trans g8).trans g9).next m7 fun x hx e => by omega⟩
theorem redo_open (hh : HistI F W b ks h) (hop : h.op = true) :
    callK Tryz.prog 21 [.pointer (some ⟨b, 0, none⟩)] (fun v' w' => ∃ cv, v' = .tuple #[cv, .int .i64 9] ∧ Grow W w') W := by
  apply S21_ok
  unfold S21
  refine callK_mono (hready_ok hh) ?_
  rintro _ _ ⟨rfl, rfl⟩
  rename World => W
  obtain ⟨C, sv, uv, rv, ov, hR⟩ := hh
  rw [hop] at hR
  obtain ⟨ua, un, uc, rfl⟩ := stk_slice hR.red
  rw [notK_i]
  refine condK_f ?_
  refine JoinK_i (fun vs w2 => ∃ b4, vs = [.pointer (some ⟨b4, 0, none⟩), .int .i64 9] ∧ (∀ j v, ([.slice none 0 0, .slice none 0 0] : List Value)[j]? = some v → w2.cell? ((⟨b4, 0, none⟩ : Addr).add j) = some v) ∧ Grow W w2) ?_ ?_
  · rintro _ w2 ⟨b4, rfl, hc, g2⟩ _
    simp only [nth_s, nth_z, List.headD_cons, List.tail_cons]
    rw [faK_i]
    refine ld1K_i (hc 0 _ rfl) ?_
    refine callK_mono (copy_dops (S := fun _ => False) (D := fun _ => False) (x := []) SlR.nil (by simp [mDops])) ?_
    rintro cv w3 ⟨_, g3⟩
    exact ⟨cv, rfl, g2.trans g3⟩
  have gd : Grow W W.drew := Mod.drew _ _
  have zd : W.drew.heap.size = W.heap.size := rfl
  refine drawC_i (fun k y => k = 12 ∧ W.heap.size ≤ y) ?_
  refine nilckK_s ?_
  rw [faK_i, addr0]
  refine nilckK_s ?_
  rw [faK_i, addr0]
  refine ⟨?_, ?_⟩
  · refine callK_mono (move_open (q := 4) (hR.grow gd) (gd.cell (hR.cells 4 _ rfl) fun h => h)) ?_
    rintro _ w5 ⟨rfl, g5⟩
    refine ⟨g5.mono fun _ _ h => h.elim, ?_⟩
    refine extK_i (vs := [_, _]) (by rfl) (extK_i (vs := [_, _]) (by rfl) ?_)
    refine newz_i fun b4 w6 hb4 hz6 g6 _ hl6 => ⟨g6.mono fun _ _ h => h.elim, ?_⟩
    have z5 := g5.size
    refine stn_over (vs := [.slice none 0 0, .slice none 0 0]) rfl (fun u hu => by simp at hu; subst hu; rfl) (fun j hj => hl6 j hj) fun w7 m7 hc7 _ => ⟨m7.mono fun x _ e => ⟨rfl, by omega⟩, b4, rfl, hc7, ((gd.trans g5).trans g6).next m7 fun x hx e => by omega⟩
  · refine newz_i fun b4 w8 hb4 hz8 g8 _ hl8 => ⟨g8.mono fun _ _ h => h.elim, ?_⟩
    have z8 := g8.size
    refine callK_mono (move_open (q := 4) ((hR.grow gd).grow g8) (g8.cell (gd.cell (hR.cells 4 _ rfl) fun h => h) fun h => h)) ?_
    rintro _ w9 ⟨rfl, g9⟩
    refine ⟨g9.mono fun _ _ h => h.elim, ?_⟩
    refine extK_i (vs := [_, _]) (by rfl) (extK_i (vs := [_, _]) (by rfl) ?_)
    refine stn_over (vs := [.slice none 0 0, .slice none 0 0]) rfl (fun u hu => by simp at hu; subst hu; rfl) (fun j hj => (hl8 j hj).mod g9 fun h => h) fun w7 m7 hc7 _ => ⟨m7.mono fun x _ e => ⟨rfl, by omega⟩, b4, rfl, hc7, ((gd.trans g8).trans g9).next m7 fun x hx e => by omega⟩
end
end Go.Proofs.YtlbaopamhkmepaaGreatDoor

namespace Go.Proofs.YtlbaopamhkmepaaGreatDoor
open Go Go.K

theorem hnew_bad {sv : Value} {mx : Int} {W : World} (h : mx < 0 ∨ 65536 < mx) : callK Tryz.prog 15 [sv, .int .i64 mx] (fun v' w' => v' = .tuple #[.pointer none, .int .i64 2] ∧ w' = W) W := by
  apply S15_ok
  unfold S15
  refine JoinK_i (fun _ _ => False) (fun _ _ h => h.elim) ?_
  rw [ltK_i]
  refine condK_p (fun _ => ⟨rfl, rfl⟩) fun h1 => ?_
  rw [gtK_i]
  exact condK_p (fun _ => ⟨rfl, rfl⟩) fun h2 => by omega
end Go.Proofs.YtlbaopamhkmepaaGreatDoor

namespace Go.Proofs.YtlbaopamhkmepaaGreatDoor
open Go Go.K
open Go.ChangeShapes Go.Joins
variable {H : Type} {enc : TypeId × Value → H} {w : World} {base : Nat} {spare : Nat → Bool} {held : Bool}
theorem len5 {α : Type} {l : List α} (h : l.length = 5) : ∃ a b c d e, l = [a, b, c, d, e] := by
  match l, h with | [a, b, c, d, e], _ => exact ⟨a, b, c, d, e, rfl⟩
theorem len6 {α : Type} {l : List α} (h : l.length = 6) : ∃ a b c d e f, l = [a, b, c, d, e, f] := by
  match l, h with | [a, b, c, d, e, f], _ => exact ⟨a, b, c, d, e, f, rfl⟩
theorem bulk_app (l m : List (DataW H)) : Rows.uptoBulkAll (l ++ m) = Rows.uptoBulkAll l + Rows.uptoBulkAll m := by
  induction l with
  | nil => simp [Rows.uptoBulkAll]
  | cons d l ih => simp only [List.cons_append, Rows.uptoBulkAll, ih]; omega
theorem SlR.of_trodU {α : Type} {t e k : Nat} {R : World → List Value → α → Prop} {μ : α → Nat} {fuel : Nat} {cs : List Value} {x : DataW H × List MemPlace} (ht : Tryz.prog.underlying t = some (.slice e)) (hk : Tryz.prog.cellsOf e = k)
    (hel : ∀ n cs' y, DataW.trod enc Tryz.prog w base spare held n e cs' = some y → ∃ x, R w cs' x ∧ μ x ≤ Rows.uptoBulk y.1) (h : DataW.trod enc Tryz.prog w base spare held fuel t cs = some x) :
    ∃ v l, cs = [v] ∧ SlR (fun _ => True) k R w v l ∧ (l.map μ).sum + 1 ≤ Rows.uptoBulk x.1 := by
  rcases Go.Deep.open_slice ht h with ⟨rfl, rfl⟩ | ⟨a, len, cap, m, n, D, Pl, rfl, hb, hl, hm, hmm, rfl, hall⟩
  · exact ⟨_, [], rfl, SlR.nil, by simp [Rows.uptoBulk]⟩
  · have hlm : len ≤ m := by rw [hmm]; split <;> omega
    have one : ∀ i, i < len → ∃ (cs' : List Value) (x : α), cs'.length = k ∧ (∀ j u, cs'[j]? = some u → w.cell? (a.add (i * k + j)) = some u) ∧ R w cs' x ∧ μ x ≤ Rows.uptoBulk (D i) := by
      intro i hi
      obtain ⟨cs', h1, h2⟩ := hall i (by omega)
      obtain ⟨x, hx, hmu⟩ := hel n cs' _ h2
      obtain ⟨_, hlen, hc⟩ := World.cells?_some h1
      rw [hk] at hlen hc
      refine ⟨cs', x, hlen, fun j u hu => ?_, hx, hmu⟩
      have hj : j < k := by rw [← hlen]; exact (List.getElem?_eq_some_iff.1 hu).1
      have := hc j hj
      rw [Addr.add_add] at this
      rw [this]; exact hu
    have build : ∀ q, q ≤ len → ∃ l : List α, l.length = q ∧ (l.map μ).sum ≤ Rows.uptoBulkAll ((List.range q).map D) ∧ ∀ i x, l[i]? = some x → ∃ cs' : List Value, cs'.length = k ∧ (∀ j u, cs'[j]? = some u → w.cell? (a.add (i * k + j)) = some u) ∧ R w cs' x := by
      intro q
      induction q with
      | zero => exact fun _ => ⟨[], rfl, by simp [Rows.uptoBulkAll], fun i x h => by simp at h⟩
      | succ q ih =>
        intro hq
        obtain ⟨l, h1, hs, h2⟩ := ih (by omega)
        obtain ⟨cs', x, h3, h4, h5, h6⟩ := one q (by omega)
        refine ⟨l ++ [x], by simp [h1], ?_, fun i y hy => ?_⟩
        · rw [List.range_succ, List.map_append (f := D), bulk_app]
          simp only [List.map_append, List.sum_append, List.map_cons, List.map_nil, List.sum_cons, List.sum_nil, Rows.uptoBulkAll]
          omega
        by_cases hi : i < q
        · rw [List.getElem?_append_left (by omega)] at hy; exact h2 i y hy
        · have : i = q := by have := (List.getElem?_eq_some_iff.1 hy).1; simp [h1] at this; omega
          subst this
          rw [List.getElem?_append_right (by omega)] at hy
          simp [h1] at hy; subst hy
          exact ⟨cs', h3, h4, h5⟩
    obtain ⟨l, h1, hs, h2⟩ := build len (Nat.le_refl _)
    subst h1
    refine ⟨_, l, rfl, ⟨a, cap, rfl, hl, hm, fun i x hx => ?_⟩, ?_⟩
    · obtain ⟨cs', h3, h4, h5⟩ := h2 i x hx
      exact ⟨a, cs', rfl, trivial, h3, h4, h5⟩
    · simp only [Rows.uptoBulk]; omega
theorem val_of_trodU {n : Nat} {cs : List Value} {y : DataW H × List MemPlace} (h : DataW.trod enc Tryz.prog w base spare held n 107 cs = some y) : ∃ x : AVal, cs = x.cells ∧ x.s.size + 1 ≤ Rows.uptoBulk y.1 := by
  have c2 : Tryz.prog.cellsOf 107 = 4 := by kernel_rfl
  have c3 : Tryz.prog.cellsOf 5 = 1 := by kernel_rfl
  have c4 : Tryz.prog.cellsOf 2 = 1 := by kernel_rfl
  have c5 : Tryz.prog.cellsOf 34 = 1 := by kernel_rfl
  have c6 : Tryz.prog.cellsOf 9 = 1 := by kernel_rfl
  obtain ⟨z0, z1, z2, z3, m', rfl, hl, g0, g1, g2, g3⟩ := trod_struct4 Tryz.underlying107 h
  rw [c2] at hl
  simp only [c3, c4, c5, c6] at g0 g1 g2 g3
  match cs, hl with
  | [a0, a1, a2, a3], _ =>
    simp only [List.drop_zero, List.take_succ_cons, List.take_zero, List.drop_succ_cons] at g0 g1 g2 g3
    obtain ⟨k0, f0, e0, _⟩ := DataW.trod_int Tryz.underlying5 g0
    obtain ⟨k1, f1, e1, _⟩ := DataW.trod_int Tryz.underlying2 g1
    obtain ⟨k2, f2, e2, _⟩ := DataW.trod_int Tryz.underlying34 g2
    obtain ⟨k3, f3, e3, _⟩ := DataW.trod_string Tryz.underlying9 g3
    cases f0; cases f1; cases f2; cases f3; subst e0; subst e1; subst e2; subst e3
    refine ⟨⟨k0, k1, k2, k3⟩, rfl, ?_⟩
    simp only [Rows.uptoBulk, Rows.uptoBulkAll, Array.length_toList, ByteArray.size_data]
    omega
theorem attr_of_trodU {n : Nat} {cs : List Value} {y : DataW H × List MemPlace} (h : DataW.trod enc Tryz.prog w base spare held n 109 cs = some y) : ∃ x : Attr, RAttr w cs x ∧ mAttr x ≤ Rows.uptoBulk y.1 := by
  have c0 : Tryz.prog.cellsOf 109 = 5 := by kernel_rfl
  have c1 : Tryz.prog.cellsOf 3 = 1 := by kernel_rfl
  have c2 : Tryz.prog.cellsOf 107 = 4 := by kernel_rfl
  obtain ⟨y0, y1, m, rfl, hl, h0, h1⟩ := trod_struct2 Tryz.underlying109 h
  rw [c0] at hl
  simp only [c1, c2] at h0 h1
  match cs, hl with
  | [a0, a1, a2, a3, a4], _ =>
    simp only [List.drop_zero, List.take_succ_cons, List.take_zero, List.drop_succ_cons] at h0 h1
    obtain ⟨k, e0, _, _⟩ := DataW.trod_int Tryz.underlying3 h0
    obtain ⟨v, e1, hs⟩ := val_of_trodU h1
    cases e0; cases e1
    refine ⟨⟨k, v⟩, rfl, ?_⟩
    simp only [mAttr, Rows.uptoBulk, Rows.uptoBulkAll]
    omega
theorem chg_of_trodU {n : Nat} {cs : List Value} {y : DataW H × List MemPlace} (h : DataW.trod enc Tryz.prog w base spare held n 111 cs = some y) : ∃ x : Chg, RChg w cs x ∧ mChg x ≤ Rows.uptoBulk y.1 := by
  have c0 : Tryz.prog.cellsOf 111 = 6 := by kernel_rfl
  have c1 : Tryz.prog.cellsOf 3 = 1 := by kernel_rfl
  have c2 : Tryz.prog.cellsOf 107 = 4 := by kernel_rfl
  have c3 : Tryz.prog.cellsOf 4 = 1 := by kernel_rfl
  obtain ⟨xs, m, _, rfl, hl, hlen, hf⟩ := DataW.trod_struct Tryz.underlying111 h
  match xs, hlen with
  | [y0, y1, y2], _ =>
    have h0 : DataW.trod enc Tryz.prog w base spare held m 3 ((cs.drop 0).take (Tryz.prog.cellsOf 3)) = some y0 := hf 0 _ rfl
    have h1 : DataW.trod enc Tryz.prog w base spare held m 4 ((cs.drop 1).take (Tryz.prog.cellsOf 4)) = some y1 := hf 1 _ rfl
    have h2 : DataW.trod enc Tryz.prog w base spare held m 107 ((cs.drop 2).take (Tryz.prog.cellsOf 107)) = some y2 := hf 2 _ rfl
    rw [c0] at hl
    rw [c1] at h0
    rw [c3] at h1
    rw [c2] at h2
    obtain ⟨a0, a1, a2, a3, a4, a5, rfl⟩ := len6 hl
    · clear hf
      simp only [List.drop_zero, List.take_succ_cons, List.take_zero, List.drop_succ_cons] at h0 h1 h2
      obtain ⟨k, e0, _, _⟩ := DataW.trod_int Tryz.underlying3 h0
      obtain ⟨b, e1, _⟩ := DataW.trod_bool Tryz.underlying4 h1
      obtain ⟨v, e2, hs⟩ := val_of_trodU h2
      cases e0; cases e1; cases e2
      refine ⟨⟨k, b, v⟩, rfl, ?_⟩
      simp only [mChg, List.map_cons, List.map_nil, Rows.uptoBulk, Rows.uptoBulkAll]
      omega
theorem rune_of_trodU {n : Nat} {cs : List Value} {y : DataW H × List MemPlace} (h : DataW.trod enc Tryz.prog w base spare held n 21 cs = some y) : ∃ x : Int, RRune w cs x ∧ 1 ≤ Rows.uptoBulk y.1 := by
  obtain ⟨k, rfl, e, _⟩ := DataW.trod_int Tryz.underlying21 h
  subst e
  exact ⟨k, rfl, by simp [Rows.uptoBulk]⟩
theorem runes_of_trodU {n : Nat} {cs : List Value} {y : DataW H × List MemPlace} (h : DataW.trod enc Tryz.prog w base spare held n 35 cs = some y) : ∃ v l, cs = [v] ∧ RRun (fun _ => True) w v l ∧ l.length + 1 ≤ Rows.uptoBulk y.1 := by
  obtain ⟨v, l, e, h1, h2⟩ := SlR.of_trodU (μ := fun _ : Int => 1) Tryz.underlying35 (by kernel_rfl) (fun _ _ _ h => rune_of_trodU h) h
  refine ⟨v, l, e, h1, ?_⟩
  have : (l.map fun _ => 1).sum = l.length := by clear h1 h2; induction l with | nil => rfl | cons a l ih => simp only [List.map_cons, List.sum_cons, List.length_cons, ih]; omega
  omega
/-! ### keys -/
theorem key_of_trodU {n : Nat} {cs : List Value} {y : DataW H × List MemPlace} (h : DataW.trod enc Tryz.prog w base spare held n 84 cs = some y) : ∃ x : DKey, RKey w cs x ∧ 1 ≤ Rows.uptoBulk y.1 := by
  have c0 : Tryz.prog.cellsOf 84 = 6 := by kernel_rfl
  have c1 : Tryz.prog.cellsOf 3 = 1 := by kernel_rfl
  have c2 : Tryz.prog.cellsOf 5 = 1 := by kernel_rfl
  have c3 : Tryz.prog.cellsOf 4 = 1 := by kernel_rfl
  obtain ⟨xs, m, _, rfl, hl, hlen, hf⟩ := DataW.trod_struct Tryz.underlying84 h
  match xs, hlen with
  | [y0, y1, y2, y3, y4, y5], _ =>
    have h0 : DataW.trod enc Tryz.prog w base spare held m 3 ((cs.drop 0).take (Tryz.prog.cellsOf 3)) = some y0 := hf 0 _ rfl
    have h1 : DataW.trod enc Tryz.prog w base spare held m 4 ((cs.drop 1).take (Tryz.prog.cellsOf 4)) = some y1 := hf 1 _ rfl
    have h2 : DataW.trod enc Tryz.prog w base spare held m 5 ((cs.drop 2).take (Tryz.prog.cellsOf 5)) = some y2 := hf 2 _ rfl
    have h3 : DataW.trod enc Tryz.prog w base spare held m 4 ((cs.drop 3).take (Tryz.prog.cellsOf 4)) = some y3 := hf 3 _ rfl
    have h4 : DataW.trod enc Tryz.prog w base spare held m 4 ((cs.drop 4).take (Tryz.prog.cellsOf 4)) = some y4 := hf 4 _ rfl
    have h5 : DataW.trod enc Tryz.prog w base spare held m 3 ((cs.drop 5).take (Tryz.prog.cellsOf 3)) = some y5 := hf 5 _ rfl
    rw [c0] at hl
    rw [c1] at h0
    rw [c3] at h1
    rw [c2] at h2
    rw [c3] at h3
    rw [c3] at h4
    rw [c1] at h5
    obtain ⟨a0, a1, a2, a3, a4, a5, rfl⟩ := len6 hl
    · clear hf
      simp only [List.drop_zero, List.take_succ_cons, List.take_zero, List.drop_succ_cons] at h0 h1 h2 h3 h4 h5
      obtain ⟨k0, e0, _, _⟩ := DataW.trod_int Tryz.underlying3 h0
      obtain ⟨k1, e1, _⟩ := DataW.trod_bool Tryz.underlying4 h1
      obtain ⟨k2, e2, _, _⟩ := DataW.trod_int Tryz.underlying5 h2
      obtain ⟨k3, e3, _⟩ := DataW.trod_bool Tryz.underlying4 h3
      obtain ⟨k4, e4, _⟩ := DataW.trod_bool Tryz.underlying4 h4
      obtain ⟨k5, e5, _, _⟩ := DataW.trod_int Tryz.underlying3 h5
      cases e0; cases e1; cases e2; cases e3; cases e4; cases e5
      refine ⟨⟨k0, k1, k2, k3, k4, k5⟩, rfl, ?_⟩
      simp only [Rows.uptoBulk]
      omega
theorem keys_of_trodU {n : Nat} {cs : List Value} {y : DataW H × List MemPlace} (h : DataW.trod enc Tryz.prog w base spare held n 48 cs = some y) : ∃ v l, cs = [v] ∧ RKeys (fun _ => True) w v l ∧ l.length + 1 ≤ Rows.uptoBulk y.1 := by
  obtain ⟨v, l, e, h1, h2⟩ := SlR.of_trodU (μ := fun _ : DKey => 1) Tryz.underlying48 (by kernel_rfl) (fun _ _ _ h => key_of_trodU h) h
  refine ⟨v, l, e, h1, ?_⟩
  have : (l.map fun _ => 1).sum = l.length := by clear h1 h2; induction l with | nil => rfl | cons a l ih => simp only [List.map_cons, List.sum_cons, List.length_cons, ih]; omega
  omega
end Go.Proofs.YtlbaopamhkmepaaGreatDoor

namespace Go.Proofs.YtlbaopamhkmepaaGreatDoor
open Go Go.K
open Go.ChangeShapes Go.WideShapes Go.ChangeAt Go.RowKit Go.Joins

def laidL : List (String × DataW Unit) := [("unicode/utf8.acceptRanges", Rows.laid_unicode_utf8_acceptRanges), ("unicode/utf8.first", Rows.laid_unicode_utf8_first)]
theorem first_tab : Rows.laid_unicode_utf8_first = Lib.tabData .u8 (Pinned.utf8FirstZ.map Int.ofNat) := by kernel_rfl
theorem first_at : (List.range 256).all (fun j => decide (128 ≤ j → (Pinned.utf8FirstZ.map Int.ofNat)[j]? = some (firstT j))) = true := by decide +kernel
theorem acc_tab : Rows.laid_unicode_utf8_acceptRanges (H := Unit) = .agg ((List.range 16).map fun i => .agg ([accLo i, accHi i].map fun z => .lit (.int .u8 z))) := by kernel_rfl
theorem tabs_of_laid {W : World} (h : laidMetH Tryz.prog laidL W) : Tabs W := by
  rw [MakeChecks.laidMetH_plain _ _ _ (by kernel_rfl)] at h
  have h4 := Lib.laidMet.reads h (.head _)
  have h3 := Lib.laidMet.reads h (.tail _ (.head _))
  have hf : ∀ j : Nat, 128 ≤ j → j < 256 → W.cell? ⟨0, j, none⟩ = some (.int .u8 (firstT j)) := by
    intro j hj1 hj2
    obtain ⟨g, t, cs, fuel, p, hg, hty, hvar, hd⟩ := h3
    obtain rfl := Option.some.inj ((show Tryz.prog.globalNamed "unicode/utf8.first" = some 0 by kernel_rfl).symm.trans hg)
    obtain rfl := Option.some.inj ((show (Tryz.prog.globals[0]?).map (·.type) = some 242 by kernel_rfl).symm.trans hty)
    rw [first_tab] at hd
    have hcs := Lib.cells_of_tab Tryz.underlying242 Tryz.underlying5 (by kernel_rfl) (by kernel_rfl) hd
    have := World.var?_cell hg hvar j
    rw [this, ← Array.getElem?_toList, hcs]
    have ha := List.all_eq_true.1 first_at j (List.mem_range.2 hj2)
    rw [decide_eq_true_eq] at ha
    rw [List.getElem?_map, ha hj1]
    rfl
  have hac : ∀ j : Nat, j < 16 → W.cell? ⟨1, j * 2, none⟩ = some (.int .u8 (accLo j)) ∧ W.cell? ⟨1, j * 2 + 1, none⟩ = some (.int .u8 (accHi j)) := by
    intro i hi
    obtain ⟨g, t, cs, fuel, p, hg, hty, hvar, hd⟩ := h4
    obtain rfl := Option.some.inj ((show Tryz.prog.globalNamed "unicode/utf8.acceptRanges" = some 1 by kernel_rfl).symm.trans hg)
    obtain rfl := Option.some.inj ((show (Tryz.prog.globals[1]?).map (·.type) = some 245 by kernel_rfl).symm.trans hty)
    rw [acc_tab] at hd
    obtain ⟨fuel', d, q, hdi, he⟩ := Lib.array_elem Tryz.underlying245 hd i hi
    simp only [List.getElem?_map, List.getElem?_range hi, Option.map_some, Option.some.injEq] at hdi
    subst hdi
    have c2 : Tryz.prog.cellsOf 244 = 2 := by kernel_rfl
    rw [c2] at he
    have hcs := Lib.ints_of_struct Tryz.underlying244 (fun j f hj => by
      match j, hj with
      | 0, hj => simp at hj; subst hj; exact ⟨Tryz.underlying5, rfl, by kernel_rfl⟩
      | 1, hj => simp at hj; subst hj; exact ⟨Tryz.underlying5, rfl, by kernel_rfl⟩
      | j + 2, hj => simp at hj) (by rw [c2]; rfl) he
    have e0 := congrArg (·[0]?) hcs
    have e1 := congrArg (·[1]?) hcs
    simp at e0 e1
    have w0 := World.var?_cell hg hvar (i * 2)
    have w1 := World.var?_cell hg hvar (i * 2 + 1)
    rw [w0, w1, ← Array.getElem?_toList, ← Array.getElem?_toList]
    exact ⟨by simpa using e0, by simpa using e1⟩
  have := World.block_lt_of_cell? W _ (hac 0 (by decide)).1
  exact ⟨this, hf, hac⟩
/-- a world that meets the condition -/
noncomputable def laidWorld (os : Os) : World :=
  let w0 := World.holding Tryz.prog os ⟨#[], #[], []⟩
  let put (h : Array Obj) (g : Nat) (cs : Array Value) : Array Obj := h.modify g fun
    | .cells _ t frozen => .cells cs t frozen
    | o => o
  let h1 := put w0.heap 0 (Pinned.utf8FirstZ.map fun (z : Nat) => Value.int .u8 (Int.ofNat z)).toArray
  let h2 := put h1 1 ((List.range 16).flatMap fun i => [Value.int .u8 (accLo i), Value.int .u8 (accHi i)]).toArray
  { w0 with heap := h2 }
theorem laidWorld_met (os : Os) (args : Array Value) : laidMetH Tryz.prog laidL ((laidWorld os).forCall (fun _ _ => 0) ⟨#[], args, []⟩).memory := by
  rw [MakeChecks.laidMetH_plain _ _ _ (by kernel_rfl)]
  exact (LaidIn.of_run (l := laidL) [1, 0] 8 (by kernel_rfl) (by kernel_rfl) (by kernel_rfl) (by kernel_rfl)).met

/-- a value whose numbers lie in their types -/
def InV (v : AVal) : Prop := (0 ≤ v.kind ∧ v.kind < 256) ∧ (-9223372036854775808 ≤ v.n ∧ v.n ≤ 9223372036854775807) ∧ (0 ≤ v.f ∧ v.f < 18446744073709551616) ∧ v.s.size < 18446744073709551616
variable {H : Type} {enc : TypeId × Value → H} {w : World} {base : Nat} {spare : Nat → Bool} {held : Bool}
theorem wf_range {k : IntKind} {n : Int} (h : (Lit.int k n).wf = true) : k.min ≤ n ∧ n ≤ k.max := by
  simpa [Lit.wf] using h
theorem val_of_trodR {n : Nat} {cs : List Value} {y : DataW H × List MemPlace} (h : DataW.trod enc Tryz.prog w base spare held n 107 cs = some y) : ∃ x : AVal, cs = x.cells ∧ InV x := by
  have c2 : Tryz.prog.cellsOf 107 = 4 := by kernel_rfl
  have c3 : Tryz.prog.cellsOf 5 = 1 := by kernel_rfl
  have c4 : Tryz.prog.cellsOf 2 = 1 := by kernel_rfl
  have c5 : Tryz.prog.cellsOf 34 = 1 := by kernel_rfl
  have c6 : Tryz.prog.cellsOf 9 = 1 := by kernel_rfl
  obtain ⟨z0, z1, z2, z3, m', _, hl, g0, g1, g2, g3⟩ := trod_struct4 Tryz.underlying107 h
  rw [c2] at hl
  simp only [c3, c4, c5, c6] at g0 g1 g2 g3
  match cs, hl with
  | [a1, a2, a3, a4], _ =>
    simp only [List.drop_zero, List.take_succ_cons, List.take_zero, List.drop_succ_cons] at g0 g1 g2 g3
    obtain ⟨k0, f0, _, w0⟩ := DataW.trod_int Tryz.underlying5 g0
    obtain ⟨k1, f1, _, w1⟩ := DataW.trod_int Tryz.underlying2 g1
    obtain ⟨k2, f2, _, w2⟩ := DataW.trod_int Tryz.underlying34 g2
    obtain ⟨k3, f3, _, w3⟩ := DataW.trod_string Tryz.underlying9 g3
    cases f0; cases f1; cases f2; cases f3
    refine ⟨⟨k0, k1, k2, k3⟩, rfl, ?_⟩
    have r0 := wf_range w0
    have r1 := wf_range w1
    have r2 := wf_range w2
    have m0 : IntKind.u8.min = 0 ∧ IntKind.u8.max = 255 := by decide
    have m1 : IntKind.i64.min = -9223372036854775808 ∧ IntKind.i64.max = 9223372036854775807 := by decide
    have m2 : IntKind.u64.min = 0 ∧ IntKind.u64.max = 18446744073709551615 := by decide
    rw [m0.1, m0.2] at r0
    rw [m1.1, m1.2] at r1
    rw [m2.1, m2.2] at r2
    have r3 : k3.size ≤ 9223372036854775807 := by
      simp only [Lit.wf, maxLen] at w3
      simpa using w3
    exact ⟨⟨r0.1, show k0 < 256 by omega⟩, r1, ⟨r2.1, show k2 < 18446744073709551616 by omega⟩, show k3.size < 18446744073709551616 by omega⟩
end Go.Proofs.YtlbaopamhkmepaaGreatDoor

namespace Go.K
open Go MapKept

/-- the map at block b, of keys of one plain kind: what each key has -/
def MapG (d : TypeDesc) (w : World) (b : Nat) (f : Value → Option Value) : Prop :=
  ∃ es clock, w.heap[b]? = some (.map es clock) ∧ (∀ x ∈ es.toList, IsKey d x.key) ∧ es.toList.Pairwise (fun x y => x.key ≠ y.key) ∧ ∀ k v, IsKey d k → (f k = some v ↔ ∃ x ∈ es.toList, x.key = k ∧ x.val = v)
theorem MapG.lt {d : TypeDesc} {w : World} {b : Nat} {f : Value → Option Value} (h : MapG d w b f) : b < w.heap.size := by
  obtain ⟨es, c, hb, _⟩ := h
  exact (Array.getElem?_eq_some_iff.1 hb).1
theorem MapG.mod {d : TypeDesc} {M : Nat → Prop} {w w' : World} {b : Nat} {f : Value → Option Value} (h : MapG d w b f) (hm : Mod M w w') (hb : ¬ M b) : MapG d w' b f := by
  have hl := h.lt
  obtain ⟨es, c, h1, h2⟩ := h
  exact ⟨es, c, (hm.same b hl hb).trans h1, h2⟩
theorem MapG.make (d : TypeDesc) (w : World) : MapG d (w.alloc (.map #[] 0)) w.heap.size (fun _ => none) :=
  ⟨#[], 0, (heap_alloc w _).1, by simp, by simp, fun k v _ => by simp⟩
theorem MapG.ext {d : TypeDesc} {w : World} {b : Nat} {f g : Value → Option Value} (h : MapG d w b f) (e : ∀ k, IsKey d k → f k = g k) : MapG d w b g := by
  obtain ⟨es, c, h1, h2, h3, h4⟩ := h
  exact ⟨es, c, h1, h2, h3, fun k v hk => by rw [← e k hk]; exact h4 k v hk⟩
end Go.K

namespace Go.K
open Go
/-- an entry of the table, as one asks for it -/
def Tab.ask {α : Type} (t : Tab α) (z : α) (id : Int) : Option (Ent α) := if id = 0 then some ⟨z, t.empty⟩ else if id < 0 then none else match t.places[(id - 1).toNat]? with
  | some p => if p.held = 0 then none else some p
  | none => none
/-- how large a table is at most -/
structure Tab.Small {α : Type} (t : Tab α) (n : Nat) : Prop where
  pl : t.places.length ≤ n
  em : t.empty ≤ n
  he : ∀ p ∈ t.places, p.held ≤ n
theorem Tab.ask_pos {α : Type} {t : Tab α} {z : α} {id : Int} {p : Ent α} (h : t.ask z id = some p) (h0 : id ≠ 0) : ∃ i : Nat, id = (i : Int) + 1 ∧ t.places[i]? = some p ∧ 0 < p.held := by
  unfold Tab.ask at h
  rw [if_neg h0] at h
  split at h
  · cases h
  · cases hp : t.places[(id - 1).toNat]? with
    | none => rw [hp] at h; cases h
    | some q =>
      rw [hp] at h
      simp only at h
      split at h
      · cases h
      · cases h
        exact ⟨(id - 1).toNat, by omega, hp, by omega⟩
theorem Tab.ask_at {α : Type} {t : Tab α} {z : α} {i : Nat} {p : Ent α} (h : t.places[i]? = some p) (h0 : 0 < p.held) : t.ask z ((i : Int) + 1) = some p := by
  unfold Tab.ask
  rw [if_neg (by omega), if_neg (by omega), show ((i : Int) + 1 - 1).toNat = i by omega, h]
  simp only
  rw [if_neg (by omega)]
end Go.K
namespace Go.Proofs.YtlbaopamhkmepaaGreatDoor
open Go Go.K

def REnt (C : Nat → Prop) : World → List Value → Ent (List Attr) → Prop := fun w r x => ∃ sv, r = [sv, .int .i64 x.held] ∧ RSet C w sv x.set
theorem REnt.one {C : Nat → Prop} {w : World} {r : List Value} {x : Ent (List Attr)} (h : REnt C w r x) : ∀ u ∈ r, u.oneCell' = true := by
  obtain ⟨sv, rfl, hs⟩ := h
  obtain ⟨a, c, rfl, _⟩ := hs.shape
  intro u hu
  simp at hu
  rcases hu with rfl | rfl <;> rfl
theorem REnt.mod {C M : Nat → Prop} {w w' : World} {r : List Value} {x : Ent (List Attr)} (h : REnt C w r x) (hm : Mod M w w') (hC : ∀ b, b < w.heap.size → C b → ¬ M b) : REnt C w' r x := by
  obtain ⟨sv, e, hs⟩ := h
  exact ⟨sv, e, hs.mod hm hC (by decide) fun _ _ h => h⟩
theorem REnt.sub {C C' : Nat → Prop} {w : World} {r : List Value} {x : Ent (List Attr)} (h : REnt C w r x) (hC : ∀ b, b < w.heap.size → C b → C' b) : REnt C' w r x := by
  obtain ⟨sv, e, hs⟩ := h
  exact ⟨sv, e, hs.sub hC (by decide) fun _ _ h => h⟩
end Go.Proofs.YtlbaopamhkmepaaGreatDoor

namespace Go.K
open Go
def Tab.hold {α : Type} (t : Tab α) (z : α) (id : Int) : Tab α := match t.ask z id with
  | none => t
  | some p => if id = 0 then { t with empty := t.empty + 1 } else t.setP (id - 1).toNat ⟨p.set, p.held + 1⟩
end Go.K
namespace Go.Proofs.YtlbaopamhkmepaaGreatDoor
open Go Go.K

end Go.Proofs.YtlbaopamhkmepaaGreatDoor

namespace Go.K
open Go
/-- what adding a set that may be comes to: its id, the table behind it -/
def Tab.Added {α : Type} (t : Tab α) (z s : α) (id : Int) (t' : Tab α) : Prop :=
  (s = z ∧ id = 0 ∧ t' = { t with empty := t.empty + 1 }) ∨ (s ≠ z ∧ ∃ i n : Nat, t.places[i]? = some ⟨s, n⟩ ∧ 0 < n ∧ id = (i : Int) + 1 ∧ t' = t.setP i ⟨s, n + 1⟩) ∨
    (s ≠ z ∧ (∀ (i : Nat) (p : Ent α), t.places[i]? = some p → 0 < p.held → p.set ≠ s) ∧ id = ((t.put s).1 : Int) + 1 ∧ t' = (t.put s).2)
end Go.K
namespace Go.Proofs.YtlbaopamhkmepaaGreatDoor
open Go Go.K

end Go.Proofs.YtlbaopamhkmepaaGreatDoor

namespace Go.K
open Go
theorem Tab.Added.new {α : Type} {t t' : Tab α} {z s : α} {id : Int} (h : t.Added z s id t') (hz : s ≠ z) (hn : ∀ (i : Nat) (p : Ent α), t.places[i]? = some p → 0 < p.held → p.set ≠ s) : id = ((t.put s).1 : Int) + 1 ∧ t' = (t.put s).2 := by
  rcases h with ⟨h, _⟩ | ⟨_, i, n, h, h0, _⟩ | ⟨_, _, h1, h2⟩
  · exact absurd h hz
  · exact absurd rfl (hn i _ h h0)
  · exact ⟨h1, h2⟩
theorem Tab.Added.old {α : Type} {t t' : Tab α} {z s : α} {id : Int} {i n : Nat} {G : α → Prop} (h : t.Added z s id t') (hi : t.Inv G) (hz : s ≠ z) (hp : t.places[i]? = some ⟨s, n⟩) (hn : 0 < n) : id = (i : Int) + 1 ∧ t' = t.setP i ⟨s, n + 1⟩ := by
  rcases h with ⟨h, _⟩ | ⟨_, j, m, h, h0, h1, h2⟩ | ⟨_, h1, _⟩
  · exact absurd h hz
  · have e := hi.uni i j _ _ hp h hn h0 rfl
    subst e
    rw [hp] at h; cases h
    exact ⟨h1, h2⟩
  · exact absurd rfl (h1 i _ hp hn)
theorem Tab.Added.empty {α : Type} {t t' : Tab α} {z : α} {id : Int} (h : t.Added z z id t') : id = 0 ∧ t' = { t with empty := t.empty + 1 } := by
  rcases h with ⟨_, h1, h2⟩ | ⟨h, _⟩ | ⟨h, _⟩
  · exact ⟨h1, h2⟩
  · exact absurd rfl h
  · exact absurd rfl h
end Go.K
namespace Go.Proofs.YtlbaopamhkmepaaGreatDoor
open Go Go.K

section
variable {w0 W : World} {F : Nat → Prop} {b : Nat} {ks : List DKey} {t : Tab (List Attr)}
end
end Go.Proofs.YtlbaopamhkmepaaGreatDoor

namespace Go.Proofs.YtlbaopamhkmepaaGreatDoor
open Go Go.K

theorem Small.up {t : Tab (List Attr)} (h : t.Small 1099511627) : t.Small 1099511627776 := ⟨by have := h.pl; omega, by have := h.em; omega, fun p hp => by have := h.he p hp; omega⟩
end Go.Proofs.YtlbaopamhkmepaaGreatDoor

namespace Go.K
open Go
theorem Tab.Small.added {α : Type} {t t' : Tab α} {z s : α} {id : Int} {N : Nat} (h : t.Small N) (ha : t.Added z s id t') : t'.Small (N + 1) := by
  have up : ∀ p ∈ t.places, p.held ≤ N + 1 := fun p hp => Nat.le_succ_of_le (h.he p hp)
  have hpl := h.pl
  have hem := h.em
  rcases ha with ⟨_, _, rfl⟩ | ⟨_, i, n, hp, hn, _, rfl⟩ | ⟨_, _, _, rfl⟩
  · exact ⟨Nat.le_succ_of_le h.pl, Nat.succ_le_succ h.em, up⟩
  · refine ⟨?_, Nat.le_succ_of_le h.em, fun p hp' => ?_⟩
    · show (t.places.set i _).length ≤ _
      rw [List.length_set]; omega
    · rcases List.mem_or_eq_of_mem_set hp' with hp' | rfl
      · exact up p hp'
      · have := h.he _ (List.mem_of_getElem? hp)
        simp only at this ⊢
        omega
  · unfold Tab.put
    cases t.free.getLast? with
    | some i =>
      refine ⟨?_, Nat.le_succ_of_le h.em, fun p hp' => ?_⟩
      · show (t.places.set i _).length ≤ _
        rw [List.length_set]; omega
      · rcases List.mem_or_eq_of_mem_set hp' with hp' | rfl
        · exact up p hp'
        · simp
    | none =>
      refine ⟨?_, Nat.le_succ_of_le h.em, fun p hp' => ?_⟩
      · show (t.places ++ [_]).length ≤ _
        rw [List.length_append, List.length_singleton]; omega
      · rcases List.mem_append.1 hp' with hp' | hp'
        · exact up p hp'
        · rw [List.mem_singleton] at hp'; subst hp'; simp
theorem Tab.Small.hold {α : Type} {t : Tab α} {z : α} {id : Int} {N : Nat} (h : t.Small N) : (t.hold z id).Small (N + 1) := by
  unfold Tab.hold
  have hpl := h.pl
  have hem := h.em
  cases ha : t.ask z id with
  | none => exact ⟨Nat.le_succ_of_le h.pl, Nat.le_succ_of_le h.em, fun p hp => Nat.le_succ_of_le (h.he p hp)⟩
  | some p =>
    dsimp only
    split
    · exact ⟨by show t.places.length ≤ _; omega, by show t.empty + 1 ≤ _; omega, fun p hp => Nat.le_succ_of_le (h.he p hp)⟩
    · rename_i h0
      refine ⟨by show (t.places.set _ _).length ≤ _; rw [List.length_set]; omega, by show t.empty ≤ _; omega, fun q hq => ?_⟩
      rcases List.mem_or_eq_of_mem_set hq with hq | rfl
      · exact Nat.le_succ_of_le (h.he q hq)
      · obtain ⟨i, _, hp, _⟩ := Tab.ask_pos ha h0
        have := h.he _ (List.mem_of_getElem? hp)
        simp only; omega
theorem Tab.Small.le {α : Type} {t : Tab α} {N N' : Nat} (h : t.Small N) (hn : N ≤ N') : t.Small N' := ⟨Nat.le_trans h.pl hn, Nat.le_trans h.em hn, fun p hp => Nat.le_trans (h.he p hp) hn⟩
/-- a set has an id -/
def Tab.Has {α : Type} (t : Tab α) (z s : α) (id : Int) (n : Nat) : Prop := t.ask z id = some ⟨s, n⟩ ∧ 0 < n ∧ (id = 0 ↔ s = z)
theorem Tab.Has.zero {α : Type} {t : Tab α} {z s : α} {n : Nat} (h : t.Has z s 0 n) : s = z ∧ t.empty = n := by
  have h1 := h.1
  unfold Tab.ask at h1
  rw [if_pos rfl] at h1
  cases h1
  exact ⟨rfl, rfl⟩
theorem Tab.Has.pos {α : Type} {t : Tab α} {z s : α} {id : Int} {n : Nat} (h : t.Has z s id n) (h0 : id ≠ 0) : ∃ i : Nat, id = (i : Int) + 1 ∧ t.places[i]? = some ⟨s, n⟩ := by
  obtain ⟨i, e, hp, _⟩ := Tab.ask_pos h.1 h0
  exact ⟨i, e, hp⟩
theorem Tab.Has.mkz {α : Type} {t : Tab α} {z : α} (h : 0 < t.empty) : t.Has z z 0 t.empty := ⟨by unfold Tab.ask; rw [if_pos rfl], h, by simp⟩
theorem Tab.Has.mkp {α : Type} {t : Tab α} {z s : α} {i n : Nat} (hs : s ≠ z) (hp : t.places[i]? = some ⟨s, n⟩) (hn : 0 < n) : t.Has z s ((i : Int) + 1) n := ⟨Tab.ask_at hp hn, hn, ⟨fun h => by omega, fun h => absurd h hs⟩⟩
/-- what was added is there -/
theorem Tab.Added.has {α : Type} {t t' : Tab α} {z x : α} {k : Int} {G : α → Prop} (h : t.Added z x k t') (hi : t.Inv G) (hg : x ≠ z → G x) : ∃ n, t'.Has z x k n := by
  rcases h with ⟨rfl, rfl, rfl⟩ | ⟨hz, i, n, hp, hn, rfl, rfl⟩ | ⟨hz, hno, rfl, rfl⟩
  · exact ⟨t.empty + 1, Tab.Has.mkz (t := { t with empty := t.empty + 1 }) (Nat.succ_pos _)⟩
  · have hlt := (List.getElem?_eq_some_iff.1 hp).1
    exact ⟨n + 1, Tab.Has.mkp hz (by show (t.places.set i _)[i]? = _; rw [List.getElem?_set_self hlt]) (Nat.succ_pos _)⟩
  · obtain ⟨_, h1, _⟩ := Tab.put_spec hi (hg hz) hno
    exact ⟨1, Tab.Has.mkp hz h1 Nat.one_pos⟩
theorem Tab.Has.le {α : Type} {t : Tab α} {z s : α} {id : Int} {n N : Nat} (h : t.Has z s id n) (hs : t.Small N) : 0 ≤ id ∧ id ≤ N := by
  by_cases h0 : id = 0
  · omega
  · obtain ⟨j, rfl, hp⟩ := h.pos h0
    have := (List.getElem?_eq_some_iff.1 hp).1
    have := hs.pl
    omega
end Go.K

namespace Go.Proofs.YtlbaopamhkmepaaGreatDoor
open Go Go.K

/-- a row of sets -/
def RSetV (S : Nat → Prop) : World → List Value → List Attr → Prop := fun w r x => ∃ sv, r = [sv] ∧ RSet S w sv x
theorem RSetV.mod {S M : Nat → Prop} {w w' : World} {r : List Value} {x : List Attr} (h : RSetV S w r x) (hm : Mod M w w') (hS : ∀ b, b < w.heap.size → S b → ¬ M b) : RSetV S w' r x := by
  obtain ⟨sv, e, hs⟩ := h
  exact ⟨sv, e, hs.mod hm hS (by decide) fun _ _ h => h⟩
end Go.Proofs.YtlbaopamhkmepaaGreatDoor

namespace Go.K
open Go
theorem SlR.strip {α : Type} {S : Nat → Prop} {k : Nat} {R : World → List Value → α → Prop} {P : α → Prop} {w : World} {v : Value} {l : List α} (h : SlR S k (fun w r x => R w r x ∧ P x) w v l) : SlR S k R w v l ∧ ∀ x ∈ l, P x := by
  obtain ⟨a, c, e, h1, h2, h3⟩ := h
  refine ⟨⟨a, c, e, h1, h2, fun i x hx => ?_⟩, fun x hx => ?_⟩
  · obtain ⟨p, r, q1, q2, q3, q4, q5⟩ := h3 i x hx
    exact ⟨p, r, q1, q2, q3, q4, q5.1⟩
  · obtain ⟨i, hi⟩ := List.mem_iff_getElem?.1 hx
    obtain ⟨_, _, _, _, _, _, q5⟩ := h3 i x hi
    exact q5.2
end Go.K
namespace Go.Proofs.YtlbaopamhkmepaaGreatDoor
open Go Go.K
open Go.ChangeShapes Go.WideShapes Go.ChangeAt Go.RowKit Go.Joins
variable {H : Type} {enc : TypeId × Value → H} {w : World} {base : Nat} {spare : Nat → Bool} {held : Bool}
theorem attr_of_trodR {n : Nat} {cs : List Value} {y : DataW H × List MemPlace} (h : DataW.trod enc Tryz.prog w base spare held n 109 cs = some y) : ∃ x : Attr, cs = x.cells ∧ InA x := by
  have c0 : Tryz.prog.cellsOf 109 = 5 := by kernel_rfl
  have c1 : Tryz.prog.cellsOf 3 = 1 := by kernel_rfl
  have c2 : Tryz.prog.cellsOf 107 = 4 := by kernel_rfl
  obtain ⟨y0, y1, m, _, hl, h0, h1⟩ := trod_struct2 Tryz.underlying109 h
  rw [c0] at hl
  simp only [c1, c2] at h0 h1
  match cs, hl with
  | [a0, a1, a2, a3, a4], _ =>
    simp only [List.drop_zero, List.take_succ_cons, List.take_zero, List.drop_succ_cons] at h0 h1
    obtain ⟨k, e0, _, w0⟩ := DataW.trod_int Tryz.underlying3 h0
    obtain ⟨x, ex, hx⟩ := val_of_trodR h1
    cases e0
    have r0 := wf_range w0
    have m1 : IntKind.i64.min = -9223372036854775808 ∧ IntKind.i64.max = 9223372036854775807 := by decide
    rw [m1.1, m1.2] at r0
    refine ⟨⟨k, x⟩, ?_, r0, hx⟩
    show _ = Value.int .i64 k :: x.cells
    rw [← ex]
end Go.Proofs.YtlbaopamhkmepaaGreatDoor

namespace Go.Proofs.YtlbaopamhkmepaaGreatDoor
open Go Go.K
open Go.ChangeShapes Go.WideShapes Go.ChangeAt Go.RowKit Go.Joins
variable {H : Type} {enc : TypeId × Value → H} {w : World} {base : Nat} {spare : Nat → Bool} {held : Bool}
theorem attr_inj' {x y : Attr} (h : x.cells = y.cells) : x = y := by
  obtain ⟨k, v, n, f, s⟩ := x
  obtain ⟨k', v', n', f', s'⟩ := y
  simp only [Attr.cells, AVal.cells, List.cons.injEq, Value.int.injEq, Value.string.injEq, true_and, and_true] at h
  obtain ⟨rfl, rfl, rfl, rfl, rfl⟩ := h
  rfl
theorem val_inj {x y : AVal} (h : x.cells = y.cells) : x = y := by
  obtain ⟨v, n, f, s⟩ := x
  obtain ⟨v', n', f', s'⟩ := y
  simp only [AVal.cells, List.cons.injEq, Value.int.injEq, Value.string.injEq, true_and, and_true] at h
  obtain ⟨rfl, rfl, rfl, rfl⟩ := h
  rfl
theorem attr_of_trodF {n : Nat} {cs : List Value} {y : DataW H × List MemPlace} (h : DataW.trod enc Tryz.prog w base spare held n 109 cs = some y) : ∃ x : Attr, (RAttr w cs x ∧ 0 ≤ x.val.f) ∧ mAttr x ≤ Rows.uptoBulk y.1 := by
  obtain ⟨x, e, hx⟩ := attr_of_trodR h
  obtain ⟨x', e', hm⟩ := attr_of_trodU h
  have e'' : cs = x'.cells := e'
  have : x = x' := attr_inj' (e.symm.trans e'')
  subst this
  exact ⟨x, ⟨e, hx.2.2.2.1.1⟩, hm⟩
theorem chg_of_trodF {n : Nat} {cs : List Value} {y : DataW H × List MemPlace} (h : DataW.trod enc Tryz.prog w base spare held n 111 cs = some y) : ∃ x : Chg, (RChg w cs x ∧ 0 ≤ x.val.f) ∧ mChg x ≤ Rows.uptoBulk y.1 := by
  have c2 : Tryz.prog.cellsOf 107 = 4 := by kernel_rfl
  obtain ⟨x, e, hm⟩ := chg_of_trodU h
  obtain ⟨xs, m, _, _, hl, hlen, hf⟩ := DataW.trod_struct Tryz.underlying111 h
  match xs, hlen with
  | [y0, y1, y2], _ =>
    have h2 : DataW.trod enc Tryz.prog w base spare held m 107 ((cs.drop 2).take (Tryz.prog.cellsOf 107)) = some y2 := hf 2 _ rfl
    rw [c2] at h2
    obtain ⟨v, ev, hv⟩ := val_of_trodR h2
    have e' : cs = x.cells := e
    subst e'
    have : v = x.val := val_inj (ev.symm.trans (by rfl))
    subst this
    exact ⟨x, ⟨rfl, hv.2.2.1.1⟩, hm⟩
theorem set_of_trodF {n : Nat} {cs : List Value} {y : DataW H × List MemPlace} (h : DataW.trod enc Tryz.prog w base spare held n 36 cs = some y) : ∃ v l, cs = [v] ∧ (RSet (fun _ => True) w v l ∧ ∀ a ∈ l, 0 ≤ a.val.f) ∧ mSet l + 1 ≤ Rows.uptoBulk y.1 := by
  obtain ⟨v, l, e, hl, hm⟩ := SlR.of_trodU (k := 5) (μ := mAttr) (R := fun (w : World) r (x : Attr) => RAttr w r x ∧ 0 ≤ x.val.f) Tryz.underlying36 (by kernel_rfl) (fun _ _ _ h => attr_of_trodF h) h
  exact ⟨v, l, e, hl.strip, hm⟩
theorem pat_of_trodF {n : Nat} {cs : List Value} {y : DataW H × List MemPlace} (h : DataW.trod enc Tryz.prog w base spare held n 37 cs = some y) : ∃ v l, cs = [v] ∧ (RPat (fun _ => True) w v l ∧ ∀ a ∈ l, 0 ≤ a.val.f) ∧ mPat l + 1 ≤ Rows.uptoBulk y.1 := by
  obtain ⟨v, l, e, hl, hm⟩ := SlR.of_trodU (k := 6) (μ := mChg) (R := fun (w : World) r (x : Chg) => RChg w r x ∧ 0 ≤ x.val.f) Tryz.underlying37 (by kernel_rfl) (fun _ _ _ h => chg_of_trodF h) h
  exact ⟨v, l, e, hl.strip, hm⟩
set_option maxRecDepth 20000 in
theorem dop_of_trodF {n : Nat} {cs : List Value} {y : DataW H × List MemPlace} (h : DataW.trod enc Tryz.prog w base spare held n 39 cs = some y) : ∃ x : Dop, (RDop (fun _ => True) w cs x ∧ InO x) ∧ mDop x ≤ Rows.uptoBulk y.1 := by
  have c0 : Tryz.prog.cellsOf 39 = 5 := by kernel_rfl
  have c1 : Tryz.prog.cellsOf 3 = 1 := by kernel_rfl
  have c2 : Tryz.prog.cellsOf 5 = 1 := by kernel_rfl
  have c3 : Tryz.prog.cellsOf 35 = 1 := by kernel_rfl
  have c4 : Tryz.prog.cellsOf 36 = 1 := by kernel_rfl
  have c5 : Tryz.prog.cellsOf 37 = 1 := by kernel_rfl
  obtain ⟨xs, m, _, rfl, hl, hlen, hf⟩ := DataW.trod_struct Tryz.underlying39 h
  match xs, hlen with
  | [y0, y1, y2, y3, y4], _ =>
    have h0 : DataW.trod enc Tryz.prog w base spare held m 5 ((cs.drop 0).take (Tryz.prog.cellsOf 5)) = some y0 := hf 0 _ rfl
    have h1 : DataW.trod enc Tryz.prog w base spare held m 3 ((cs.drop 1).take (Tryz.prog.cellsOf 3)) = some y1 := hf 1 _ rfl
    have h2 : DataW.trod enc Tryz.prog w base spare held m 35 ((cs.drop 2).take (Tryz.prog.cellsOf 35)) = some y2 := hf 2 _ rfl
    have h3 : DataW.trod enc Tryz.prog w base spare held m 36 ((cs.drop 3).take (Tryz.prog.cellsOf 36)) = some y3 := hf 3 _ rfl
    have h4 : DataW.trod enc Tryz.prog w base spare held m 37 ((cs.drop 4).take (Tryz.prog.cellsOf 37)) = some y4 := hf 4 _ rfl
    rw [c0] at hl
    rw [c2] at h0
    rw [c1] at h1
    rw [c3] at h2
    rw [c4] at h3
    rw [c5] at h4
    obtain ⟨a0, a1, a2, a3, a4, rfl⟩ := len5 hl
    · clear hf
      simp only [List.drop_zero, List.take_succ_cons, List.take_zero, List.drop_succ_cons] at h0 h1 h2 h3 h4
      obtain ⟨k, e0, _, _⟩ := DataW.trod_int Tryz.underlying5 h0
      obtain ⟨n, e1, _, _⟩ := DataW.trod_int Tryz.underlying3 h1
      obtain ⟨rv, rl, e2, hr, b2⟩ := runes_of_trodU h2
      obtain ⟨sv, sl, e3, ⟨hs, i3⟩, b3⟩ := set_of_trodF h3
      obtain ⟨pv, pl', e4, ⟨hp, i4⟩, b4⟩ := pat_of_trodF h4
      cases e0; cases e1; cases e2; cases e3; cases e4
      refine ⟨⟨k, n, rl, sl, pl'⟩, ⟨⟨a2, a3, a4, rfl, hr, hs, hp⟩, i3, i4⟩, ?_⟩
      simp only [mDop, List.map_cons, List.map_nil, Rows.uptoBulk, Rows.uptoBulkAll]
      omega
theorem dops_of_trodF {n : Nat} {cs : List Value} {y : DataW H × List MemPlace} (h : DataW.trod enc Tryz.prog w base spare held n 31 cs = some y) : ∃ v l, cs = [v] ∧ (RDops (fun _ => True) (fun _ => True) w v l ∧ ∀ o ∈ l, InO o) ∧ mDops l + 1 ≤ Rows.uptoBulk y.1 := by
  obtain ⟨v, l, e, hl, hm⟩ := SlR.of_trodU (k := 5) (μ := mDop) (R := fun (w : World) r (x : Dop) => RDop (fun _ => True) w r x ∧ InO x) Tryz.underlying31 (by kernel_rfl) (fun _ _ _ h => dop_of_trodF h) h
  exact ⟨v, l, e, hl.strip, hm⟩
/-- a call of a script -/
structure HOp where
  kind : Int
  d : List Dop
  u : List Dop
def RHOp (S : Nat → Prop) : World → List Value → HOp → Prop := fun w r x => ∃ dv uv, r = [.int .i64 x.kind, dv, uv] ∧ RDops S S w dv x.d ∧ RDops S S w uv x.u
theorem RHOp.one {S : Nat → Prop} {w : World} {r : List Value} {x : HOp} (h : RHOp S w r x) : ∀ u ∈ r, u.oneCell' = true := by
  obtain ⟨dv, uv, rfl, h1, h2⟩ := h
  obtain ⟨a, c, rfl, _⟩ := h1.shape
  obtain ⟨a', c', rfl, _⟩ := h2.shape
  intro u hu
  simp at hu
  rcases hu with rfl | rfl | rfl <;> rfl
theorem RHOp.mod {S M : Nat → Prop} {w w' : World} {r : List Value} {x : HOp} (h : RHOp S w r x) (hm : Mod M w w') (hS : ∀ b, b < w.heap.size → S b → ¬ M b) : RHOp S w' r x := by
  obtain ⟨dv, uv, e, h1, h2⟩ := h
  exact ⟨dv, uv, e, RDops.mod h1 hm hS hS, RDops.mod h2 hm hS hS⟩
set_option maxRecDepth 20000 in
theorem hop_of_trodF {n : Nat} {cs : List Value} {y : DataW H × List MemPlace} (h : DataW.trod enc Tryz.prog w base spare held n 58 cs = some y) : ∃ x : HOp, (RHOp (fun _ => True) w cs x ∧ (∀ o ∈ x.d, InO o) ∧ ∀ o ∈ x.u, InO o) ∧ mDops x.d + mDops x.u ≤ Rows.uptoBulk y.1 := by
  have c0 : Tryz.prog.cellsOf 58 = 3 := by kernel_rfl
  have c1 : Tryz.prog.cellsOf 3 = 1 := by kernel_rfl
  have c2 : Tryz.prog.cellsOf 31 = 1 := by kernel_rfl
  obtain ⟨xs, m, _, rfl, hl, hlen, hf⟩ := DataW.trod_struct Tryz.underlying58 h
  match xs, hlen with
  | [y0, y1, y2], _ =>
    have h0 : DataW.trod enc Tryz.prog w base spare held m 3 ((cs.drop 0).take (Tryz.prog.cellsOf 3)) = some y0 := hf 0 _ rfl
    have h1 : DataW.trod enc Tryz.prog w base spare held m 31 ((cs.drop 1).take (Tryz.prog.cellsOf 31)) = some y1 := hf 1 _ rfl
    have h2 : DataW.trod enc Tryz.prog w base spare held m 31 ((cs.drop 2).take (Tryz.prog.cellsOf 31)) = some y2 := hf 2 _ rfl
    rw [c0] at hl
    rw [c1] at h0
    rw [c2] at h1 h2
    match cs, hl with
    | [a0, a1, a2], _ =>
      clear hf
      simp only [List.drop_zero, List.take_succ_cons, List.take_zero, List.drop_succ_cons] at h0 h1 h2
      obtain ⟨k, e0, _, _⟩ := DataW.trod_int Tryz.underlying3 h0
      obtain ⟨v1, l1, e1, ⟨q1, i1⟩, m1⟩ := dops_of_trodF h1
      obtain ⟨v2, l2, e2, ⟨q2, i2⟩, m2⟩ := dops_of_trodF h2
      cases e0; cases e1; cases e2
      refine ⟨⟨k, l1, l2⟩, ⟨⟨_, _, rfl, q1, q2⟩, i1, i2⟩, ?_⟩
      simp only [List.map_cons, List.map_nil, Rows.uptoBulk, Rows.uptoBulkAll]
      omega
theorem le_sumH {α : Type} {μ : α → Nat} {l : List α} {a : α} (h : a ∈ l) : μ a ≤ (l.map μ).sum := by
  induction l with
  | nil => cases h
  | cons b l ih =>
    simp only [List.map_cons, List.sum_cons]
    rcases List.mem_cons.1 h with rfl | h
    · omega
    · have := ih h; omega
theorem hops_of_trodF {n : Nat} {cs : List Value} {y : DataW H × List MemPlace} (h : DataW.trod enc Tryz.prog w base spare held n 49 cs = some y) : ∃ v l, cs = [v] ∧ SlR (fun _ => True) 3 (RHOp fun _ => True) w v l ∧ ∀ x ∈ l, ((∀ o ∈ x.d, InO o) ∧ ∀ o ∈ x.u, InO o) ∧ mDops x.d + mDops x.u ≤ Rows.uptoBulk y.1 := by
  obtain ⟨v, l, e, hl, hm⟩ := SlR.of_trodU (k := 3) (μ := fun x : HOp => mDops x.d + mDops x.u) (R := fun (w : World) r (x : HOp) => RHOp (fun _ => True) w r x ∧ (∀ o ∈ x.d, InO o) ∧ ∀ o ∈ x.u, InO o) Tryz.underlying49 (by kernel_rfl) (fun _ _ _ h => hop_of_trodF h) h
  obtain ⟨h1, h2⟩ := hl.strip
  refine ⟨v, l, e, h1, fun x hx => ⟨h2 x hx, ?_⟩⟩
  have q1 : mDops x.d + mDops x.u ≤ (l.map fun x : HOp => mDops x.d + mDops x.u).sum := le_sumH (μ := fun x : HOp => mDops x.d + mDops x.u) hx
  omega
end Go.Proofs.YtlbaopamhkmepaaGreatDoor

namespace Go.Proofs.YtlbaopamhkmepaaGreatDoor
open Go Go.K
/-- rubric/rubricref20.Small -/
def S89 (v0 v1 : Value) (K : Cont) (w : World) : Prop :=
  LoopK [(.int .i64 0), (.int .i64 0)] (fun vs again w1 => ∀ _h : Env,
  lenK v0 fun t10 =>
  ltK .i64 (nth vs 1) t10 fun t11 =>
  condK t11
  (ixK 5 v0 (nth vs 1) fun t16 =>
  ldnK 5 t16 (fun t17 w2 =>
  callK Tryz.prog 148 [t17] (fun t18 w3 =>
  JoinK (fun _vs_1 w4 => ∀ _h_1 : Env,
  addK .i64 (nth vs 0) t18 fun t28 =>
  gtK .i64 t28 v1 fun t31 =>
  condK t31
  (K (.bool false) w4)
  (addK .i64 (nth vs 1) (.int .i64 1) fun t13 =>
  again [t28, t13] w4)) (fun J =>
  ltK .i64 t18 (.int .i64 0) fun t20 =>
  condK t20
  (K (.bool false) w3)
  (gtK .i64 t18 v1 fun t24 =>
  condK t24
  (K (.bool false) w3)
  (J [] w3)))) w2) w1)
  (K (.bool true) w1)) w
theorem S89_eq (v0 v1 : Value) (K : Cont) (w : World) : S89 v0 v1 K w = D Tryz.prog okf 32 (bodyOf Tryz.f89) (.node [] [] .nil (.node [] [] .nil (.node [] [] (.node [] [] .nil (.node [5, 6] [(4, 31)] (.node [] [] (.node [] [] .nil (.node [] [] .nil .nil)) (.node [] [] (.node [] [] .nil (.cut [] [(4, 4), (19, 25)] (.node [] [] .nil (.node [] [] (.node [] [] .nil .nil) .nil)) (.node [] [] .nil (.node [] [] .nil (.node [] [] (.node [] [] .nil .nil) .nil))))) .nil)) .nil)) (.node [] [] .nil .nil)))) (retK Tryz.prog [.tmp 4] K) (nth [v0, v1]) w := by kernel_rfl
theorem S89_ok {v0 v1 : Value} {K : Cont} {w : World} (h : S89 v0 v1 K w) : callK Tryz.prog 89 [v0, v1] K w :=
  callK_of (P := Tryz.prog) (ok := okf) (n := 32) (fn := Tryz.f89) (c := bodyOf Tryz.f89) (rs := [.tmp 4]) (an := (.node [] [] .nil (.node [] [] .nil (.node [] [] (.node [] [] .nil (.node [5, 6] [(4, 31)] (.node [] [] (.node [] [] .nil (.node [] [] .nil .nil)) (.node [] [] (.node [] [] .nil (.cut [] [(4, 4), (19, 25)] (.node [] [] .nil (.node [] [] (.node [] [] .nil .nil) .nil)) (.node [] [] .nil (.node [] [] .nil (.node [] [] (.node [] [] .nil .nil) .nil))))) .nil)) .nil)) (.node [] [] .nil .nil))))) good mixed Tryz.func89 (by kernel_rfl) (by kernel_rfl) (by kernel_rfl) (by kernel_rfl) (Eq.mp (S89_eq v0 v1 K w) h)

/-- rubric/rubricref27.Fit -/
def S56 (v0 v1 : Value) (K : Cont) (w : World) : Prop :=
  callK Tryz.prog 34 [v1] (fun t6 w1 =>
  leK .i64 t6 (.int .i64 60) fun t7 =>
  condK t7
  (callK Tryz.prog 62 [v0, v1] (fun t11 w2 =>
  eqK .i64 t11 (.int .i64 0) fun t12 =>
  condK t12
  (callK Tryz.prog 89 [v1, (.int .i64 200)] (fun t16 w3 =>
  K t16 w3) w2)
  (K (.bool false) w2)) w1)
  (K (.bool false) w1)) w
theorem S56_eq (v0 v1 : Value) (K : Cont) (w : World) : S56 v0 v1 K w = D Tryz.prog okf 18 (bodyOf Tryz.f56) (.node [] [] .nil (.node [] [] .nil .nil)) (retK Tryz.prog [.tmp 4] K) (nth [v0, v1]) w := by kernel_rfl
theorem S56_ok {v0 v1 : Value} {K : Cont} {w : World} (h : S56 v0 v1 K w) : callK Tryz.prog 56 [v0, v1] K w :=
  callK_of (P := Tryz.prog) (ok := okf) (n := 18) (fn := Tryz.f56) (c := bodyOf Tryz.f56) (rs := [.tmp 4]) (an := (.node [] [] .nil (.node [] [] .nil .nil))) good mixed Tryz.func56 (by kernel_rfl) (by kernel_rfl) (by kernel_rfl) (by kernel_rfl) (Eq.mp (S56_eq v0 v1 K w) h)

/-- rubric/rubriclaw27.tame -/
def S23 (v0 v1 : Value) (K : Cont) (w : World) : Prop :=
  lenK v1 fun t7 =>
  gtK .i64 t7 (.int .i64 80) fun t8 =>
  condK t8
  (K (.bool false) w)
  (lenK v1 fun t10 =>
  LoopK [(.int .i64 0)] (fun vs again w1 => ∀ _h : Env,
  ltK .i64 (nth vs 0) t10 fun t12 =>
  condK t12
  (ixK 3 v1 (nth vs 0) fun t16 =>
  faK 0 t16 fun t17 =>
  ld1K t17 (fun t18 w2 =>
  eqK .i64 t18 (.int .i64 1) fun t19 =>
  condK t19
  (ixK 3 v1 (nth vs 0) fun t24 =>
  faK 1 t24 fun t25 =>
  ld1K t25 (fun t26 w3 =>
  callK Tryz.prog 56 [v0, t26] (fun t27 w4 =>
  notK t27 fun t28 =>
  condK t28
  (K (.bool false) w4)
  (ixK 3 v1 (nth vs 0) fun t33 =>
  faK 2 t33 fun t34 =>
  ld1K t34 (fun t35 w5 =>
  callK Tryz.prog 56 [v0, t35] (fun t36 w6 =>
  notK t36 fun t37 =>
  condK t37
  (K (.bool false) w6)
  (addK .i64 (nth vs 0) (.int .i64 1) fun t40_1 =>
  again [t40_1] w6)) w5) w4)) w3) w2)
  (addK .i64 (nth vs 0) (.int .i64 1) fun t40_2 =>
  again [t40_2] w2)) w1)
  (K (.bool true) w1)) w)
theorem S23_eq (v0 v1 : Value) (K : Cont) (w : World) : S23 v0 v1 K w = D Tryz.prog okf 41 (bodyOf Tryz.f23) (.node [] [] .nil (.node [] [] (.node [] [] .nil (.node [] [] (.node [] [] .nil .nil) .nil)) (.node [] [] (.node [] [] .nil (.node [11] [(4, 5), (11, 40)] (.node [] [] .nil (.node [] [] (.node [] [] .nil .nil) (.node [] [] (.node [] [] .nil (.node [] [] .nil (.node [] [] (.node [] [] .nil .nil) .nil))) .nil))) .nil)) (.node [] [] .nil .nil)))) (retK Tryz.prog [.tmp 4] K) (nth [v0, v1]) w := by kernel_rfl
theorem S23_ok {v0 v1 : Value} {K : Cont} {w : World} (h : S23 v0 v1 K w) : callK Tryz.prog 23 [v0, v1] K w :=
  callK_of (P := Tryz.prog) (ok := okf) (n := 41) (fn := Tryz.f23) (c := bodyOf Tryz.f23) (rs := [.tmp 4]) (an := (.node [] [] .nil (.node [] [] (.node [] [] .nil (.node [] [] (.node [] [] .nil .nil) .nil)) (.node [] [] (.node [] [] .nil (.node [11] [(4, 5), (11, 40)] (.node [] [] .nil (.node [] [] (.node [] [] .nil .nil) (.node [] [] (.node [] [] .nil (.node [] [] .nil (.node [] [] (.node [] [] .nil .nil) .nil))) .nil))) .nil)) (.node [] [] .nil .nil))))) good mixed Tryz.func23 (by kernel_rfl) (by kernel_rfl) (by kernel_rfl) (by kernel_rfl) (Eq.mp (S23_eq v0 v1 K w) h)

/-- rubric/rubriclaw27.HistoryMost -/
def S8 (v0 v1 v2 : Value) (K : Cont) (w : World) : Prop :=
  callK Tryz.prog 14 [v0] (fun t18 w1 =>
  extK 0 t18 fun t19 =>
  extK 1 t18 fun t20 =>
  callK Tryz.prog 15 [t19, v1] (fun t24 w2 =>
  extK 0 t24 fun t25 =>
  extK 1 t24 fun t26 =>
  JoinK (fun _vs w3 => ∀ _h : Env,
  lenK v2 fun t45 =>
  LoopK [(.int .i64 0), (.int .i64 0)] (fun vs_1 again w4 => ∀ _h_1 : Env,
  ltK .i64 (nth vs_1 1) t45 fun t47 =>
  condK t47
  (JoinK (fun vs_2 w5 => ∀ _h_2 : Env,
  addK .i64 (nth vs_1 1) (.int .i64 1) fun t106 =>
  again [(nth vs_2 0), t106] w5) (fun J_1 =>
  ixK 3 v2 (nth vs_1 1) fun t48 =>
  ldnK 3 t48 (fun t49 w6 =>
  newK 58 [(.int .i64 0), (.slice none 0 0), (.slice none 0 0)] (fun t13 w7 =>
  stnK 3 t13 t49 (fun w8 =>
  JoinK (fun vs_3 w9 => ∀ _h_3 : Env,
  callK Tryz.prog 20 [t25] (fun t85 w10 =>
  extK 0 t85 fun t86 =>
  extK 1 t85 fun t87 =>
  gtK .i64 t86 v1 fun t90 =>
  condK t90
  (K (.bool false) w10)
  (addK .i64 t86 t87 fun t94 =>
  gtK .i64 t94 (nth vs_3 0) fun t96 =>
  condK t96
  (K (.bool false) w10)
  (ltK .i64 t86 (.int .i64 0) fun t100 =>
  condK t100
  (K (.bool false) w10)
  (ltK .i64 t87 (.int .i64 0) fun t104 =>
  condK t104
  (K (.bool false) w10)
  (J_1 [(nth vs_3 0)] w10))))) w9) (fun J_2 =>
  faK 0 t13 fun t50 =>
  ld1K t50 (fun t51 w11 =>
  eqK .i64 t51 (.int .i64 1) fun t55 =>
  condK t55
  (JoinK (fun _vs_4 w12 => ∀ _h_4 : Env,
  addK .i64 (nth vs_1 0) (.int .i64 1) fun t63 =>
  faK 1 t13 fun t65 =>
  ld1K t65 (fun t66 w13 =>
  faK 2 t13 fun t67 =>
  ld1K t67 (fun t68 w14 =>
  callK Tryz.prog 18 [t25, t66, t68] (fun t69 w15 =>
  neK .i64 t69 (.int .i64 0) fun t70 =>
  condK t70
  (K (.bool false) w15)
  (J_2 [t63] w15)) w14) w13) w12) (fun J_3 =>
  callK Tryz.prog 33 [t25] (fun t57 w16 =>
  condK t57
  (gtK .i64 (nth vs_1 0) (.int .i64 20) fun t60 =>
  condK t60
  (J_1 [(nth vs_1 0)] w16)
  (J_3 [] w16))
  (J_3 [] w16)) w11))
  (eqK .i64 t51 (.int .i64 2) fun t72 =>
  condK t72
  (callK Tryz.prog 27 [t25] (fun _t74 w17 =>
  J_2 [(nth vs_1 0)] w17) w11)
  (eqK .i64 t51 (.int .i64 3) fun t76 =>
  condK t76
  (callK Tryz.prog 29 [t25] (fun _t78 w18 =>
  J_2 [(nth vs_1 0)] w18) w11)
  (eqK .i64 t51 (.int .i64 4) fun t80 =>
  condK t80
  (callK Tryz.prog 19 [t25] (fun _t82 w19 =>
  J_2 [(nth vs_1 0)] w19) w11)
  (callK Tryz.prog 21 [t25] (fun _t53 w20 =>
  J_2 [(nth vs_1 0)] w20) w11))))) w8)) w7) w6) w4))
  (callK Tryz.prog 16 [] (fun t107 w21 =>
  K t107 w21) w4)) w3) (fun J =>
  neK .i64 t20 (.int .i64 0) fun t28 =>
  condK t28
  (callK Tryz.prog 16 [] (fun t43 w22 =>
  K t43 w22) w2)
  (neK .i64 t26 (.int .i64 0) fun t31 =>
  condK t31
  (callK Tryz.prog 16 [] (fun t43_1 w23 =>
  K t43_1 w23) w2)
  (pnilK t25 fun b35 =>
  condK (.bool b35)
  (callK Tryz.prog 16 [] (fun t43_2 w24 =>
  K t43_2 w24) w2)
  (callK Tryz.prog 23 [v0, v2] (fun t40 w25 =>
  notK t40 fun t41 =>
  condK t41
  (callK Tryz.prog 16 [] (fun t43_3 w26 =>
  K t43_3 w26) w25)
  (J [] w25)) w2))))) w1) w
theorem S8_eq (v0 v1 v2 : Value) (K : Cont) (w : World) : S8 v0 v1 v2 K w = D Tryz.prog okf 108 (bodyOf Tryz.f8) (.node [] [] .nil (.node [] [] .nil (.node [] [] .nil (.cut [] [(6, 6), (27, 43)] (.node [] [] .nil (.node [] [] (.node [] [] .nil .nil) .nil)) (.node [] [] .nil (.node [] [] (.node [] [] .nil (.node [11, 46] [(6, 6), (11, 11), (13, 15), (46, 106)] (.node [] [] .nil (.node [] [] (.node [] [] .nil .nil) (.cut [11] [(6, 6), (11, 11), (13, 15), (48, 105)] (.node [] [] .nil (.cut [11] [(6, 6), (11, 11), (50, 82)] (.node [] [] .nil (.node [] [] .nil (.node [] [] (.cut [] [(56, 61)] (.node [] [] .nil (.node [] [] .nil .nil)) (.node [] [] .nil (.node [] [] .nil (.node [] [] (.node [] [] .nil .nil) .nil)))) (.node [] [] .nil (.node [] [] .nil (.node [] [] .nil (.node [] [] .nil (.node [] [] .nil (.node [] [] .nil .nil))))))))) (.node [] [] .nil (.node [] [] .nil (.node [] [] (.node [] [] .nil .nil) .nil))))) .nil))) .nil)) (.node [] [] .nil .nil))))))) (retK Tryz.prog [.tmp 6] K) (nth [v0, v1, v2]) w := by kernel_rfl
theorem S8_ok {v0 v1 v2 : Value} {K : Cont} {w : World} (h : S8 v0 v1 v2 K w) : callK Tryz.prog 8 [v0, v1, v2] K w :=
  callK_of (P := Tryz.prog) (ok := okf) (n := 108) (fn := Tryz.f8) (c := bodyOf Tryz.f8) (rs := [.tmp 6]) (an := (.node [] [] .nil (.node [] [] .nil (.node [] [] .nil (.cut [] [(6, 6), (27, 43)] (.node [] [] .nil (.node [] [] (.node [] [] .nil .nil) .nil)) (.node [] [] .nil (.node [] [] (.node [] [] .nil (.node [11, 46] [(6, 6), (11, 11), (13, 15), (46, 106)] (.node [] [] .nil (.node [] [] (.node [] [] .nil .nil) (.cut [11] [(6, 6), (11, 11), (13, 15), (48, 105)] (.node [] [] .nil (.cut [11] [(6, 6), (11, 11), (50, 82)] (.node [] [] .nil (.node [] [] .nil (.node [] [] (.cut [] [(56, 61)] (.node [] [] .nil (.node [] [] .nil .nil)) (.node [] [] .nil (.node [] [] .nil (.node [] [] (.node [] [] .nil .nil) .nil)))) (.node [] [] .nil (.node [] [] .nil (.node [] [] .nil (.node [] [] .nil (.node [] [] .nil (.node [] [] .nil .nil))))))))) (.node [] [] .nil (.node [] [] .nil (.node [] [] (.node [] [] .nil .nil) .nil))))) .nil))) .nil)) (.node [] [] .nil .nil)))))))) good mixed Tryz.func8 (by kernel_rfl) (by kernel_rfl) (by kernel_rfl) (by kernel_rfl) (Eq.mp (S8_eq v0 v1 v2 K w) h)

end Go.Proofs.YtlbaopamhkmepaaGreatDoor

namespace Go.Proofs.YtlbaopamhkmepaaGreatDoor
open Go Go.K

/-- small: no op below nothing, all together at most so many -/
def SumLen (x : List Dop) (q : Nat) : Int := ((x.take q).map lenO).sum
theorem SumLen_succ {x : List Dop} {q : Nat} (h : q < x.length) : SumLen x (q + 1) = SumLen x q + lenO x[q] := by
  unfold SumLen
  rw [List.take_add_one, List.getElem?_eq_getElem h, List.map_append, List.sum_append]
  simp
theorem small_ok {S D : Nat → Prop} {v : Value} {x : List Dop} {most : Nat} {w : World} (h : RDops S D w v x) (hm : most ≤ 1000000) :
    callK Tryz.prog 89 [v, .int .i64 most] (fun v' w' => Grow w w' ∧ (v' = .bool false ∨ (v' = .bool true ∧ (∀ o ∈ x, 0 ≤ lenO o) ∧ (x.map lenO).sum ≤ most))) w := by
  apply S89_ok
  unfold S89
  obtain ⟨a, c, rfl, hml⟩ := h.shape
  simp only [maxLen] at hml
  refine LoopK_i (fun vs W => ∃ (q : Nat) (n : Nat), q ≤ x.length ∧ vs = [.int .i64 n, .int .i64 q] ∧ Grow w W ∧ SumLen x q = n ∧ n ≤ most ∧ ∀ o ∈ x.take q, 0 ≤ lenO o) (fun vs _ => x.length - iOf vs 1) ⟨0, 0, by omega, rfl, Mod.refl _ _, rfl, by omega, by simp⟩ ?_
  rintro vs W ⟨q, n, hq, rfl, g, hs, hn, hall⟩ _
  simp only [nth_s, nth_z, List.headD_cons, List.tail_cons]
  rw [lenK_i, ltK_i]
  refine condK_p (fun hlt => ?_) fun hge => ?_
  · have hlt' : q < x.length := by omega
    obtain ⟨p, r, rfl, _, hr, hc, hop⟩ := (RDops.grow h g).get hlt'
    refine ixK_n hlt' (ldnK_i hr (fun j u hu => by rw [Addr.add_add]; exact hc j u hu) ?_)
    refine callK_mono (len_ok hop) ?_
    rintro _ w3 ⟨rfl, g3⟩
    refine JoinK_i (fun _ W' => W' = w3 ∧ 0 ≤ lenO x[q] ∧ lenO x[q] ≤ most) ?_ ?_
    · rintro _ _ ⟨rfl, h0, h1⟩ _
      rename World => w3
      rw [addK_i, wrap64 (by omega) (by omega), gtK_i]
      refine condK_p (fun _ => ⟨g.trans g3, .inl trivial⟩) fun hle => ?_
      rw [addK_i, loop_step (by omega)]
      refine ⟨⟨q + 1, (n + lenO x[q]).toNat, hlt', ?_, g.trans g3, ?_, by omega, fun o ho => ?_⟩, by rw [iOf1, iOf1]; omega⟩
      · congr 2; omega
      · rw [SumLen_succ hlt', hs]; omega
      · rw [List.take_add_one, List.getElem?_eq_getElem hlt'] at ho
        rcases List.mem_append.1 ho with ho | ho
        · exact hall o ho
        · simp at ho; subst ho; exact h0
    · rw [ltK_i]
      refine condK_p (fun _ => ⟨g.trans g3, .inl trivial⟩) fun h0 => ?_
      rw [gtK_i]
      exact condK_p (fun _ => ⟨g.trans g3, .inl trivial⟩) fun h1 => ⟨rfl, by omega, by omega⟩
  · have : q = x.length := by omega
    subst this
    rw [List.take_length] at hall
    refine ⟨g, .inr ⟨trivial, hall, ?_⟩⟩
    unfold SumLen at hs
    rw [List.take_length] at hs
    omega
/-- what may be pushed -/
def FitX (keys : List DKey) (x : List Dop) : Prop := mayOps keys x = 0 ∧ total x ≤ 200 ∧ mDops x ≤ 60
theorem sum_total {x : List Dop} (h : ∀ o ∈ x, 0 ≤ lenO o) : (x.map lenO).sum = (total x : Int) := by
  induction x with
  | nil => rfl
  | cons o x ih =>
    have h1 := ih fun o ho => h o (by simp [ho])
    have h2 := h o (by simp)
    simp only [List.map_cons, List.sum_cons, total] at h1 ⊢
    rw [h1]
    have : lenO o = (lenN o : Int) := by
      unfold lenO at h2 ⊢
      unfold lenN
      by_cases k : o.kind = 2
      · rw [if_pos k, if_pos k]
      · rw [if_neg k] at h2 ⊢
        rw [if_neg k]; omega
    rw [this]; omega
theorem fit_ok {S S' D : Nat → Prop} {kv v : Value} {keys : List DKey} {x : List Dop} {w : World} (hk : RKeys S w kv keys) (h : RDops S' D w v x) (hb : mDops x ≤ 1099511627776) :
    callK Tryz.prog 56 [kv, v] (fun v' w' => Grow w w' ∧ (v' = .bool false ∨ (v' = .bool true ∧ FitX keys x))) w := by
  apply S56_ok
  unfold S56
  refine callK_mono (size_ok h hb) ?_
  rintro _ w1 ⟨rfl, g1⟩
  rw [leK_i]
  refine condK_p (fun h60 => ?_) fun _ => ⟨g1, .inl rfl⟩
  refine callK_mono (mayops_ok (hk.grow g1 (by decide) fun _ _ h => h) (RDops.grow h g1) hb) ?_
  rintro _ w2 ⟨rfl, g2⟩
  rw [eqK_i]
  refine condK_p (fun h0 => ?_) fun _ => ⟨g1.trans g2, .inl rfl⟩
  refine callK_mono (small_ok (most := 200) (RDops.grow h (g1.trans g2)) (by omega)) ?_
  rintro _ w3 ⟨g3, rfl | ⟨rfl, hn, hs⟩⟩
  · exact ⟨(g1.trans g2).trans g3, .inl rfl⟩
  · refine ⟨(g1.trans g2).trans g3, .inr ⟨rfl, h0, ?_, by omega⟩⟩
    rw [sum_total hn] at hs
    omega
def TameH (keys : List DKey) (l : List HOp) : Prop := l.length ≤ 80 ∧ ∀ x ∈ l, x.kind = 1 → FitX keys x.d ∧ FitX keys x.u
theorem tameh_ok {S S' : Nat → Prop} {kv v : Value} {keys : List DKey} {l : List HOp} {w : World} (hk : RKeys S w kv keys) (h : SlR S' 3 (RHOp S') w v l) (hb : ∀ x ∈ l, mDops x.d + mDops x.u ≤ 1099511627776) :
    callK Tryz.prog 23 [kv, v] (fun v' w' => Grow w w' ∧ (v' = .bool false ∨ (v' = .bool true ∧ TameH keys l))) w := by
  apply S23_ok
  unfold S23
  obtain ⟨a, c, rfl, hml⟩ := h.shape
  simp only [maxLen] at hml
  rw [lenK_i, gtK_i]
  refine condK_p (fun _ => ⟨Mod.refl _ _, .inl rfl⟩) fun h80 => ?_
  rw [lenK_i]
  refine LoopK_i (fun vs W => ∃ (i : Nat), i ≤ l.length ∧ vs = [.int .i64 i] ∧ Grow w W ∧ ∀ x ∈ l.take i, x.kind = 1 → FitX keys x.d ∧ FitX keys x.u) (fun vs _ => l.length - iOf vs 0) ⟨0, by omega, rfl, Mod.refl _ _, by simp⟩ ?_
  rintro vs W ⟨i, hi, rfl, g, hall⟩ _
  simp only [nth_s, nth_z, List.headD_cons, List.tail_cons]
  rw [ltK_i]
  refine condK_p (fun hlt => ?_) fun hge => ?_
  · have hlt' : i < l.length := by omega
    have hmem := List.getElem_mem hlt'
    have hbx := hb _ hmem
    obtain ⟨p, r, rfl, _, hr, hc, hop⟩ := (h.grow g (by decide) fun _ _ hx => hx.mod g fun _ _ _ h => h).get hlt'
    obtain ⟨dv, uv, rfl, h1, h2⟩ := hop
    have stp : ∀ {W' : World}, Grow w W' → (l[i].kind = 1 → FitX keys l[i].d ∧ FitX keys l[i].u) → (∃ (i' : Nat), i' ≤ l.length ∧ [Value.int .i64 ((i + 1 : Nat) : Int)] = [.int .i64 (i' : Int)] ∧ Grow w W' ∧ ∀ x ∈ l.take i', x.kind = 1 → FitX keys x.d ∧ FitX keys x.u) ∧ l.length - iOf [.int .i64 ((i + 1 : Nat) : Int)] 0 < l.length - iOf [.int .i64 (i : Int)] 0 := by
      intro W' g' hx
      refine ⟨⟨i + 1, hlt', rfl, g', fun x hxm => ?_⟩, by rw [iOf0, iOf0]; omega⟩
      rw [List.take_add_one, List.getElem?_eq_getElem hlt'] at hxm
      rcases List.mem_append.1 hxm with hxm | hxm
      · exact hall x hxm
      · simp at hxm; subst hxm; exact hx
    refine ixK_n hlt' ?_
    rw [faK_i, Addr.add_add]
    refine ld1K_i (hc 0 _ rfl) ?_
    rw [eqK_i]
    refine condK_p (fun k1 => ?_) fun k1 => ?_
    · refine ixK_n hlt' ?_
      rw [faK_i, Addr.add_add]
      refine ld1K_i (hc 1 _ rfl) ?_
      refine callK_mono (fit_ok (hk.grow g (by decide) fun _ _ h => h) h1 (by omega)) ?_
      rintro _ w3 ⟨g3, rfl | ⟨rfl, f1⟩⟩
      · rw [notK_i]; exact condK_t ⟨g.trans g3, .inl trivial⟩
      · rw [notK_i]
        refine condK_f ?_
        refine ixK_n hlt' ?_
        rw [faK_i, Addr.add_add]
        refine ld1K_i (g3.cell (hc 2 _ rfl) fun h => h) ?_
        refine callK_mono (fit_ok (hk.grow (g.trans g3) (by decide) fun _ _ h => h) (RDops.grow h2 g3) (by omega)) ?_
        rintro _ w4 ⟨g4, rfl | ⟨rfl, f2⟩⟩
        · rw [notK_i]; exact condK_t ⟨(g.trans g3).trans g4, .inl trivial⟩
        · rw [notK_i]
          refine condK_f ?_
          rw [addK_i, loop_step (by omega)]
          exact stp ((g.trans g3).trans g4) fun _ => ⟨f1, f2⟩
    · rw [addK_i, loop_step (by omega)]
      exact stp g fun e => (k1 e).elim
  · have : i = l.length := by omega
    subst this
    rw [List.take_length] at hall
    exact ⟨g, .inr ⟨trivial, by omega, hall⟩⟩
/-- keys in another order -/
theorem setK_congr {keys ks : List DKey} (h : ∀ id, findK keys id = findK ks id) {l : List Attr} (hs : SetK keys l) : SetK ks l :=
  ⟨hs.1, hs.2.1, fun a ha => ⟨(hs.2.2 a ha).1, by obtain ⟨k, hk, h2⟩ := (hs.2.2 a ha).2; exact ⟨k, by rw [← h]; exact hk, h2⟩⟩⟩
theorem patK_congr {keys ks : List DKey} (h : ∀ id, findK keys id = findK ks id) {l : List Chg} (hs : PatK keys l) : PatK ks l :=
  ⟨hs.1, hs.2.1, fun a ha => ⟨(hs.2.2 a ha).1, fun hg => ⟨((hs.2.2 a ha).2.1 hg).1, by obtain ⟨k, hk, h2⟩ := ((hs.2.2 a ha).2.1 hg).2; exact ⟨k, by rw [← h]; exact hk, h2⟩⟩, by rw [← h]; exact (hs.2.2 a ha).2.2⟩⟩
theorem goodK_congr {keys ks : List DKey} (h : ∀ id, findK keys id = findK ks id) {o : Dop} (ho : GoodK keys o) : GoodK ks o := by
  rcases ho with ⟨k1, k2, k3, k4, k5⟩ | ⟨k1, k2, k3, k4, k5⟩ | ⟨k1, k2, k3, k4, k5, k6⟩
  · exact .inl ⟨k1, k2, k3, k4, patK_congr h k5⟩
  · exact .inr (.inl ⟨k1, k2, k3, k4, k5⟩)
  · exact .inr (.inr ⟨k1, k2, k3, k4, k5, setK_congr h k6⟩)
theorem fit_good {keys ks : List DKey} (h : ∀ id, findK keys id = findK ks id) {x y : List Dop} (hx : FitX keys x) (hy : FitX keys y) (ix : ∀ o ∈ x, InO o) (iy : ∀ o ∈ y, InO o) : GoodG ks 200 ⟨x, y⟩ :=
  ⟨fun o ho => ⟨goodK_congr h (may_good hx.1 o ho).1, ix o ho⟩, fun o ho => ⟨goodK_congr h (may_good hy.1 o ho).1, iy o ho⟩, hx.2.1, hy.2.1⟩
theorem GoodG.more {ks : List DKey} {T T' : Nat} {g : Grp} (h : GoodG ks T g) (hT : T ≤ T') : GoodG ks T' g := ⟨h.1, h.2.1, Nat.le_trans h.2.2.1 hT, Nat.le_trans h.2.2.2 hT⟩
/-- a history after so many pushes -/
structure HGood (ks : List DKey) (p : Nat) (h : Hist) : Prop where
  mx : h.max ≤ 65536
  us : h.us.length + h.rs.length ≤ h.max
  tot : h.us.length + h.rs.length + h.own.length ≤ p
  own : h.own.length ≤ 1
  shut : h.op = false → h.own = []
  emp : h.own ≠ [] → h.rs = []
  gu : ∀ g ∈ h.us, GoodG ks 16384 g
  gr : ∀ g ∈ h.rs, GoodG ks 16384 g
  go : ∀ g ∈ h.own, GoodG ks (200 * p) g
theorem keepL_mem {mx : Nat} {us : List Grp} {g a : Grp} (ha : a ∈ keepL mx us g) : a ∈ us ∨ a = g := by
  have : a ∈ us ++ [g] := by
    unfold keepL at ha
    split at ha
    · exact ha
    · exact List.mem_of_mem_drop ha
  simpa using this
section
variable {ks : List DKey} {p : Nat} {h : Hist}
theorem HGood.push (hh : HGood ks p h) (hop : h.op = false) {g : Grp} (hg : GoodG ks 200 g) : HGood ks (p + 1) { h with us := keepL h.max h.us g, rs := [] } := by
  have hu := hh.us
  have hk := keepL_len (g := g) (show h.us.length ≤ h.max by omega)
  have ho := hh.shut hop
  have ht := hh.tot
  refine ⟨hh.mx, by simp only [List.length_nil]; omega, by simp only [List.length_nil]; omega, hh.own, hh.shut, fun _ => rfl, fun a ha => ?_, by simp, fun a ha => (hh.go a ha).more (by omega)⟩
  rcases keepL_mem ha with ha | rfl
  · exact hh.gu a ha
  · exact hg.more (by omega)
theorem HGood.push2 (h64 : ks.length ≤ 64) (hh : HGood ks p h) (hop : h.op = true) {g : Grp} (hg : GoodG ks 200 g) (hp : p ≤ 1000) : HGood ks (p + 1) { h with own := [withL ks h.own g], rs := [] } := by
  have hu := hh.us
  have ht := hh.tot
  refine ⟨hh.mx, by simp only [List.length_nil]; omega, by simp only [List.length_nil, List.length_cons]; omega, by simp, fun e => (by simp only at e; rw [hop] at e; cases e), fun _ => rfl, hh.gu, by simp, fun a ha => ?_⟩
  simp at ha; subst ha
  exact (hg.with h64 hh.go (by omega)).more (by omega)
theorem HGood.begin (hh : HGood ks p h) : HGood ks p { h with op := true, own := [] } :=
  ⟨hh.mx, hh.us, (by have := hh.tot; simp only [List.length_nil]; omega), (by simp), fun e => (by cases e), fun e => (by simp at e), hh.gu, hh.gr, (by simp)⟩
theorem HGood.end (hh : HGood ks p h) (hp : p ≤ 80) : HGood ks p { h with us := endL h.max h.us h.own, op := false, own := [] } := by
  have ht := hh.tot
  have hu := hh.us
  have he := hh.emp
  have hgo := hh.go
  unfold endL
  cases ho : h.own with
  | nil =>
    rw [ho] at ht
    exact ⟨hh.mx, hh.us, by simpa using ht, by simp, fun _ => rfl, fun e => (e rfl).elim, hh.gu, hh.gr, by simp⟩
  | cons g r =>
    rw [ho] at ht he hgo
    have hr := he (by simp)
    rw [hr] at ht hu
    simp only [List.length_cons, List.length_nil] at ht hu
    have hk := keepL_len (g := g) (show h.us.length ≤ h.max by omega)
    refine ⟨hh.mx, by simp only [hr, List.length_nil]; omega, by simp only [hr, List.length_nil]; omega, by simp, fun _ => rfl, fun e => (e rfl).elim, fun a ha => ?_, hh.gr, by simp⟩
    rcases keepL_mem ha with ha | rfl
    · exact hh.gu a ha
    · exact (hgo _ (by simp)).more (by omega)
theorem HGood.undo (hh : HGood ks p h) (hop : h.op = false) {l : List Grp} {g : Grp} (e : h.us = l ++ [g]) : HGood ks p { h with us := l, rs := h.rs ++ [g] } := by
  have ht := hh.tot
  have hu := hh.us
  have hs := hh.shut hop
  rw [e] at ht hu
  simp only [List.length_append, List.length_cons, List.length_nil] at ht hu
  refine ⟨hh.mx, by simp only [List.length_append, List.length_cons, List.length_nil]; omega, by simp only [List.length_append, List.length_cons, List.length_nil]; omega, hh.own, hh.shut, fun e => (e hs).elim, fun a ha => hh.gu a (by rw [e]; simp [ha]), fun a ha => ?_, hh.go⟩
  rcases List.mem_append.1 ha with ha | ha
  · exact hh.gr a ha
  · simp at ha; subst ha; exact hh.gu _ (by rw [e]; simp)
theorem HGood.redo (hh : HGood ks p h) (hop : h.op = false) {l : List Grp} {g : Grp} (e : h.rs = l ++ [g]) : HGood ks p { h with us := h.us ++ [g], rs := l } := by
  have ht := hh.tot
  have hu := hh.us
  have hs := hh.shut hop
  rw [e] at ht hu
  simp only [List.length_append, List.length_cons, List.length_nil] at ht hu
  refine ⟨hh.mx, by simp only [List.length_append, List.length_cons, List.length_nil]; omega, by simp only [List.length_append, List.length_cons, List.length_nil]; omega, hh.own, hh.shut, fun e => (e hs).elim, fun a ha => ?_, fun a ha => hh.gr a (by rw [e]; simp [ha]), hh.go⟩
  rcases List.mem_append.1 ha with ha | ha
  · exact hh.gu a ha
  · simp at ha; subst ha; exact hh.gr _ (by rw [e]; simp)
theorem HGood.small (hh : HGood ks p h) : (∀ g ∈ h.us, mDops g.u ≤ 1099511627776) ∧ ∀ g ∈ h.rs, mDops g.d ≤ 1099511627776 :=
  ⟨fun g hg => ((hh.gu g hg).m (by omega)).2, fun g hg => ((hh.gr g hg).m (by omega)).1⟩
/-- the calls, whatever they find -/
theorem HL.undoA {w0 W : World} {F : Nat → Prop} {b : Nat} (hl : HL w0 F W b ks h) (hh : HGood ks p h) : callK Tryz.prog 19 [.pointer (some ⟨b, 0, none⟩)] (fun v' w' => ∃ F' h', HL w0 F' w' b ks h' ∧ HGood ks p h' ∧ h'.max = h.max) W := by
  have hu := hh.us
  have hm := hh.mx
  cases hop : h.op with
  | true => exact callK_mono (undo_open hl.his hop) fun _ _ ⟨_, _, g⟩ => ⟨F, h, hl.grow g, hh, rfl⟩
  | false =>
    refine callK_mono (hl.undo hop (by omega) (by omega) hh.small.1) ?_
    rintro _ w' (⟨_, _, _, g⟩ | ⟨l, g, cx, n, F', e, _, _, _, hl', _, _⟩)
    · exact ⟨F, h, hl.grow g, hh, rfl⟩
    · exact ⟨F', _, hl', hh.undo hop e, rfl⟩
theorem HL.redoA {w0 W : World} {F : Nat → Prop} {b : Nat} (hl : HL w0 F W b ks h) (hh : HGood ks p h) : callK Tryz.prog 21 [.pointer (some ⟨b, 0, none⟩)] (fun v' w' => ∃ F' h', HL w0 F' w' b ks h' ∧ HGood ks p h' ∧ h'.max = h.max) W := by
  have hu := hh.us
  have hm := hh.mx
  cases hop : h.op with
  | true => exact callK_mono (redo_open hl.his hop) fun _ _ ⟨_, _, g⟩ => ⟨F, h, hl.grow g, hh, rfl⟩
  | false =>
    refine callK_mono (hl.redo hop (by omega) (by omega) hh.small.2) ?_
    rintro _ w' (⟨_, _, _, g⟩ | ⟨l, g, cx, n, F', e, _, _, _, hl', _, _⟩)
    · exact ⟨F, h, hl.grow g, hh, rfl⟩
    · exact ⟨F', _, hl', hh.redo hop e, rfl⟩
theorem HL.beginA {w0 W : World} {F : Nat → Prop} {b : Nat} (hl : HL w0 F W b ks h) (hh : HGood ks p h) : callK Tryz.prog 27 [.pointer (some ⟨b, 0, none⟩)] (fun v' w' => ∃ F' h', HL w0 F' w' b ks h' ∧ HGood ks p h' ∧ h'.max = h.max) W := by
  refine callK_mono (begin_ok hl.his) ?_
  rintro _ w' (⟨_, _, rfl⟩ | ⟨_, _, ha⟩)
  · exact ⟨F, h, hl, hh, rfl⟩
  · obtain ⟨F', h1, _, _⟩ := hl.after ha
    exact ⟨F', _, h1, hh.begin, rfl⟩
theorem HL.endA {w0 W : World} {F : Nat → Prop} {b : Nat} (hl : HL w0 F W b ks h) (hh : HGood ks p h) (hp : p ≤ 80) : callK Tryz.prog 29 [.pointer (some ⟨b, 0, none⟩)] (fun v' w' => ∃ F' h', HL w0 F' w' b ks h' ∧ HGood ks p h' ∧ h'.max = h.max) W := by
  have hu := hh.us
  refine callK_mono (end_ok hl.his hh.own (by omega) hh.mx) ?_
  rintro _ w' (⟨_, _, rfl⟩ | ⟨_, _, ha⟩)
  · exact ⟨F, h, hl, hh, rfl⟩
  · obtain ⟨F', h1, _, _⟩ := hl.after ha
    exact ⟨F', _, h1, hh.end hp, rfl⟩
theorem HL.pushA {w0 W : World} {F S D S' D' : Nat → Prop} {b : Nat} {dv uu : Value} {x y : List Dop} (hl : HL w0 F W b ks h) (hh : HGood ks p h) (hp : p ≤ 80) (h64 : ks.length ≤ 64) (hT : Tabs w0) (hd : RDops S D W dv x) (hu : RDops S' D' W uu y) (gg : GoodG ks 200 ⟨x, y⟩) : callK Tryz.prog 18 [.pointer (some ⟨b, 0, none⟩), dv, uu] (fun v' w' => v' = .int .i64 0 ∧ ∃ F' h', HL w0 F' w' b ks h' ∧ HGood ks (p + 1) h' ∧ h'.max = h.max) W := by
  have hus := hh.us
  cases hop : h.op with
  | true =>
    refine callK_mono (hl.push2 hop hh.own h64 hT hd hu gg hh.go (by omega)) ?_
    rintro _ w' ⟨rfl, F', h1, _, _⟩
    exact ⟨rfl, F', _, h1, hh.push2 h64 hop gg (by omega), rfl⟩
  | false =>
    have hm := gg.m (by omega)
    refine callK_mono (hl.push hop (by omega) hh.mx hd hu hm.1 hm.2) ?_
    rintro _ w' ⟨rfl, F', h1, _, _⟩
    exact ⟨rfl, F', _, h1, hh.push hop gg, rfl⟩
end
set_option maxRecDepth 20000 in
theorem HistoryMost_ok {S S' : Nat → Prop} {max : Int} {kv lv : Value} {keys : List DKey} {l : List HOp} {w : World} (hT : Tabs w) (hk : RKeys S w kv keys) (hl : SlR S' 3 (RHOp S') w lv l) (hI : ∀ x ∈ l, ((∀ o ∈ x.d, InO o) ∧ ∀ o ∈ x.u, InO o) ∧ mDops x.d + mDops x.u ≤ 1099511627776) :
    callK Tryz.prog 8 [kv, .int .i64 max, lv] (fun v w' => v = .bool true ∧ Grow w w') w := by
  apply S8_ok
  unfold S8
  have kn : ∀ {w1 : World}, Grow w w1 → callK Tryz.prog 16 [] (fun v w' => v = .bool true ∧ Grow w w') w1 := fun g => callK_mono known27_ok fun _ _ h => ⟨h.1, g.trans h.2⟩
  obtain ⟨la, lc, rfl, _⟩ := hl.shape
  refine callK_mono (new_key_ok hk) ?_
  rintro _ w1 ⟨g1, ⟨hM, sv, ks, rfl, hpm, hps, hS⟩ | ⟨_, rfl⟩⟩
  rotate_left
  · -- no schema
    refine extK_i (vs := [_, _]) (by rfl) (extK_i (vs := [_, _]) (by rfl) ?_)
    have bad : ∀ (K : Cont), (∀ x y W, Grow w1 W → K (.tuple #[x, y]) W) → callK Tryz.prog 15 [.pointer none, .int .i64 max] K w1 := fun K hK => by
      apply S15_ok
      unfold S15
      refine JoinK_i (fun _ W => W = w1) ?_ ?_
      · rintro _ _ rfl _
        refine ⟨#[.pointer none, .int .i64 max, .bool true, .slice none 0 0, .slice none 0 0, .bool false, .slice none 0 0], by kernel_rfl, ?_⟩
        exact boxn_i (vs := [.pointer none, .int .i64 max, .bool true, .slice none 0 0, .slice none 0 0, .bool false, .slice none 0 0]) fun b w2 _ _ g _ _ => hK _ _ _ g
      · rw [ltK_i]
        refine condK_p (fun _ => hK _ _ _ (Mod.refl _ _)) fun _ => ?_
        rw [gtK_i]
        exact condK_p (fun _ => hK _ _ _ (Mod.refl _ _)) fun _ => rfl
    refine bad _ fun x y W g => ?_
    refine extK_i (vs := [_, _]) (by rfl) (extK_i (vs := [_, _]) (by rfl) ?_)
    refine JoinK_i (fun _ _ => False) (fun _ _ h => h.elim) ?_
    rw [neK_i]
    exact condK_neg (fun e => absurd e (by decide)) fun _ => kn (g1.trans g)
  refine extK_i (vs := [_, _]) (by rfl) (extK_i (vs := [_, _]) (by rfl) ?_)
  have hmk := mayk_iff.1 hM
  have h64 : ks.length ≤ 64 := by rw [hpm.length_eq]; exact hmk.1
  have hfk : ∀ id, findK keys id = findK ks id := fun id => (findK_perm hpm (strict_dist hps) id).symm
  by_cases hmx : max < 0 ∨ 65536 < max
  · refine callK_mono (hnew_bad hmx) ?_
    rintro _ _ ⟨rfl, rfl⟩
    rename World => w1
    refine extK_i (vs := [_, _]) (by rfl) (extK_i (vs := [_, _]) (by rfl) ?_)
    refine JoinK_i (fun _ _ => False) (fun _ _ h => h.elim) ?_
    rw [neK_i]
    refine condK_neg (fun _ => ?_) fun _ => kn g1
    rw [neK_i]
    exact condK_neg (fun e => absurd e (by decide)) fun _ => kn g1
  obtain ⟨mx, rfl⟩ : ∃ m : Nat, max = m := ⟨max.toNat, by omega⟩
  refine callK_mono (HL.new (mx := mx) hS (fun x _ hx => hx) g1 (by omega)) ?_
  rintro _ w2 ⟨b, F, rfl, hH⟩
  refine extK_i (vs := [_, _]) (by rfl) (extK_i (vs := [_, _]) (by rfl) ?_)
  have rl : ∀ {W : World}, Grow w W → SlR S' 3 (RHOp S') W (.slice la l.length lc) l := fun g => hl.grow g (by decide) fun _ _ hx => hx.mod g fun _ _ _ h => h
  refine JoinK_i (fun _ W => Grow w2 W ∧ TameH keys l) ?_ ?_
  rotate_left
  · rw [neK_i]
    refine condK_neg (fun _ => ?_) fun e => (e rfl).elim
    rw [neK_i]
    refine condK_neg (fun _ => ?_) fun e => (e rfl).elim
    refine pnilK_s (condK_f ?_)
    refine callK_mono (tameh_ok (hk.grow hH.g (by decide) fun _ _ h => h) (rl hH.g) fun x hx => (hI x hx).2) ?_
    rintro _ w3 ⟨g3, rfl | ⟨rfl, ht⟩⟩
    · rw [notK_i]; exact condK_t (kn (hH.g.trans g3))
    · rw [notK_i]; exact condK_f ⟨g3, ht⟩
  rintro _ w3 ⟨g3, ht⟩ _
  have h80 := ht.1
  rw [lenK_i]
  refine LoopK_i (fun vs W => ∃ (p i : Nat) (F : Nat → Prop) (h : Hist), p ≤ i ∧ i ≤ l.length ∧ vs = [.int .i64 p, .int .i64 i] ∧ HL w F W b ks h ∧ HGood ks p h ∧ h.max = mx) (fun vs _ => l.length - iOf vs 1)
    ⟨0, 0, F, _, by omega, by omega, rfl, hH.grow g3, ⟨by show mx ≤ 65536; omega, by simp, by simp, by simp, fun _ => rfl, fun e => (e rfl).elim, by simp, by simp, by simp⟩, rfl⟩ ?_
  clear hH
  rintro vs W ⟨p, i, F, h, hp, hi, rfl, hH, hG, hmax⟩ _
  simp only [nth_s, nth_z, List.headD_cons, List.tail_cons]
  rw [ltK_i]
  refine condK_p (fun hlt => ?_) fun hge => kn hH.g
  have hlt' : i < l.length := by omega
  have hmem := List.getElem_mem hlt'
  have ht1 := ht.2 _ hmem
  have hi1 := (hI _ hmem).1
  refine JoinK_i (fun vs W' => ∃ (p' : Nat) (F : Nat → Prop) (h : Hist), p' ≤ i + 1 ∧ vs = [.int .i64 p'] ∧ HL w F W' b ks h ∧ HGood ks p' h ∧ h.max = mx) ?_ ?_
  · rintro _ W' ⟨p', F', h', hp', rfl, hH', hG', hm'⟩ _
    simp only [nth_s, nth_z, List.headD_cons, List.tail_cons]
    rw [addK_i, loop_step (by omega)]
    exact ⟨⟨p', i + 1, F', h', hp', hlt', rfl, hH', hG', hm'⟩, by rw [iOf1, iOf1]; omega⟩
  obtain ⟨q, r, rfl, _, hr, hc, hop⟩ := (rl hH.g).get hlt'
  refine ixK_n hlt' (ldnK_i hr (fun j u hu => by rw [Addr.add_add]; exact hc j u hu) ?_)
  refine newst_n hr rfl hop.one fun b13 w8 hb13 hz8 g8 hc8 _ => ?_
  obtain ⟨dv, uv, rfl, h1, h2⟩ := hop
  have hH8 := hH.grow g8
  refine JoinK_i (fun vs W' => ∃ (p' : Nat) (F : Nat → Prop) (h : Hist), p' ≤ i + 1 ∧ vs = [.int .i64 p'] ∧ HL w F W' b ks h ∧ HGood ks p' h ∧ h.max = mx) ?_ ?_
  · rintro _ W' ⟨p', F', h', hp', rfl, hH', hG', hm'⟩ _
    simp only [nth_s, nth_z, List.headD_cons, List.tail_cons]
    have e1 := hG'.us
    have e2 := hG'.tot
    refine callK_mono (depths_ok hH'.his) ?_
    rintro _ w10 ⟨rfl, g10⟩
    refine extK_i (vs := [_, _]) (by rfl) (extK_i (vs := [_, _]) (by rfl) ?_)
    rw [gtK_i]
    refine condK_p (fun e => by omega) fun _ => ?_
    rw [addK_i, wrap64 (by omega) (by omega), gtK_i]
    refine condK_p (fun e => by omega) fun _ => ?_
    rw [ltK_i]
    refine condK_p (fun e => by omega) fun _ => ?_
    rw [ltK_i]
    refine condK_p (fun e => by omega) fun _ => ?_
    exact ⟨p', F', h', hp', rfl, hH'.grow g10, hG', hm'⟩
  rw [faK_i]
  refine ld1K_i (hc8 0 _ rfl) ?_
  rw [eqK_i]
  refine condK_p (fun k1 => ?_) fun k1 => ?_
  · obtain ⟨f1, f2⟩ := ht1 k1
    have gg := fit_good hfk f1 f2 hi1.1 hi1.2
    refine JoinK_i (fun _ W' => W' = w8) ?_ ?_
    · rintro _ _ rfl _
      rename World => w8
      rw [addK_i, wrap64 (by omega) (by omega)]
      rw [faK_i]
      refine ld1K_i (hc8 1 _ rfl) ?_
      rw [faK_i]
      refine ld1K_i (hc8 2 _ rfl) ?_
      refine callK_mono (hH8.pushA hG (by omega) h64 hT (RDops.grow h1 g8) (RDops.grow h2 g8) gg) ?_
      rintro _ w9 ⟨rfl, F9, h9, hH9, hG9, hm9⟩
      rw [neK_i]
      exact condK_neg (fun _ => ⟨p + 1, F9, h9, by omega, by simp, hH9, hG9, by omega⟩) fun e => (e rfl).elim
    · refine callK_mono (open_ok hH8.his) ?_
      rintro _ _ ⟨rfl, rfl⟩
      rename World => w8
      cases h.op with
      | false => exact condK_f rfl
      | true =>
        refine condK_t ?_
        rw [gtK_i]
        exact condK_p (fun _ => ⟨p, F, h, by omega, rfl, hH8, hG, hmax⟩) fun _ => rfl
  rw [eqK_i]
  refine condK_p (fun k2 => ?_) fun k2 => ?_
  · refine callK_mono (hH8.beginA hG) ?_
    rintro _ w9 ⟨F9, h9, hH9, hG9, hm9⟩
    exact ⟨p, F9, h9, by omega, rfl, hH9, hG9, by omega⟩
  rw [eqK_i]
  refine condK_p (fun k3 => ?_) fun k3 => ?_
  · refine callK_mono (hH8.endA hG (by omega)) ?_
    rintro _ w9 ⟨F9, h9, hH9, hG9, hm9⟩
    exact ⟨p, F9, h9, by omega, rfl, hH9, hG9, by omega⟩
  rw [eqK_i]
  refine condK_p (fun k4 => ?_) fun k4 => ?_
  · refine callK_mono (hH8.undoA hG) ?_
    rintro _ w9 ⟨F9, h9, hH9, hG9, hm9⟩
    exact ⟨p, F9, h9, by omega, rfl, hH9, hG9, by omega⟩
  · refine callK_mono (hH8.redoA hG) ?_
    rintro _ w9 ⟨F9, h9, hH9, hG9, hm9⟩
    exact ⟨p, F9, h9, by omega, rfl, hH9, hG9, by omega⟩
end Go.Proofs.YtlbaopamhkmepaaGreatDoor

namespace Go.Proofs.YtlbaopamhkmepaaGreatDoor
open Go Go.K
open Go.ChangeShapes Go.Joins
variable {H : Type} {enc : TypeId × Value → H} {w : World} {base : Nat} {spare : Nat → Bool} {held : Bool}
theorem keys_of_trod {n : Nat} {cs : List Value} {y : DataW H × List MemPlace} (h : DataW.trod enc Tryz.prog w base spare held n 48 cs = some y) : ∃ v l, cs = [v] ∧ RKeys (fun _ => True) w v l := by
  obtain ⟨v, l, e, h1, _⟩ := keys_of_trodU h
  exact ⟨v, l, e, h1⟩
end Go.Proofs.YtlbaopamhkmepaaGreatDoor

namespace Go.Proofs.YtlbaopamhkmepaaGreatDoor
open Go Go.K
open Go.ChangeShapes Go.WideShapes Go.ChangeAt Go.RowKit
set_option linter.unusedVariables false

theorem ownK : ownKnob Tryz.prog.godebug = none := by kernel_rfl
theorem laidOut : laidOutB Tryz.prog = true := by kernel_rfl

set_option maxRecDepth 100000 in
theorem HistoryMost_lifted (os : Os) (started : os.Started) (H : Type) (enc : TypeId × Value → H) (F0 : Stop.Interp) :
    ReturnsInHanded {} Tryz.checked os 8 .any ((Rows.OpenSpec.upto Rows.historyMostSpec).preRow enc Tryz.prog Tryz.f8 [] false Rows.historyMostUptoRow.laid) (((Rows.OpenSpec.upto Rows.historyMostSpec).at F0).post enc Tryz.prog Tryz.f8 false true false false) := by
  refine returnsInHanded_of_row (C := Tryz.checked) (s := (Rows.OpenSpec.upto Rows.historyMostSpec)) ownK started (by kernel_rfl) Tryz.func8
    (witness_row_at (enc := enc) (C := Tryz.checked) (s := (Rows.OpenSpec.upto Rows.historyMostSpec)) false (laidWorld os) #[.slice none 0 0, .int .i64 0, .slice none 0 0] rfl (by kernel_rfl) (by kernel_rfl) (by kernel_rfl)
      ⟨⟨(OpenSpec.pre_some (k := Rows.uptoSmall) rfl [] false _ _).2 ⟨_, _, _, DataW.Whole_of_whole (fuel := 8) (x := ([.nil, .lit (.int .i64 0), .nil], [], [])) (by kernel_rfl), by kernel_rfl, by kernel_rfl⟩, laidWorld_met os _⟩, sizedMet_of_sizedB (fuel := 8) (by kernel_rfl)⟩) ?_
  intro W base args ds gs before hval0 hW _ hk0 _ hL _ _
  have hW' := hW
  obtain ⟨p, q, hA0, hV, rfl, hfz, hnd⟩ := hW
  have hA : DataW.TrodAll enc Tryz.prog W 0 (fun _ => true) true Tryz.f8.params.toList args.toList ds p := hA0
  have hval : ∀ (j : Nat) t v, Tryz.f8.params[j]? = some t → args[j]? = some v → Value.okWide Tryz.prog W .any base t v := hval0
  rw [Tryz.params8] at hA hval
  have htab : Tabs W := tabs_of_laid hL
  obtain ⟨v0, vs0, d0, ds0, p0, q0, hargs, rfl, rfl, h0, r0⟩ := trodAll_cons hA
  obtain ⟨v1, vs1, d1, ds1, p1, q1, rfl, rfl, rfl, h1, r1⟩ := trodAll_cons r0
  obtain ⟨v2, vs2, d2, ds2, p2, q2, rfl, rfl, rfl, h2, r2⟩ := trodAll_cons r1
  obtain ⟨rfl, rfl, rfl⟩ := trodAll_nil r2
  obtain rfl : args = #[v0, v1, v2] := by cases args; simp_all
  obtain ⟨rfl, rfl⟩ := trodVars_none hV
  have hk := of_decide_eq_true (hk0 _ rfl)
  simp only [List.append_nil, Rows.uptoBulkAll] at hk
  have lt0 : ∀ x ∈ p0, x.block < W.heap.size := by obtain ⟨m, hm⟩ := h0; exact DataW.trod_lt m _ _ _ hm
  obtain ⟨fuel0, hf0⟩ := id h0
  obtain ⟨u0, l0, e0, s0⟩ := keys_of_trod hf0
  try dsimp only at s0
  obtain ⟨a0, n0, c0, rfl⟩ := okWide_slice Tryz.underlying48 (hval 0 48 v0 rfl rfl)
  simp only [Value.cells, List.cons.injEq, and_true] at e0
  subst e0
  obtain ⟨x1, rfl, rfl, rfl, w1⟩ := open_int Tryz.underlying3 (hval 1 3 v1 rfl rfl) h1
  have lt2 : ∀ x ∈ p2, x.block < W.heap.size := by obtain ⟨m, hm⟩ := h2; exact DataW.trod_lt m _ _ _ hm
  obtain ⟨fuel2, hf2⟩ := id h2
  obtain ⟨u2, l2, e2, s2⟩ := hops_of_trodF hf2
  try dsimp only at s2
  obtain ⟨a2, n2, c2, rfl⟩ := okWide_slice Tryz.underlying49 (hval 2 49 v2 rfl rfl)
  simp only [Value.cells, List.cons.injEq, and_true] at e2
  subst e2
  clear hA0 hval0
  refine (HistoryMost_ok htab s0 s2.1 fun x hx => ⟨(s2.2 x hx).1, by have := (s2.2 x hx).2; omega⟩).mono fun e W' ⟨v, he, hv, hg⟩ => ?_
  subst he; subst hv
  have bel : Below W.heap.size W W' := Mod.below hg (Nat.le_refl _) fun _ h => h.elim
  exact ⟨_, rfl, _, _, _, [], _, [], hW', trodAll_mk1 (shut_bool Tryz.underlying4 _), (trodAll_cons_mk (Below.trod laidOut (by kernel_rfl) (of_decide_eq_true (by kernel_rfl)) h0 bel lt0) (trodAll_cons_mk (shut_int Tryz.underlying3 w1) (trodAll_cons_mk (Below.trod laidOut (by kernel_rfl) (of_decide_eq_true (by kernel_rfl)) h2 bel lt2) trodAll_mk0))), rfl, bel.frame _, fun h => by cases h⟩
/-- the row -/
theorem HistoryMost_said : Rows.HistoryMostUptoSaid :=
  OpenClaim.holds_of_cond 8 Tryz.f8 rfl rfl rfl rfl rfl rfl rfl ⟨rfl, rfl, rfl, rfl, rfl⟩ rfl rfl rfl rfl rfl (by kernel_rfl) Tryz.func8 (by kernel_rfl)
    (of_decide_eq_true (by kernel_rfl)) (by unfold Func.isWrapper; first | (rw [if_pos (by decide +kernel)]; kernel_rfl) | (rw [if_neg (by decide +kernel)]; exact ⟨rfl, rfl⟩))
    (fun os started H enc _ F0 => HistoryMost_lifted os started H enc F0)
/-- the statement: the tied card -/
theorem HistoryMostUpto_proved : Rows.HistoryMostUptoCardSaid :=
  Claim7.holds_tied_plain_at .later [] [.data, .pinned] true Rows.historyMostUptoCard.stood.harness false
    HistoryMost_said (fun _ h => by cases h) (by kernel_rfl) (fun _ h => by cases h) historyMostUpto_row_tie rfl ⟨rfl, rfl⟩ (by kernel_rfl) rfl
    (fun f fn hf hfn => by
      obtain rfl : f = 8 := Option.some.inj ((show Tryz.prog.funcNamed "rubric/rubriclaw27.HistoryMost" = some 8 by kernel_rfl).symm.trans hf) |>.symm
      obtain rfl : fn = Tryz.f8 := (Option.some.inj (Tryz.func8.symm.trans hfn)).symm
      exact ⟨by kernel_rfl, fun j t ht => by
        rw [Tryz.params8] at ht
        have hm : t ∈ [48, 3, 49] := by simpa using Array.mem_of_getElem? ht
        have hall : ([48, 3, 49].all fun u => !Tryz.prog.wantsStandIn u) = true := by kernel_rfl
        exact (show Tryz.prog.wantsStandIn t = false by simpa using List.all_eq_true.1 hall t hm)⟩)
    (by kernel_rfl)
#print axioms HistoryMostUpto_proved
end Go.Proofs.YtlbaopamhkmepaaGreatDoor
