/- Contracts: ops one by one: form, length, what they take and make, how much they have. No conditions. Contracts: the document's runes of bytes, and whether a value may be. No conditions but the size of a text. Pushing one element; contracts: the document's reading of runes. Conditions: the sizes. Contracts: the document's values, keys, sets and patches that may be. Conditions: the size of a text. Contracts: the document's sets and patches that may be; keys that may be a schema's. Conditions: the sizes of texts. Contracts: keys that may be a schema's; how much a delta has; deltas that may be; what is tame. Conditions: the sizes. The plain law of normal forms: the program's maker and the document's form agree, and what holds of a form. No program in sight. More of the plain law of normal forms: how much they have, and that a gap's order is nothing. No program in sight. Contracts: deltas that may be; what is tame; whether deltas are alike. Conditions: the sizes. Contracts: a delta in memory of its own. Conditions: the sizes. Contracts: slices.Grow of nothing, slices.Concat of two rows of ops. Conditions: the sizes. The maker of normal forms in memory; contracts: New, gap, Delete. Conditions: the sizes. -/
import Derived.Test.YtmfplfaeibehiaaZNormalMakesUpto4
import Derived.Laws.IdiomStrings
import Derived.Lib.AppendZeros
namespace Go.K
open Go
/-- a struct that is handed over, laid in a box -/
theorem boxn_i {t : TypeId} {vs : List Value} {K : Cont} {w : World} (h : ∀ b w1, b = w.heap.size → w1.heap.size = w.heap.size + 1 → Grow w w1 → (∀ j v, vs[j]? = some v → w1.cell? ((⟨b, 0, none⟩ : Addr).add j) = some v) → (∀ j, j < vs.length → Live w1 ((⟨b, 0, none⟩ : Addr).add j)) → K (.pointer (some ⟨b, 0, none⟩)) w1) : boxnK t (.agg vs.toArray) K w := by
  refine ⟨vs, rfl, ?_⟩
  refine h w.heap.size _ rfl (by simp) (Mod.alloc _ _ _) (fun j v hv => cell_box hv) fun j hj => ?_
  have hadd : (⟨w.heap.size, 0, none⟩ : Addr).add j = ⟨w.heap.size, j, none⟩ := by unfold Addr.add; split <;> simp_all
  rw [hadd]
  refine ⟨?_, World.frozen?_alloc_new ..⟩
  rw [World.cell?_alloc_new]; simp [hj]
/-- one that is laid anew and filled -/
theorem newst_i {t : TypeId} {zs vs : List Value} {K : Value → World → Prop} {w : World} (hl : zs.length = vs.length) (h1 : ∀ v ∈ vs, v.oneCell' = true) (h : ∀ b w1, b = w.heap.size → w1.heap.size = w.heap.size + 1 → Grow w w1 → (∀ j v, vs[j]? = some v → w1.cell? ((⟨b, 0, none⟩ : Addr).add j) = some v) → (∀ j, j < vs.length → Live w1 ((⟨b, 0, none⟩ : Addr).add j)) → K (.pointer (some ⟨b, 0, none⟩)) w1) :
    newK t zs (fun t5 w3 => stnK vs.length t5 (.agg vs.toArray) (fun w4 => K t5 w4) w3) w := by
  refine newK_i (stnew hl h1 ?_)
  obtain ⟨vs', e, h2⟩ := boxn_i (t := t) (K := K) (w := w) h
  have : vs = vs' := by
    have := congrArg Value.cells e
    simpa [Value.cells] using this
  subst this
  exact h2
theorem newst_n {t : TypeId} {n : Nat} {zs vs : List Value} {K : Value → World → Prop} {w : World} (hn : vs.length = n) (hl : zs.length = n) (h1 : ∀ v ∈ vs, v.oneCell' = true) (h : ∀ b w1, b = w.heap.size → w1.heap.size = w.heap.size + 1 → Grow w w1 → (∀ j v, vs[j]? = some v → w1.cell? ((⟨b, 0, none⟩ : Addr).add j) = some v) → (∀ j, j < vs.length → Live w1 ((⟨b, 0, none⟩ : Addr).add j)) → K (.pointer (some ⟨b, 0, none⟩)) w1) :
    newK t zs (fun t5 w3 => stnK n t5 (.agg vs.toArray) (fun w4 => K t5 w4) w3) w := by
  subst hn; exact newst_i hl h1 h
theorem callyK_f {P : Program} {ok : Nat → Bool} {g : Nat} {args : List Value} {K : Cont} {w : World} (hok : ok g = true) (h : callK P g args K w) : callyK P ok (.func (.func g) #[] #[]) args K w := .inl ⟨g, [], [], rfl, hok, by simpa using h⟩
theorem sld1_i {St : Addr → Value → Prop} {a : Addr} {v : Value} {k : Value → Prop} (h : St a v) (hk : k v) : sld1 St (.pointer (some a)) k := ⟨a, v, rfl, h, hk⟩
theorem sldn_i {St : Addr → Value → Prop} {m : Nat} {a : Addr} {vs : List Value} {k : Value → Prop} (hl : vs.length = m) (h : ∀ j v, vs[j]? = some v → St (a.add j) v) (hk : k (.agg vs.toArray)) : sldn St m (.pointer (some a)) k := ⟨a, vs, rfl, hl, h, hk⟩
theorem drawK_i {w : World} {F : (World → Prop) → Prop} (C : World → Prop) (h0 : C w.drew) (h : F C) : DrawK w F := ⟨C, h0, h⟩
theorem drawC_i {eff : List Nat} {AN : List (List Nat)} {w0 : World} {F : (Nat → Nat → Prop) → (Nat → Addr → Value → Prop) → Prop} (M : Nat → Nat → Prop) (h : F M (StI eff AN M w0)) : DrawC eff AN w0 F := ⟨M, h⟩
/-- a struct's cells written over -/
theorem setL_over {b : Nat} : ∀ (vs : List Value) (i : Nat) (W : World), (∀ j, i ≤ j → j < i + vs.length → Live W ((⟨b, 0, none⟩ : Addr).add j)) →
    Mod (fun x => x = b) W (setL W ⟨b, 0, none⟩ i vs) ∧ (∀ j u, vs[j]? = some u → (setL W ⟨b, 0, none⟩ i vs).cell? ((⟨b, 0, none⟩ : Addr).add (i + j)) = some u) ∧ (∀ j, j < i → (setL W ⟨b, 0, none⟩ i vs).cell? ((⟨b, 0, none⟩ : Addr).add j) = W.cell? ((⟨b, 0, none⟩ : Addr).add j)) ∧ (∀ a, Live W a → Live (setL W ⟨b, 0, none⟩ i vs) a) := by
  intro vs
  induction vs with
  | nil => intro i W _; exact ⟨Mod.refl _ _, fun j u hu => by simp at hu, fun _ _ => rfl, fun _ h => h⟩
  | cons x vs ih =>
    intro i W hl
    simp only [setL]
    obtain ⟨i1, i2, i3, i4⟩ := ih (i + 1) (W.setCell ((⟨b, 0, none⟩ : Addr).add i) x) (fun j h1 h2 => (hl j (by omega) (by simp; omega)).set _ _)
    refine ⟨(Mod.setCell _ _ _ (by rw [addr0])).trans i1, fun j u hu => ?_, fun j hj => ?_, fun a ha => i4 a (ha.set _ _)⟩
    · cases j with
      | zero =>
        simp at hu; subst hu
        obtain ⟨u', hu'⟩ := Option.isSome_iff_exists.1 (hl i (Nat.le_refl _) (by simp)).1
        exact (i3 i (by omega)).trans (World.cell?_setCell_same _ _ _ hu')
      | succ j =>
        have := i2 j u (by simpa using hu)
        rw [show i + (j + 1) = i + 1 + j by omega]; exact this
    · rw [i3 j (by omega), World.cell?_setCell_other _ _ _ _ (by rw [addr0, addr0]; intro e; simp only [Addr.mk.injEq] at e; omega)]
theorem stn_over {b n : Nat} {vs : List Value} {K : World → Prop} {W : World} (hn : vs.length = n) (h1 : ∀ v ∈ vs, v.oneCell' = true) (hl : ∀ j, j < n → Live W ((⟨b, 0, none⟩ : Addr).add j))
    (hK : ∀ W', Mod (fun x => x = b) W W' → (∀ j u, vs[j]? = some u → W'.cell? ((⟨b, 0, none⟩ : Addr).add j) = some u) → (∀ a, Live W a → Live W' a) → K W') : stnK n (.pointer (some ⟨b, 0, none⟩)) (.agg vs.toArray) K W := by
  obtain ⟨q1, q2, _, q4⟩ := setL_over (b := b) vs 0 W (fun j _ hj => hl j (by omega))
  exact ⟨_, vs, rfl, rfl, hn, h1, fun j hj => hl j hj, hK _ q1 (fun j u hu => by have := q2 j u hu; rwa [Nat.zero_add] at this) q4⟩
/-- a box that is laid anew, with what its type's zero has -/
theorem newz_i {t : TypeId} {zs : List Value} {K : Cont} {w : World} (h : ∀ b w1, b = w.heap.size → w1.heap.size = w.heap.size + 1 → Grow w w1 → (∀ j v, zs[j]? = some v → w1.cell? ((⟨b, 0, none⟩ : Addr).add j) = some v) → (∀ j, j < zs.length → Live w1 ((⟨b, 0, none⟩ : Addr).add j)) → K (.pointer (some ⟨b, 0, none⟩)) w1) : newK t zs K w := by
  refine newK_i ?_
  obtain ⟨vs', e, h2⟩ := boxn_i (t := t) (vs := zs) (K := K) (w := w) h
  have : zs = vs' := by have := congrArg Value.cells e; simpa [Value.cells] using this
  subst this
  exact h2
theorem wrap_range (x : Int) : -9223372036854775808 ≤ IntKind.i64.wrap x ∧ IntKind.i64.wrap x ≤ 9223372036854775807 := by
  have e1 : (2 : Int) ^ IntKind.i64.bits = 18446744073709551616 := by decide
  have e2 : (2 : Int) ^ (IntKind.i64.bits - 1) = 9223372036854775808 := by decide
  simp only [IntKind.wrap, e1, e2, IntKind.signed, Bool.true_and, decide_eq_true_eq]
  split <;> omega
theorem loop_step {n : Nat} (h : (n : Int) + 1 ≤ 9223372036854775807) : Value.int .i64 (IntKind.i64.wrap ((n : Int) + 1)) = .int .i64 ((n + 1 : Nat) : Int) := by
  rw [wrap64 (by omega) (by omega)]; rfl
theorem iOf0 {q : IntKind} {n : Int} {r : List Value} : iOf (.int q n :: r) 0 = n.toNat := rfl
theorem iOf1 {a : Value} {q : IntKind} {n : Int} {r : List Value} : iOf (a :: .int q n :: r) 1 = n.toNat := rfl
theorem iOf2 {a b : Value} {q : IntKind} {n : Int} {r : List Value} : iOf (a :: b :: .int q n :: r) 2 = n.toNat := rfl
end Go.K
namespace Go.Proofs.Ytmfplfaeibehiaa
open Go Go.K

def MayR (r : Int) : Prop := 0 ≤ r ∧ r < 55296 ∨ 57344 ≤ r ∧ r ≤ 1114111
instance (r : Int) : Decidable (MayR r) := by unfold MayR; infer_instance
theorem mayr_ok {r : Int} {w : World} : callK Try.prog 92 [.int .i32 r] (fun v w' => v = .bool (decide (MayR r)) ∧ w' = w) w := by
  apply S92_ok
  unfold S92
  have key : ∀ b : Bool, (b = true ↔ MayR r) → Value.bool b = .bool (decide (MayR r)) ∧ w = w := fun b h => ⟨by congr 1; rw [Bool.eq_iff_iff, h, decide_eq_true_eq], rfl⟩
  rw [geK_i]
  refine condK_p (fun h0 => ?_) fun h0 => ?_
  · rw [ltK_i]
    refine condK_p (fun h1 => ?_) fun h1 => ?_
    · exact key true (by simp only [true_iff]; exact .inl ⟨h0, h1⟩)
    · rw [geK_i]
      refine condK_p (fun h2 => ?_) fun h2 => ?_
      · rw [leK_i]
        exact key _ (by rw [decide_eq_true_eq]; exact ⟨fun h => .inr ⟨h2, h⟩, fun h => by rcases h with h | h <;> omega⟩)
      · exact key false (by simp only [Bool.false_eq_true, false_iff]; rintro (h | h) <;> omega)
  · rw [geK_i]
    refine condK_p (fun h2 => ?_) fun h2 => ?_
    · rw [leK_i]
      exact key _ (by rw [decide_eq_true_eq]; exact ⟨fun h => .inr ⟨h2, h⟩, fun h => by rcases h with h | h <;> omega⟩)
    · exact key false (by simp only [Bool.false_eq_true, false_iff]; rintro (h | h) <;> omega)

/-- an op's right form, runes and all -/
def FormO (o : Dop) : Prop := (o.kind = 1 ∧ o.runes = [] ∧ o.set = [] ∧ 1 ≤ o.n ∧ o.n ≤ 536870912) ∨ (o.kind = 3 ∧ o.runes = [] ∧ o.set = [] ∧ o.patch = [] ∧ 1 ≤ o.n ∧ o.n ≤ 536870912) ∨
  (o.kind = 2 ∧ (∀ r ∈ o.runes, MayR r) ∧ o.n = 0 ∧ o.patch = [] ∧ 1 ≤ o.runes.length ∧ o.runes.length ≤ 536870912)
instance (o : Dop) : Decidable (FormO o) := by unfold FormO; infer_instance
theorem len0 {α : Type} {l : List α} : ((l.length : Int) = 0) ↔ l = [] := by
  constructor
  · intro h; exact List.eq_nil_of_length_eq_zero (by omega)
  · rintro rfl; rfl
theorem form_ok {D : Nat → Prop} {r : List Value} {o : Dop} {w : World} (h : RDop D w r o) :
    callK Try.prog 80 [.agg r.toArray] (fun v w' => v = .bool (decide (FormO o)) ∧ Grow w w') w := by
  apply S80_ok
  unfold S80
  obtain ⟨rv, sv, pv, rfl, h1, h2, h3⟩ := h
  refine boxn_i fun b w1 _ hz g hc _ => ?_
  have h1' := h1.grow g (by decide) fun _ _ h => h
  obtain ⟨a1, c1, rfl, m1⟩ := h1.shape
  obtain ⟨a2, c2, rfl, m2⟩ := h2.shape
  obtain ⟨a3, c3, rfl, m3⟩ := h3.shape
  have l0 := hc 0 _ rfl
  have l1 := hc 1 _ rfl
  have l2 := hc 2 _ rfl
  have l3 := hc 3 _ rfl
  have l4 := hc 4 _ rfl
  simp only [maxLen] at m1
  have key : ∀ (b : Bool) w', Grow w w' → (b = true ↔ FormO o) → Value.bool b = .bool (decide (FormO o)) ∧ Grow w w' := fun b w' g h => ⟨by congr 1; rw [Bool.eq_iff_iff, h, decide_eq_true_eq], g⟩
  have no : ∀ w', Grow w w' → ¬ FormO o → Value.bool false = .bool (decide (FormO o)) ∧ Grow w w' := fun w' g h => key false w' g (by simp only [Bool.false_eq_true, false_iff]; exact h)
  simp only [faK_i]
  refine ld1K_i l0 ?_
  rw [eqK_i]
  refine condK_p (fun k1 => ?_) fun k1 => ?_
  · refine ld1K_i l2 ?_
    rw [lenK_i, eqK_i]
    refine condK_p (fun e1 => ?_) fun e1 => no _ g ?_
    · refine ld1K_i l3 ?_
      rw [lenK_i, eqK_i]
      refine condK_p (fun e2 => ?_) fun e2 => no _ g ?_
      · refine ld1K_i l1 ?_
        rw [geK_i]
        refine condK_p (fun e3 => ?_) fun e3 => no _ g ?_
        · refine ld1K_i l1 ?_
          rw [leK_i]
          refine key _ _ g ?_
          rw [decide_eq_true_eq]
          refine ⟨fun h => .inl ⟨k1, len0.1 e1, len0.1 e2, e3, h⟩, fun h => ?_⟩
          rcases h with h | h | h
          · exact h.2.2.2.2
          · omega
          · omega
        · rintro (h | h | h)
          · exact e3 h.2.2.2.1
          · omega
          · omega
      · rintro (h | h | h)
        · exact e2 (len0.2 h.2.2.1)
        · omega
        · omega
    · rintro (h | h | h)
      · exact e1 (len0.2 h.2.1)
      · omega
      · omega
  · rw [eqK_i]
    refine condK_p (fun k3 => ?_) fun k3 => ?_
    · refine ld1K_i l2 ?_
      rw [lenK_i, eqK_i]
      refine condK_p (fun e1 => ?_) fun e1 => no _ g ?_
      · refine ld1K_i l3 ?_
        rw [lenK_i, eqK_i]
        refine condK_p (fun e2 => ?_) fun e2 => no _ g ?_
        · refine ld1K_i l4 ?_
          rw [lenK_i, eqK_i]
          refine condK_p (fun e4 => ?_) fun e4 => no _ g ?_
          · refine ld1K_i l1 ?_
            rw [geK_i]
            refine condK_p (fun e3 => ?_) fun e3 => no _ g ?_
            · refine ld1K_i l1 ?_
              rw [leK_i]
              refine key _ _ g ?_
              rw [decide_eq_true_eq]
              refine ⟨fun h => .inr (.inl ⟨k3, len0.1 e1, len0.1 e2, len0.1 e4, e3, h⟩), fun h => ?_⟩
              rcases h with h | h | h
              · omega
              · exact h.2.2.2.2.2
              · omega
            · rintro (h | h | h)
              · omega
              · exact e3 h.2.2.2.2.1
              · omega
          · rintro (h | h | h)
            · omega
            · exact e4 (len0.2 h.2.2.2.1)
            · omega
        · rintro (h | h | h)
          · omega
          · exact e2 (len0.2 h.2.2.1)
          · omega
      · rintro (h | h | h)
        · omega
        · exact e1 (len0.2 h.2.1)
        · omega
    · rw [eqK_i]
      refine condK_p (fun k2 => ?_) fun k2 => no _ g ?_
      · refine LoopK_i (fun vs w2 => ∃ i : Nat, i ≤ o.runes.length ∧ vs = [.int .i64 i] ∧ w2 = w1 ∧ ∀ r ∈ o.runes.take i, MayR r) (fun vs _ => o.runes.length - iOf vs 0) ⟨0, Nat.zero_le _, rfl, rfl, by simp⟩ ?_
        rintro vs _ ⟨i, hi, rfl, rfl, hr⟩ _
        rename World => w1
        refine ld1K_i l2 ?_
        rw [lenK_i, nth_z, List.headD_cons, ltK_i]
        refine condK_p (fun hlt => ?_) fun hge => ?_
        · have hlt' : i < o.runes.length := by omega
          refine ld1K_i l2 ?_
          obtain ⟨p, r, rfl, _, hrl, hcl, rfl⟩ := h1'.get hlt'
          refine ixK_n hlt' (ld1K_i (hcl 0 _ rfl) ?_)
          refine callK_mono mayr_ok ?_
          rintro v2 w2 ⟨rfl, rfl⟩
          rw [notK_i]
          refine condK_neg (fun hm => ?_) fun hm => no _ g ?_
          · rw [addK_i, loop_step (by omega)]
            refine ⟨⟨i + 1, hlt', rfl, rfl, fun r hr' => ?_⟩, by rw [iOf0, iOf0]; omega⟩
            rw [List.take_add_one, List.getElem?_eq_getElem hlt'] at hr'
            rcases List.mem_append.1 hr' with hr' | hr'
            · exact hr r hr'
            · simp at hr'; subst hr'; exact hm
          · rintro (h | h | h)
            · omega
            · omega
            · exact hm (h.2.1 _ (by simp))
        · have : i = o.runes.length := by omega
          subst this
          rw [List.take_length] at hr
          refine ld1K_i l1 ?_
          rw [eqK_i]
          refine condK_p (fun e3 => ?_) fun e3 => no _ g ?_
          · refine ld1K_i l4 ?_
            rw [lenK_i, eqK_i]
            refine condK_p (fun e4 => ?_) fun e4 => no _ g ?_
            · refine ld1K_i l2 ?_
              rw [lenK_i, geK_i]
              refine condK_p (fun e5 => ?_) fun e5 => no _ g ?_
              · refine ld1K_i l2 ?_
                rw [lenK_i, leK_i]
                refine key _ _ g ?_
                rw [decide_eq_true_eq]
                refine ⟨fun h => .inr (.inr ⟨k2, hr, e3, len0.1 e4, by omega, by omega⟩), fun h => ?_⟩
                rcases h with h | h | h
                · omega
                · omega
                · have := h.2.2.2.2.2; omega
              · rintro (h | h | h)
                · omega
                · omega
                · have := h.2.2.2.2.1; omega
            · rintro (h | h | h)
              · omega
              · omega
              · exact e4 (len0.2 h.2.2.2.1)
          · rintro (h | h | h)
            · omega
            · omega
            · exact e3 h.2.2.1
      · rintro (h | h | h) <;> omega
theorem FormO.form1 {o : Dop} (h : FormO o) : (o.kind = 1 ∧ o.runes = [] ∧ o.set = [] ∧ 1 ≤ o.n ∧ o.n ≤ 536870912) ∨ (o.kind = 3 ∧ o.runes = [] ∧ o.set = [] ∧ o.patch = [] ∧ 1 ≤ o.n ∧ o.n ≤ 536870912) ∨ (o.kind = 2 ∧ o.n = 0 ∧ o.patch = [] ∧ o.runes ≠ []) := by
  rcases h with h | h | h
  · exact .inl h
  · exact .inr (.inl h)
  · refine .inr (.inr ⟨h.1, h.2.2.1, h.2.2.2.1, fun e => ?_⟩)
    have := h.2.2.2.2.1
    rw [e] at this; simp at this

/-- an op's length -/
def lenO (o : Dop) : Int := if o.kind = 2 then o.runes.length else o.n
theorem len_ok {D : Nat → Prop} {r : List Value} {o : Dop} {w : World} (h : RDop D w r o) :
    callK Try.prog 98 [.agg r.toArray] (fun v w' => v = .int .i64 (lenO o) ∧ Grow w w') w := by
  apply S98_ok
  unfold S98
  obtain ⟨rv, sv, pv, rfl, h1, h2, h3⟩ := h
  refine boxn_i fun b w1 _ hz g hc _ => ?_
  obtain ⟨a1, c1, rfl, m1⟩ := h1.shape
  simp only [faK_i]
  refine ld1K_i (hc 0 _ rfl) ?_
  rw [eqK_i]
  refine condK_p (fun k1 => ?_) fun k1 => ?_
  · refine ld1K_i (hc 2 _ rfl) ?_
    rw [lenK_i]
    exact ⟨by rw [lenO, if_pos k1], g⟩
  · refine ld1K_i (hc 1 _ rfl) ?_
    exact ⟨by rw [lenO, if_neg k1], g⟩
/-- sums, as the program reckons them -/
def sumW (f : Dop → Int) (x : List Dop) : Int := x.foldl (fun s o => IntKind.i64.wrap (s + f o)) 0
theorem sumW_take {f : Dop → Int} {x : List Dop} {k : Nat} (h : k < x.length) : sumW f (x.take (k + 1)) = IntKind.i64.wrap (sumW f (x.take k) + f x[k]) := by
  rw [List.take_add_one, List.getElem?_eq_getElem h]
  simp only [sumW, List.foldl_append, Option.toList, List.foldl_cons, List.foldl_nil]
def takesF (o : Dop) : Int := if o.kind = 2 then 0 else o.n
def makesF (o : Dop) : Int := if o.kind = 3 then 0 else lenO o
theorem sumW_small {f : Dop → Int} {m : Int} (hm : 0 ≤ m) (x : List Dop) (h : ∀ o ∈ x, 0 ≤ f o ∧ f o ≤ m) (hb : x.length * m ≤ 4611686018427387904) : sumW f x = (x.map f).sum ∧ 0 ≤ sumW f x ∧ sumW f x ≤ x.length * m := by
  induction x using rev_ind with
  | h0 => exact ⟨rfl, by simp [sumW], by simp [sumW]⟩
  | h1 x o ih =>
    have hx : ∀ o ∈ x, 0 ≤ f o ∧ f o ≤ m := fun o ho => h o (by simp [ho])
    have ho := h o (by simp)
    have e : ((x ++ [o]).length : Int) * m = x.length * m + m := by simp [Int.add_mul]
    rw [e] at hb
    obtain ⟨i1, i2, i3⟩ := ih hx (by omega)
    have e2 : sumW f (x ++ [o]) = IntKind.i64.wrap (sumW f x + f o) := by simp [sumW]
    rw [e2, wrap64 (by omega) (by omega), e]
    refine ⟨by rw [i1]; simp, by omega, by omega⟩
theorem takes_ok {S D : Nat → Prop} {v : Value} {x : List Dop} {w : World} (h : RDops S D w v x) :
    callK Try.prog 83 [v] (fun v' w' => v' = .int .i64 (sumW takesF x) ∧ Grow w w') w := by
  apply S83_ok
  unfold S83
  obtain ⟨a, c, rfl, hm⟩ := h.shape
  simp only [maxLen] at hm
  refine LoopK_i (fun vs w1 => ∃ k : Nat, k ≤ x.length ∧ vs = [.int .i64 (sumW takesF (x.take k)), .int .i64 k] ∧ w1 = w ∧ ∀ q ≤ k, True) (fun vs _ => x.length - iOf vs 1) ⟨0, Nat.zero_le _, rfl, rfl, fun _ _ => trivial⟩ ?_
  rintro vs _ ⟨k, hk, rfl, rfl, _⟩ _
  rename World => w
  rw [lenK_i]
  simp only [nth_s, nth_z, List.headD_cons, List.tail_cons]
  rw [ltK_i]
  refine condK_p (fun hlt => ?_) fun hge => ?_
  · have hlt' : k < x.length := by omega
    obtain ⟨p, r, rfl, hS, hr, hc, rv, sv, pv, rfl, h1, h2, h3⟩ := h.get hlt'
    have wr : ∀ z, sumW takesF (x.take k) = z → -9223372036854775808 ≤ z ∧ z ≤ 9223372036854775807 := by
      rintro z rfl
      by_cases h0 : k = 0
      · subst h0; simp [sumW]
      · obtain ⟨k', rfl⟩ : ∃ k', k = k' + 1 := ⟨k - 1, by omega⟩
        rw [sumW_take (by omega)]
        exact wrap_range _
    refine ixK_n hlt' ?_
    simp only [faK_i, Addr.add_add]
    refine ld1K_i (hc 0 _ rfl) ?_
    rw [neK_i]
    refine condK_neg (fun e => ?_) fun e => ?_
    · rw [addK_i, loop_step (by omega)]
      refine ⟨⟨k + 1, hlt', ?_, rfl, fun _ _ => trivial⟩, by rw [iOf1, iOf1]; omega⟩
      rw [sumW_take hlt', takesF, if_pos e, Int.add_zero, wrap64 (wr _ rfl).1 (wr _ rfl).2]
    · refine ixK_n hlt' ?_
      simp only [faK_i, Addr.add_add]
      refine ld1K_i (hc 1 _ rfl) ?_
      rw [addK_i, addK_i, loop_step (by omega)]
      refine ⟨⟨k + 1, hlt', ?_, rfl, fun _ _ => trivial⟩, by rw [iOf1, iOf1]; omega⟩
      rw [sumW_take hlt', takesF, if_neg e]
  · have : k = x.length := by omega
    subst this
    rw [List.take_length]
    exact ⟨rfl, Mod.refl _ _⟩
theorem makes_ok {S D : Nat → Prop} {v : Value} {x : List Dop} {w : World} (h : RDops S D w v x) :
    callK Try.prog 84 [v] (fun v' w' => v' = .int .i64 (sumW makesF x) ∧ Grow w w') w := by
  apply S84_ok
  unfold S84
  obtain ⟨a, c, rfl, hm⟩ := h.shape
  simp only [maxLen] at hm
  refine LoopK_i (fun vs w1 => ∃ k : Nat, k ≤ x.length ∧ vs = [.int .i64 (sumW makesF (x.take k)), .int .i64 k] ∧ Grow w w1) (fun vs _ => x.length - iOf vs 1) ⟨0, Nat.zero_le _, rfl, Mod.refl _ _⟩ ?_
  rintro vs w1 ⟨k, hk, rfl, hg⟩ _
  rw [lenK_i]
  simp only [nth_s, nth_z, List.headD_cons, List.tail_cons]
  rw [ltK_i]
  refine condK_p (fun hlt => ?_) fun hge => ?_
  · have hlt' : k < x.length := by omega
    obtain ⟨p, r, rfl, hS, hr, hc, ho⟩ := (RDops.grow h hg).get hlt'
    have hc0 : w1.cell? (p.add (k * 5 + 0)) = some (.int .u8 x[k].kind) := by obtain ⟨rv, sv, pv, rfl, _⟩ := ho; exact hc 0 _ rfl
    have wr : ∀ z, sumW makesF (x.take k) = z → -9223372036854775808 ≤ z ∧ z ≤ 9223372036854775807 := by
      rintro z rfl
      by_cases h0 : k = 0
      · subst h0; simp [sumW]
      · obtain ⟨k', rfl⟩ : ∃ k', k = k' + 1 := ⟨k - 1, by omega⟩
        rw [sumW_take (by omega)]
        exact wrap_range _
    refine ixK_n hlt' ?_
    simp only [faK_i, Addr.add_add]
    refine ld1K_i hc0 ?_
    rw [neK_i]
    refine condK_neg (fun e => ?_) fun e => ?_
    · rw [addK_i, loop_step (by omega)]
      refine ⟨⟨k + 1, hlt', ?_, hg⟩, by rw [iOf1, iOf1]; omega⟩
      rw [sumW_take hlt', makesF, if_pos e, Int.add_zero, wrap64 (wr _ rfl).1 (wr _ rfl).2]
    · refine ixK_n hlt' (ldnK_i hr (fun j u hu => by rw [Addr.add_add]; exact hc j u hu) ?_)
      refine callK_mono (len_ok ho) ?_
      rintro v2 w2 ⟨rfl, g2⟩
      rw [addK_i, addK_i, loop_step (by omega)]
      refine ⟨⟨k + 1, hlt', ?_, hg.trans g2⟩, by rw [iOf1, iOf1]; omega⟩
      rw [sumW_take hlt', makesF, if_neg e]
  · have : k = x.length := by omega
    subst this
    rw [List.take_length]
    exact ⟨rfl, hg⟩
end Go.Proofs.Ytmfplfaeibehiaa

namespace Go.K
open Go
theorem rem_i {P : Program} {t : TypeId} {xo yo : Operand} {k : IntKind} {a b : Int} {K : Cont} {w : World} (hb : b ≠ 0) (h : K (.int k (a.tmod b)) w) : runK P (binS .rem t xo yo (.int k a) (.int k b)) K w := by
  refine ⟨_, _, ?_, h⟩
  simp [binS, eqGuard_rem, binOp_rem, Op.intDiv, hb]
theorem quo_i {P : Program} {t : TypeId} {xo yo : Operand} {k : IntKind} {a b : Int} {K : Cont} {w : World} (hb : b ≠ 0) (h : K (.int k (k.wrap (a.tdiv b))) w) : runK P (binS .quo t xo yo (.int k a) (.int k b)) K w := by
  refine ⟨_, _, ?_, h⟩
  simp [binS, eqGuard_quo, binOp_quo, Op.intDiv, hb]
theorem conv_i {P : Program} {s d : TypeId} {q k : IntKind} {n : Int} {K : Cont} {w : World} (hs : (P.underlying s).isSome = true) (hd : P.underlying d = some (.int k)) (h : K (.int k (k.wrap n)) w) : runK P (convert s d (.int q n)) K w := by
  refine ⟨_, _, ?_, h⟩
  obtain ⟨e, he⟩ := Option.isSome_iff_exists.mp hs
  simp [convert, run_underlying he, run_underlying hd, Conv.intToInt]
/-- a slice from a place on -/
theorem slice_lo {α : Type} {P : Program} {t e k : Nat} {i : TypeInfo} {R : World → List Value → α → Prop} {S : Nat → Prop} {w : World} {a : Option Addr} {n c : Nat} {l : List α} {j : Nat} {K : Cont} (ht : P.underlying t = some (.slice e)) (hi : P.info? e = some i) (hk : i.size = k)
    (h : SlR S k R w (.slice a n c) l) (hj : j ≤ l.length) (hK : ∀ v', SlR S k R w v' (l.drop j) → K v' w) : runK P (Instr.sliceAt t (.slice a n c) (some (.int .i64 j)) none none) K w := by
  obtain ⟨a', c', e1, h1, h2, h3⟩ := h
  cases e1
  have hel : P.elem t = e := by simp [Program.elem, ht]
  refine ⟨sliced a j l.length c k, w, ?_, hK _ ?_⟩
  · rw [run_sliceAt_slice _ _ _ _ _ _ (by rw [hel]; exact ht), run_slice_l _ _ _ _ _ (by rw [hel]; exact ht) _ _ (by omega) (by omega), hel]
    simp [sizeOf, typeInfo, hi, hk]
  · unfold sliced
    refine ⟨_, _, by rw [List.length_drop], by rw [List.length_drop]; omega, by omega, fun q x hx => ?_⟩
    rw [List.getElem?_drop] at hx
    obtain ⟨p, r, rfl, hS, hr, hc, hR⟩ := h3 _ x hx
    have hlt := (List.getElem?_eq_some_iff.1 hx).1
    rw [if_neg (by omega)]
    refine ⟨p.add (j * k), r, rfl, by rw [add_block]; exact hS, hr, fun m u hu => ?_, hR⟩
    rw [Addr.add_add, ← Nat.add_assoc, ← Nat.add_mul]
    exact hc m u hu
/-- a slice up to a place -/
theorem slice_hi {α : Type} {P : Program} {t e k : Nat} {i : TypeInfo} {R : World → List Value → α → Prop} {S : Nat → Prop} {w : World} {a : Option Addr} {n c : Nat} {l : List α} {j : Nat} {K : Cont} (ht : P.underlying t = some (.slice e)) (hi : P.info? e = some i) (hk : i.size = k)
    (h : SlR S k R w (.slice a n c) l) (hj : j ≤ l.length) (hK : ∀ v', SlR S k R w v' (l.take j) → K v' w) : runK P (Instr.sliceAt t (.slice a n c) none (some (.int .i64 j)) none) K w := by
  obtain ⟨a', c', e1, h1, h2, h3⟩ := h
  cases e1
  have hel : P.elem t = e := by simp [Program.elem, ht]
  refine ⟨sliced a 0 j c k, w, ?_, hK _ ?_⟩
  · rw [run_sliceAt_slice _ _ _ _ _ _ (by rw [hel]; exact ht), run_slice_h _ _ _ _ _ (by rw [hel]; exact ht) _ _ (by omega) (by omega), hel]
    simp [sizeOf, typeInfo, hi, hk]
  · unfold sliced
    have hl : (l.take j).length = j := by simp; omega
    refine ⟨_, _, by rw [hl, Nat.sub_zero], by rw [hl]; omega, by omega, fun q x hx => ?_⟩
    rw [List.getElem?_take] at hx
    split at hx
    · obtain ⟨p, r, rfl, hS, hr, hc, hR⟩ := h3 _ x hx
      rw [if_neg (by omega)]
      refine ⟨p.add (0 * k), r, rfl, by rw [add_block]; exact hS, hr, fun m u hu => ?_, hR⟩
      rw [Addr.add_add, Nat.zero_mul, Nat.zero_add]
      exact hc m u hu
    · cases hx
end Go.K
namespace Go.Proofs.Ytmfplfaeibehiaa
open Go Go.K
abbrev RByte : World → List Value → Int → Prop := fun _ r x => r = [.int .u8 x]
abbrev RBytes (S : Nat → Prop) (w : World) (v : Value) (l : List Int) : Prop := SlR S 1 RByte w v l
def bytesL (s : ByteArray) : List Int := s.data.toList.map fun b => (b.toNat : Int)
theorem conv_i32 {n : Int} {K : Cont} {w : World} (h : K (.int .i32 (IntKind.i32.wrap n)) w) : runK Try.prog (convert 5 21 (.int .u8 n)) K w := conv_i (by kernel_rfl) (by kernel_rfl) h
theorem conv_u8 {n : Int} {K : Cont} {w : World} (h : K (.int .u8 (IntKind.u8.wrap n)) w) : runK Try.prog (convert 21 5 (.int .i32 n)) K w := conv_i (by kernel_rfl) (by kernel_rfl) h
theorem six_ok {r : Int} {w : World} : callK Try.prog 119 [.int .i32 r] (fun v w' => (∃ n, v = .int .u8 n) ∧ w' = w) w := by
  apply S119_ok
  unfold S119
  refine rem_i (by decide) ?_
  rw [addK_i]
  exact conv_u8 ⟨⟨_, rfl⟩, rfl⟩
/-- how many bytes a rune has -/
def oneLen (r : Int) : Nat := if r < 128 then 1 else if r < 2048 then 2 else if r < 65536 then 3 else 4
theorem rowK_i {e k len : Nat} {zero : List Value} {parts : List (Nat × Value)} {cs : List Value} {K : Cont} {w : World} (hf : Instr.fill (fun i => some (i * k, k)) ((Array.range (len * k)).map (zero.toArray[· % zero.toArray.size]!)) parts = some cs.toArray) (h : K (.slice (some ⟨w.heap.size, 0, none⟩) len len) (w.alloc (.cells cs.toArray e))) : rowK e k len zero parts K w := ⟨_, hf, h⟩
theorem row1_i {q : IntKind} {e : Nat} {z a : Int} {K : Cont} {w : World} (h : ∀ w', Grow w w' → w'.heap.size = w.heap.size + 1 → (∀ j v, [Value.int q a][j]? = some v → w'.cell? ((⟨w.heap.size, 0, none⟩ : Addr).add j) = some v) → K (.slice (some ⟨w.heap.size, 0, none⟩) 1 1) w') : rowK e 1 1 [.int q z] [(0, .int q a)] K w :=
  rowK_i (cs := [.int q a]) (by kernel_rfl) (h _ (Mod.alloc _ _ _) (by simp) fun j v hv => cell_box hv)
theorem row2_i {q : IntKind} {e : Nat} {z a b : Int} {K : Cont} {w : World} (h : ∀ w', Grow w w' → w'.heap.size = w.heap.size + 1 → (∀ j v, [Value.int q a, .int q b][j]? = some v → w'.cell? ((⟨w.heap.size, 0, none⟩ : Addr).add j) = some v) → K (.slice (some ⟨w.heap.size, 0, none⟩) 2 2) w') : rowK e 1 2 [.int q z] [(0, .int q a), (1, .int q b)] K w :=
  rowK_i (cs := [.int q a, .int q b]) (by kernel_rfl) (h _ (Mod.alloc _ _ _) (by simp) fun j v hv => cell_box hv)
theorem row3_i {q : IntKind} {e : Nat} {z a b c : Int} {K : Cont} {w : World} (h : ∀ w', Grow w w' → w'.heap.size = w.heap.size + 1 → (∀ j v, [Value.int q a, .int q b, .int q c][j]? = some v → w'.cell? ((⟨w.heap.size, 0, none⟩ : Addr).add j) = some v) → K (.slice (some ⟨w.heap.size, 0, none⟩) 3 3) w') : rowK e 1 3 [.int q z] [(0, .int q a), (1, .int q b), (2, .int q c)] K w :=
  rowK_i (cs := [.int q a, .int q b, .int q c]) (by kernel_rfl) (h _ (Mod.alloc _ _ _) (by simp) fun j v hv => cell_box hv)
theorem row4_i {q : IntKind} {e : Nat} {z a b c d : Int} {K : Cont} {w : World} (h : ∀ w', Grow w w' → w'.heap.size = w.heap.size + 1 → (∀ j v, [Value.int q a, .int q b, .int q c, .int q d][j]? = some v → w'.cell? ((⟨w.heap.size, 0, none⟩ : Addr).add j) = some v) → K (.slice (some ⟨w.heap.size, 0, none⟩) 4 4) w') : rowK e 1 4 [.int q z] [(0, .int q a), (1, .int q b), (2, .int q c), (3, .int q d)] K w :=
  rowK_i (cs := [.int q a, .int q b, .int q c, .int q d]) (by kernel_rfl) (h _ (Mod.alloc _ _ _) (by simp) fun j v hv => cell_box hv)
theorem one_ok {r : Int} {w : World} : callK Try.prog 118 [.int .i32 r] (fun v w' => (∃ a c, v = .slice a (oneLen r) c) ∧ Grow w w') w := by
  apply S118_ok
  unfold S118
  rw [ltK_i]
  refine condK_p (fun h1 => ?_) fun h1 => ?_
  · exact conv_u8 (row1_i fun w' g _ _ => ⟨⟨_, _, by rw [oneLen, if_pos h1]⟩, g⟩)
  rw [ltK_i]
  refine condK_p (fun h2 => ?_) fun h2 => ?_
  · refine quo_i (by decide) ?_
    rw [addK_i]
    refine conv_u8 (callK_mono six_ok ?_)
    rintro v1 w1 ⟨⟨n1, rfl⟩, rfl⟩
    exact row2_i fun w' g _ _ => ⟨⟨_, _, by rw [oneLen, if_neg h1, if_pos h2]⟩, g⟩
  rw [ltK_i]
  refine condK_p (fun h3 => ?_) fun h3 => ?_
  · refine quo_i (by decide) ?_
    rw [addK_i]
    refine conv_u8 (quo_i (by decide) (callK_mono six_ok ?_))
    rintro v1 w1 ⟨⟨n1, rfl⟩, rfl⟩
    refine callK_mono six_ok ?_
    rintro v2 w2 ⟨⟨n2, rfl⟩, rfl⟩
    exact row3_i fun w' g _ _ => ⟨⟨_, _, by rw [oneLen, if_neg h1, if_neg h2, if_pos h3]⟩, g⟩
  · refine quo_i (by decide) ?_
    rw [addK_i]
    refine conv_u8 (quo_i (by decide) (callK_mono six_ok ?_))
    rintro v1 w1 ⟨⟨n1, rfl⟩, rfl⟩
    refine quo_i (by decide) (callK_mono six_ok ?_)
    rintro v2 w2 ⟨⟨n2, rfl⟩, rfl⟩
    refine callK_mono six_ok ?_
    rintro v3 w3 ⟨⟨n3, rfl⟩, rfl⟩
    exact row4_i fun w' g _ _ => ⟨⟨_, _, by rw [oneLen, if_neg h1, if_neg h2, if_neg h3]⟩, g⟩
/-- the rune that bytes begin with, as the document reckons it -/
def nextHead (b0 : Int) : Option (Nat × Int) :=
  if 240 ≤ b0 then some (4, IntKind.i32.wrap (IntKind.i32.wrap b0 - 240)) else if 224 ≤ b0 then some (3, IntKind.i32.wrap (IntKind.i32.wrap b0 - 224)) else if 192 ≤ b0 then some (2, IntKind.i32.wrap (IntKind.i32.wrap b0 - 192))
  else if 128 ≤ b0 then none else some (1, IntKind.i32.wrap b0)
def contB (b : List Int) : Nat → Nat → Int → Option Int
  | 0, _, r => some r
  | k + 1, i, r => match b[i]? with
    | some c => if c < 128 ∨ 191 < c then none else contB b k (i + 1) (IntKind.i32.wrap (IntKind.i32.wrap (IntKind.i32.wrap (r * 64) + IntKind.i32.wrap c) - 128))
    | none => none
def nextB (b : List Int) : Int × Nat := match nextHead (b.headD 0) with
  | none => (0, 0)
  | some (n, r) => if b.length < n then (0, 0) else match contB b (n - 1) 1 r with
    | none => (0, 0)
    | some r => if MayR r ∧ oneLen r = n then (r, n) else (0, 0)
theorem nextHead_n {b0 r : Int} {n : Nat} (h : nextHead b0 = some (n, r)) : 1 ≤ n ∧ n ≤ 4 := by
  unfold nextHead at h
  split at h
  · cases h; omega
  split at h
  · cases h; omega
  split at h
  · cases h; omega
  split at h
  · cases h
  · cases h; omega
theorem nextB_len (b : List Int) : (nextB b).2 ≤ b.length ∧ (nextB b).2 ≤ 4 := by
  unfold nextB
  split
  · exact ⟨Nat.zero_le _, Nat.zero_le _⟩
  · rename_i n r h
    have := nextHead_n h
    split
    · exact ⟨Nat.zero_le _, Nat.zero_le _⟩
    · split
      · exact ⟨Nat.zero_le _, Nat.zero_le _⟩
      · split <;> simp only <;> omega
theorem next_ok {S : Nat → Prop} {v : Value} {b : List Int} {w : World} (h : RBytes S w v b) (hb : b ≠ []) :
    callK Try.prog 116 [v] (fun v' w' => v' = .tuple #[.int .i32 (nextB b).1, .int .i64 (nextB b).2] ∧ Grow w w') w := by
  apply S116_ok
  unfold S116
  obtain ⟨a, c, rfl, hm⟩ := h.shape
  simp only [maxLen] at hm
  have hpos : 0 < b.length := List.length_pos_iff.2 hb
  obtain ⟨p, r0, rfl, _, hr0, hc0, rfl⟩ := h.get hpos
  have hb0 : b[0] = b.headD 0 := by cases b with | nil => simp at hpos | cons x b => rfl
  rw [hb0] at hc0
  have hc0' := hc0 0 _ rfl
  generalize e0 : b.headD 0 = b0 at *
  refine ixK_n (j := 0) hpos (ld1K_i hc0' (conv_i32 ?_))
  have fin : ∀ {x : Int × Nat} {w' : World}, x = nextB b → Grow w w' → Value.tuple #[.int .i32 x.1, .int .i64 x.2] = .tuple #[.int .i32 (nextB b).1, .int .i64 (nextB b).2] ∧ Grow w w' := by rintro x w' rfl g; exact ⟨rfl, g⟩
  refine JoinK_i (fun vs w1 => ∃ (n : Nat) (r : Int), nextHead b0 = some (n, r) ∧ vs = [.int .i64 n, .int .i32 r] ∧ w1 = w) ?_ ?_
  · rintro vs _ ⟨n, r, hh, rfl, rfl⟩ _
    rename World => w
    have hn := nextHead_n hh
    simp only [nth_s, nth_z, List.headD_cons, List.tail_cons]
    rw [lenK_i, ltK_i]
    refine condK_p (fun hl => ?_) fun hl => ?_
    · exact fin (x := (0, 0)) (by unfold nextB; rw [e0, hh]; simp only; rw [if_pos (by omega)]) (Mod.refl _ _)
    have hl' : n ≤ b.length := by omega
    refine LoopK_i (fun vs w1 => ∃ (i : Nat) (r' : Int), 1 ≤ i ∧ i ≤ n ∧ vs = [.int .i32 r', .int .i64 i] ∧ w1 = w ∧ contB b (n - 1) 1 r = contB b (n - i) i r') (fun vs _ => n - iOf vs 1) ⟨1, r, Nat.le_refl _, hn.1, rfl, rfl, rfl⟩ ?_
    rintro vs _ ⟨i, r', hi1, hi2, rfl, rfl, hcont⟩ _
    rename World => w
    simp only [nth_s, nth_z, List.headD_cons, List.tail_cons]
    rw [ltK_i]
    refine condK_p (fun hlt => ?_) fun hge => ?_
    · have hlt' : i < n := by omega
      obtain ⟨_, r1, e1, _, hr1, hc1, rfl⟩ := h.get (show i < b.length by omega)
      cases e1
      have hc1' := hc1 0 _ rfl
      have hbi : b[i]? = some b[i] := by simp
      obtain ⟨k, hk⟩ : ∃ k, n - i = k + 1 := ⟨n - i - 1, by omega⟩
      refine JoinK_i (fun vs w1 => w1 = w ∧ ¬ (b[i] < 128 ∨ 191 < b[i])) ?_ ?_
      · rintro vs _ ⟨rfl, hok⟩ _
        rename World => w
        rw [mulK_i]
        refine ixK_n (show i < b.length by omega) (ld1K_i hc1' (conv_i32 ?_))
        rw [addK_i, subK_i, addK_i, loop_step (by omega)]
        refine ⟨⟨i + 1, _, by omega, by omega, rfl, rfl, ?_⟩, by rw [iOf1, iOf1]; omega⟩
        rw [hcont, hk]
        simp only [contB, hbi, if_neg hok]
        congr 1; omega
      · refine ixK_n (show i < b.length by omega) (ld1K_i hc1' ?_)
        have bad : (b[i] < 128 ∨ 191 < b[i]) → (0, 0) = nextB b := by
          intro hx
          unfold nextB
          rw [e0, hh]
          simp only
          rw [if_neg (by omega), hcont, hk]
          simp only [contB, hbi, if_pos hx]
        rw [ltK_i]
        refine condK_p (fun hx => ?_) fun hx => ?_
        · exact fin (bad (.inl hx)) (Mod.refl _ _)
        · refine ixK_n (show i < b.length by omega) (ld1K_i hc1' ?_)
          rw [gtK_i]
          refine condK_p (fun hy => ?_) fun hy => ?_
          · exact fin (bad (.inr hy)) (Mod.refl _ _)
          · exact ⟨rfl, by omega⟩
    · have : i = n := by omega
      subst this
      rw [Nat.sub_self] at hcont
      simp only [contB] at hcont
      have hnx : nextB b = if MayR r' ∧ oneLen r' = i then (r', i) else (0, 0) := by
        unfold nextB
        rw [e0, hh]
        simp only
        rw [if_neg (by omega), hcont]
      refine callK_mono mayr_ok ?_
      rintro v2 w2 ⟨rfl, rfl⟩
      rw [notK_i]
      refine condK_neg (fun hmr => ?_) fun hmr => ?_
      · refine callK_mono one_ok ?_
        rintro v3 w3 ⟨⟨a3, c3, rfl⟩, g3⟩
        rw [lenK_i, neK_i]
        refine condK_neg (fun hon => ?_) fun hon => ?_
        · exact fin (x := (r', i)) (by rw [hnx, if_pos ⟨hmr, by omega⟩]) g3
        · exact fin (x := (0, 0)) (by rw [hnx, if_neg (by rintro ⟨_, e⟩; exact hon (by omega))]) g3
      · exact fin (x := (0, 0)) (by rw [hnx, if_neg (by rintro ⟨e, _⟩; exact hmr e)]) (Mod.refl _ _)
  · refine ixK_n (j := 0) hpos (ld1K_i hc0' ?_)
    rw [geK_i]
    refine condK_p (fun h1 => ?_) fun h1 => ?_
    · refine ixK_n (j := 0) hpos (ld1K_i hc0' (conv_i32 ?_))
      rw [subK_i]
      exact ⟨4, _, by unfold nextHead; rw [if_pos h1], rfl, rfl⟩
    refine ixK_n (j := 0) hpos (ld1K_i hc0' ?_)
    rw [geK_i]
    refine condK_p (fun h2 => ?_) fun h2 => ?_
    · refine ixK_n (j := 0) hpos (ld1K_i hc0' (conv_i32 ?_))
      rw [subK_i]
      exact ⟨3, _, by unfold nextHead; rw [if_neg h1, if_pos h2], rfl, rfl⟩
    refine ixK_n (j := 0) hpos (ld1K_i hc0' ?_)
    rw [geK_i]
    refine condK_p (fun h3 => ?_) fun h3 => ?_
    · refine ixK_n (j := 0) hpos (ld1K_i hc0' (conv_i32 ?_))
      rw [subK_i]
      exact ⟨2, _, by unfold nextHead; rw [if_neg h1, if_neg h2, if_pos h3], rfl, rfl⟩
    refine ixK_n (j := 0) hpos (ld1K_i hc0' ?_)
    rw [geK_i]
    refine condK_p (fun h4 => ?_) fun h4 => ?_
    · exact fin (x := (0, 0)) (by unfold nextB nextHead; rw [e0, if_neg h1, if_neg h2, if_neg h3, if_pos h4]) (Mod.refl _ _)
    · exact ⟨1, _, by unfold nextHead; rw [if_neg h1, if_neg h2, if_neg h3, if_neg h4], rfl, rfl⟩
end Go.Proofs.Ytmfplfaeibehiaa

namespace Go.K
open Go
theorem push_g2 {α : Type} {P : Program} {t e k bytes B : Nat} {R : World → List Value → α → Prop} {w : World} {v : Value} {l : List α} {x : α} {zero : List Value} {parts : List (Nat × Value)} {cs : List Value} {K : Cont} (hE : ElemOK P t e k bytes) (h : OwnR B e k R w v l) (hB : B ≤ w.heap.size)
    (hf : Instr.fill (fun i => some (i * k, k)) ((Array.range (1 * k)).map (zero.toArray[· % zero.toArray.size]!)) parts = some cs.toArray) (hcs : cs.length = k) (hx : R w cs x) (hone : ∀ w r y, R w r y → ∀ u ∈ r, u.oneCell' = true)
    (hR : ∀ w1 w2 r y, w.heap.size ≤ w1.heap.size → Mod (fun b => v.ownBlock = some b ∨ w.heap.size ≤ b) w1 w2 → R w1 r y → R w2 r y) (hlen : (l.length + 1) * bytes ≤ 140737488355328) (hlm : l.length + 1 ≤ maxLen)
    {Q1 : World → Prop} {Q2 : World → World → Prop} (hQ1 : ∀ w1, Grow w w1 → Q1 w1)
    (hK : ∀ w1 v' w', OwnR B e k R w' v' (l ++ [x]) → Mod (fun b => v.ownBlock = some b) w1 w' → Mod (fun b => v.ownBlock = some b) w w' → (∀ g, v'.ownBlock = some g → v.ownBlock = some g ∨ w.heap.size ≤ g) → Q2 w1 w' ∧ K v' w') :
    rowK e k 1 zero parts (fun s w1 => Q1 w1 ∧ runK P (Builtin.append_ #[t, t] t [v, s].toArray) (fun v' w' => Q2 w1 w' ∧ K v' w') w1) w := by
  refine ⟨_, hf, ?_⟩
  have hg : Grow w (w.alloc (.cells cs.toArray e)) := Mod.alloc _ _ _
  have hc : ∀ j u, cs[j]? = some u → (w.alloc (.cells cs.toArray e)).cell? ((⟨w.heap.size, 0, none⟩ : Addr).add j) = some u := fun j u hu => cell_box hu
  have hz : (w.alloc (.cells cs.toArray e)).heap.size = w.heap.size + 1 := by simp
  generalize w.alloc (.cells cs.toArray e) = w1 at hg hc hz ⊢
  have h' : OwnR B e k R w1 v l := OwnR.mod h hg (fun _ _ h => h) fun r y _ hy => hR _ _ _ _ (Nat.le_refl _) hg.mod hy
  have hs : SlR (fun _ => True) k R w1 (.slice (some ⟨w.heap.size, 0, none⟩) 1 1) [x] := by
    refine ⟨_, 1, rfl, Nat.le_refl _, by simp [maxLen], fun i y hy => ?_⟩
    have hi : i = 0 := by have := (List.getElem?_eq_some_iff.1 hy).1; simp at this; exact this
    subst hi
    simp at hy; subst hy
    exact ⟨_, cs, rfl, trivial, hcs, fun j u hu => by rw [Nat.zero_mul, Nat.zero_add]; exact hc j u hu, hR _ _ _ _ (Nat.le_refl _) hg.mod hx⟩
  obtain ⟨v', w', h1, h2, h3, h4⟩ := OwnR.append (ty := t) hE h' hs (fun _ _ => hone _ _ _) (by simpa using hlen) (by omega) (by simpa using hlm) (fun w2 hg' r y hy => hR _ _ _ _ (by omega) ((Mod.of_grownBy hg').mono fun b _ e => .inl e) hy)
  refine ⟨hQ1 _ hg, runK_i h1 (hK w1 v' w' h2 (Mod.of_grownBy h3) (hg.mod.next (Mod.of_grownBy h3) fun _ _ h => h) fun g hg' => ?_)⟩
  rcases h4 g hg' with h | h
  · exact .inl h
  · exact .inr (by omega)
theorem push_g {α : Type} {P : Program} {t e k bytes B : Nat} {R : World → List Value → α → Prop} {w : World} {v : Value} {l : List α} {x : α} {zero : List Value} {parts : List (Nat × Value)} {cs : List Value} {K : Cont} (hE : ElemOK P t e k bytes) (h : OwnR B e k R w v l) (hB : B ≤ w.heap.size)
    (hf : Instr.fill (fun i => some (i * k, k)) ((Array.range (1 * k)).map (zero.toArray[· % zero.toArray.size]!)) parts = some cs.toArray) (hcs : cs.length = k) (hx : R w cs x) (hone : ∀ w r y, R w r y → ∀ u ∈ r, u.oneCell' = true)
    (hR : ∀ w1 w2 r y, w.heap.size ≤ w1.heap.size → Mod (fun b => v.ownBlock = some b ∨ w.heap.size ≤ b) w1 w2 → R w1 r y → R w2 r y) (hlen : (l.length + 1) * bytes ≤ 140737488355328) (hlm : l.length + 1 ≤ maxLen)
    (hK : ∀ v' w', OwnR B e k R w' v' (l ++ [x]) → Mod (fun b => v.ownBlock = some b) w w' → (∀ g, v'.ownBlock = some g → v.ownBlock = some g ∨ w.heap.size ≤ g) → K v' w') :
    rowK e k 1 zero parts (fun s w1 => runK P (Builtin.append_ #[t, t] t [v, s].toArray) K w1) w := by
  obtain ⟨c, h1, _, v', w', h2, _, h3⟩ := push_g2 (t := t) (K := K) (Q1 := fun _ => True) (Q2 := fun _ _ => True) hE h hB hf hcs hx hone hR hlen hlm (fun _ _ => trivial) fun w1 v' w' k1 _ k2 k3 => ⟨trivial, hK v' w' k1 k2 k3⟩
  exact ⟨c, h1, v', w', h2, h3⟩
/-- adding behind, told of the world in which the function began -/
theorem push_n {α : Type} {P : Program} {t e k bytes : Nat} {R : World → List Value → α → Prop} {w0 w : World} {v : Value} {l : List α} {x : α} {zero : List Value} {parts : List (Nat × Value)} {cs : List Value} {K : Cont} (hE : ElemOK P t e k bytes) (h : OwnR w0.heap.size e k R w v l) (hg : Grow w0 w)
    (hf : Instr.fill (fun i => some (i * k, k)) ((Array.range (1 * k)).map (zero.toArray[· % zero.toArray.size]!)) parts = some cs.toArray) (hcs : cs.length = k) (hx : R w cs x) (hone : ∀ w r y, R w r y → ∀ u ∈ r, u.oneCell' = true)
    (hR : ∀ w1 w2 r y, w.heap.size ≤ w1.heap.size → Mod (fun b => v.ownBlock = some b ∨ w.heap.size ≤ b) w1 w2 → R w1 r y → R w2 r y) (hlen : (l.length + 1) * bytes ≤ 140737488355328) (hlm : l.length + 1 ≤ maxLen)
    (hK : ∀ v' w', OwnR w0.heap.size e k R w' v' (l ++ [x]) → Grow w0 w' → K v' w') :
    rowK e k 1 zero parts (fun s w1 => runK P (Builtin.append_ #[t, t] t [v, s].toArray) K w1) w :=
  push_g hE h hg.size hf hcs hx hone hR hlen hlm fun v' w' h1 h2 _ => hK v' w' h1 (hg.next h2 fun b hb e => by have := (OwnR.ownB h b e).1; omega)
end Go.K
namespace Go.Proofs.Ytmfplfaeibehiaa
open Go Go.K

def readF : Nat → List Int → Option (List Int)
  | 0, b => if b = [] then some [] else none
  | f + 1, b => if b = [] then some [] else if (nextB b).2 = 0 then none else (readF f (b.drop (nextB b).2)).map ((nextB b).1 :: ·)
def readB (b : List Int) : Option (List Int) := readF b.length b
theorem readF_fuel : ∀ (f g : Nat) (b : List Int), b.length ≤ f → b.length ≤ g → readF f b = readF g b := by
  intro f
  induction f with
  | zero =>
    intro g b hf hg
    have : b = [] := List.eq_nil_of_length_eq_zero (by omega)
    subst this
    cases g <;> simp [readF]
  | succ f ih =>
    intro g b hf hg
    cases g with
    | zero =>
      have : b = [] := List.eq_nil_of_length_eq_zero (by omega)
      subst this
      simp [readF]
    | succ g =>
      simp only [readF]
      split
      · rfl
      · split
        · rfl
        · rw [ih g _ (by simp; omega) (by simp; omega)]
theorem readB_cons {b : List Int} (hb : b ≠ []) : readB b = if (nextB b).2 = 0 then none else (readB (b.drop (nextB b).2)).map ((nextB b).1 :: ·) := by
  unfold readB
  obtain ⟨n, hn⟩ : ∃ n, b.length = n + 1 := ⟨b.length - 1, by have := List.length_pos_iff.2 hb; omega⟩
  rw [hn]
  simp only [readF, if_neg hb]
  split
  · rfl
  · rw [readF_fuel n _ _ (by simp; omega) (Nat.le_refl _)]
theorem read_ok {S : Nat → Prop} {v : Value} {b : List Int} {w : World} (h : RBytes S w v b) (hb : b.length * 4 ≤ 140737488355328) :
    callK Try.prog 110 [v] (fun v' w' => Grow w w' ∧ match readB b with
      | some l => ∃ sl, v' = .tuple #[sl, .int .i64 0] ∧ OwnR w.heap.size 21 1 RRune w' sl l
      | none => v' = .tuple #[.slice none 0 0, .int .i64 3]) w := by
  apply S110_ok
  unfold S110
  obtain ⟨a, c, rfl, hm⟩ := h.shape
  have hm' := hm
  simp only [maxLen] at hm'
  refine LoopK_i (fun vs w1 => ∃ (i : Nat) (out : Value) (acc : List Int), i ≤ b.length ∧ acc.length ≤ i ∧ vs = [out, .int .i64 i] ∧ OwnR w.heap.size 21 1 RRune w1 out acc ∧ Grow w w1 ∧ readB b = (readB (b.drop i)).map (acc ++ ·)) (fun vs _ => b.length - iOf vs 1)
    ⟨0, _, [], Nat.zero_le _, Nat.le_refl _, rfl, OwnR.nil, Mod.refl _ _, by simp⟩ ?_
  rintro vs w1 ⟨i, out, acc, hi, hacc, rfl, ho, hg, hrd⟩ _
  rw [lenK_i]
  simp only [nth_s, nth_z, List.headD_cons, List.tail_cons]
  rw [ltK_i]
  refine condK_p (fun hlt => ?_) fun hge => ?_
  · have hlt' : i < b.length := by omega
    have hne : b.drop i ≠ [] := by intro e; have := congrArg List.length e; simp at this; omega
    refine slice_lo (e := 5) (i := Try.t5) (by kernel_rfl) (by kernel_rfl) (by kernel_rfl) (h.grow hg (by decide) fun _ _ h => h) hi fun v' hv' => ?_
    refine callK_mono (next_ok hv' hne) ?_
    rintro v2 w2 ⟨rfl, g2⟩
    have hnl := nextB_len (b.drop i)
    rw [List.length_drop] at hnl
    rw [readB_cons hne] at hrd
    generalize nextB (b.drop i) = nx at hnl hrd ⊢
    obtain ⟨r, n⟩ := nx
    simp only at hnl hrd
    refine extK_i (vs := [.int .i32 r, .int .i64 n]) (by rfl) (extK_i (vs := [.int .i32 r, .int .i64 n]) (by rfl) ?_)
    rw [eqK_i]
    refine condK_p (fun hz => ?_) fun hz => ?_
    · refine ⟨hg.trans g2, ?_⟩
      rw [if_pos (show n = 0 by omega)] at hrd
      rw [hrd, Option.map_none]; trivial
    · rw [if_neg (show ¬ n = 0 by omega)] at hrd
      have ho2 : OwnR w.heap.size 21 1 RRune w2 out acc := OwnR.mod ho g2 (fun _ _ h => h) fun _ _ _ h => h
      refine push_n elem_rune ho2 (hg.trans g2) (cs := [.int .i32 r]) (x := r) (by kernel_rfl) rfl rfl (fun _ _ _ => RRune.one) (fun _ _ _ _ _ _ h => h) (by omega) (by simp only [maxLen]; omega) fun v' w' h1 h2 => ?_
      rw [addK_i, wrap64 (by omega) (by omega)]
      refine ⟨⟨i + n, v', acc ++ [r], by omega, by simp; omega, by simp, h1, h2, ?_⟩, ?_⟩
      · rw [hrd, List.drop_drop]
        cases readB (b.drop (i + n)) <;> simp
      · rw [iOf1, iOf1]; omega
  · have : i = b.length := by omega
    subst this
    rw [List.drop_length] at hrd
    have e : readB ([] : List Int) = some [] := by simp [readB, readF]
    rw [e] at hrd
    rw [hrd]
    exact ⟨hg, out, rfl, by simpa using ho⟩
end Go.Proofs.Ytmfplfaeibehiaa

namespace Go.Proofs.Ytmfplfaeibehiaa
open Go Go.K

theorem cell_allocF (W : World) (c : Array Value) (t : TypeId) (fr : Nat × Nat) (i : Nat) : (W.alloc (.cells c t fr)).cell? ⟨W.heap.size, i, none⟩ = c[i]? := by
  have h : (W.alloc (.cells c t fr)).heap[W.heap.size]? = some (.cells c t fr) := heap_alloc_new W _
  unfold World.cell?
  simp only [h]
  rfl
theorem strbytes {s : ByteArray} {K : Cont} {w : World} (hs : s.size * 4 ≤ 140737488355328) (hK : ∀ v w', Grow w w' → RBytes (fun _ => True) w' v (bytesL s) → K v w') : runK Try.prog (convert 9 137 (.string s)) K w := by
  refine ⟨_, _, run_bytes_of_string w _ _ 5 s (by kernel_rfl) (by kernel_rfl) (by kernel_rfl), hK _ _ ((Mod.drew (fun _ => False) w).trans (Mod.alloc _ _ _)) ?_⟩
  have hl : (bytesL s).length = s.size := by simp [bytesL]
  have hm : s.size ≤ maxLen := by simp only [maxLen]; omega
  refine ⟨_, _, by rw [hl], by rw [hl]; exact grownCap_ge _ _ _ _, grownCap_le_maxLen _ _ _ _ hm, fun i x hx => ⟨_, [.int .u8 x], rfl, trivial, rfl, fun j u hu => ?_, rfl⟩⟩
  have hj : j = 0 := by have := (List.getElem?_eq_some_iff.1 hu).1; simp at this; exact this
  subst hj
  simp at hu; subst hu
  rw [addr0, Nat.mul_one, Nat.add_zero]
  have hi := (List.getElem?_eq_some_iff.1 hx).1
  rw [hl] at hi
  have hx' : x = ((s.data[i]'hi).toNat : Int) := by
    simp only [bytesL, List.getElem?_map, Array.getElem?_toList] at hx
    rw [Array.getElem?_eq_getElem hi] at hx
    simpa using hx.symm
  subst hx'
  have hs2 : i < s.data.size := hi
  refine (cell_allocF w.drew _ _ _ i).trans ?_
  simp [bytesRow, Array.getElem?_append, hi]
/-- bits that say that it is no number -/
def NoNum (f : Int) : Prop := 9218868437227405312 < f.tmod 9223372036854775808
instance (f : Int) : Decidable (NoNum f) := by unfold NoNum; infer_instance
theorem none_ok {f : Int} {w : World} : callK Try.prog 109 [.int .u64 f] (fun v w' => v = .bool (decide (NoNum f)) ∧ w' = w) w := by
  apply S109_ok
  unfold S109
  refine rem_i (by decide) ?_
  rw [gtK_i]
  exact ⟨rfl, rfl⟩
def noS : ByteArray := ByteArray.mk #[]
/-- a value that may be -/
def ValOK (v : AVal) : Prop := (v.kind = 1 ∧ v = ⟨1, v.n, 0, noS⟩ ∧ (v.n = 0 ∨ v.n = 1)) ∨ (v.kind = 2 ∧ v = ⟨2, v.n, 0, noS⟩) ∨ (v.kind = 3 ∧ v = ⟨3, 0, v.f, noS⟩ ∧ (¬ NoNum v.f ∨ v.f = 9221120237041090560)) ∨
  (v.kind = 4 ∧ v = ⟨4, 0, 0, v.s⟩ ∧ v.s.size ≤ 64 ∧ (readB (bytesL v.s)).isSome = true)
instance (v : AVal) : Decidable (ValOK v) := by unfold ValOK; infer_instance
theorem AVal.one (v : AVal) : ∀ u ∈ v.cells, u.oneCell' = true := by
  intro u hu
  simp only [AVal.cells, List.mem_cons, List.not_mem_nil, or_false] at hu
  rcases hu with rfl | rfl | rfl | rfl <;> rfl
theorem rval_ok {v : AVal} {w : World} (hs : v.s.size * 4 ≤ 140737488355328) :
    callK Try.prog 94 [.agg v.cells.toArray] (fun v' w' => v' = .bool (decide (ValOK v)) ∧ Grow w w') w := by
  apply S94_ok
  unfold S94
  refine boxn_i fun b w1 _ hz g hc _ => ?_
  have l0 := hc 0 _ rfl
  have l1 := hc 1 _ rfl
  have l2 := hc 2 _ rfl
  have l3 := hc 3 _ rfl
  have key : ∀ (b : Bool) w', Grow w w' → (b = true ↔ ValOK v) → Value.bool b = .bool (decide (ValOK v)) ∧ Grow w w' := fun b w' g h => ⟨by congr 1; rw [Bool.eq_iff_iff, h, decide_eq_true_eq], g⟩
  have no : ∀ w', Grow w w' → ¬ ValOK v → Value.bool false = .bool (decide (ValOK v)) ∧ Grow w w' := fun w' g h => key false w' g (by simp only [Bool.false_eq_true, false_iff]; exact h)
  have hall : ∀ j u, v.cells[j]? = some u → w1.cell? ((⟨b, 0, none⟩ : Addr).add j) = some u := hc
  simp only [faK_i]
  refine ld1K_i l0 ?_
  rw [eqK_i]
  refine condK_p (fun k1 => ?_) fun k1 => ?_
  · refine ldnK_i rfl hall (ld1K_i l1 ?_)
    refine ⟨(⟨1, v.n, 0, noS⟩ : AVal).cells.toArray, by kernel_rfl, runK_i (run_eq_val _ _ v ⟨1, v.n, 0, noS⟩ w1) ?_⟩
    refine condK_p (fun e1 => ?_) fun e1 => no _ g ?_
    · refine ld1K_i l1 ?_
      rw [eqK_i]
      refine condK_p (fun e2 => ?_) fun e2 => ?_
      · exact key true _ g (by simp only [true_iff]; exact .inl ⟨k1, e1, .inl e2⟩)
      · refine ld1K_i l1 ?_
        rw [eqK_i]
        refine key _ _ g ?_
        rw [decide_eq_true_eq]
        refine ⟨fun h => .inl ⟨k1, e1, .inr h⟩, fun h => ?_⟩
        rcases h with h | h | h | h
        · exact h.2.2.resolve_left e2
        · omega
        · omega
        · omega
    · rintro (h | h | h | h)
      · exact e1 h.2.1
      · omega
      · omega
      · omega
  rw [eqK_i]
  refine condK_p (fun k2 => ?_) fun k2 => ?_
  · refine ldnK_i rfl hall (ld1K_i l1 ?_)
    refine ⟨(⟨2, v.n, 0, noS⟩ : AVal).cells.toArray, by kernel_rfl, runK_i (run_eq_val _ _ v ⟨2, v.n, 0, noS⟩ w1) ?_⟩
    refine key _ _ g ?_
    rw [decide_eq_true_eq]
    refine ⟨fun h => .inr (.inl ⟨k2, h⟩), fun h => ?_⟩
    rcases h with h | h | h | h
    · omega
    · exact h.2
    · omega
    · omega
  rw [eqK_i]
  refine condK_p (fun k3 => ?_) fun k3 => ?_
  · refine ldnK_i rfl hall (ld1K_i l2 ?_)
    refine ⟨(⟨3, 0, v.f, noS⟩ : AVal).cells.toArray, by kernel_rfl, runK_i (run_eq_val _ _ v ⟨3, 0, v.f, noS⟩ w1) ?_⟩
    refine condK_p (fun e1 => ?_) fun e1 => no _ g ?_
    · refine ld1K_i l2 (callK_mono none_ok ?_)
      rintro v2 w2 ⟨rfl, rfl⟩
      rw [notK_i]
      refine condK_neg (fun e2 => ?_) fun e2 => ?_
      · refine ld1K_i l2 ?_
        rw [eqK_i]
        refine key _ _ g ?_
        rw [decide_eq_true_eq]
        refine ⟨fun h => .inr (.inr (.inl ⟨k3, e1, .inr h⟩)), fun h => ?_⟩
        rcases h with h | h | h | h
        · omega
        · omega
        · exact h.2.2.resolve_left fun h => h e2
        · omega
      · exact key true _ g (by simp only [true_iff]; exact .inr (.inr (.inl ⟨k3, e1, .inl e2⟩)))
    · rintro (h | h | h | h)
      · omega
      · omega
      · exact e1 h.2.1
      · omega
  rw [eqK_i]
  refine condK_p (fun k4 => ?_) fun k4 => no _ g ?_
  · refine ld1K_i l3 (strbytes hs fun v2 w2 g2 hb => callK_mono (read_ok hb ?_) ?_)
    · have : (bytesL v.s).length = v.s.size := by simp [bytesL]
      omega
    rintro v3 w3 ⟨g3, hm⟩
    have g13 := g2.trans g3
    have g03 := g.trans g13
    have sh : ∃ sl, v3 = .tuple #[sl, .int .i64 (if (readB (bytesL v.s)).isSome then 0 else 3)] := by
      cases hr : readB (bytesL v.s) with
      | none => rw [hr] at hm; exact ⟨_, by rw [hm]; rfl⟩
      | some l => rw [hr] at hm; obtain ⟨sl, e, _⟩ := hm; exact ⟨sl, by rw [e]; rfl⟩
    obtain ⟨sl, rfl⟩ := sh
    refine extK_i (vs := [sl, .int .i64 (if (readB (bytesL v.s)).isSome then 0 else 3)]) (by rfl) (extK_i (vs := [sl, .int .i64 (if (readB (bytesL v.s)).isSome then 0 else 3)]) (by rfl) ?_)
    refine ldnK_i rfl (fun j u hu => g13.cell (hall j u hu) fun h => h) (ld1K_i (g13.cell l3 fun h => h) ?_)
    refine ⟨(⟨4, 0, 0, v.s⟩ : AVal).cells.toArray, by kernel_rfl, runK_i (run_eq_val _ _ v ⟨4, 0, 0, v.s⟩ w3) ?_⟩
    refine condK_p (fun e1 => ?_) fun e1 => no _ g03 ?_
    · refine ld1K_i (g13.cell l3 fun h => h) ?_
      rw [slenK_i, leK_i]
      refine condK_p (fun e2 => ?_) fun e2 => no _ g03 ?_
      · rw [eqK_i]
        refine key _ _ g03 ?_
        rw [decide_eq_true_eq]
        constructor
        · intro h
          refine .inr (.inr (.inr ⟨k4, e1, by omega, ?_⟩))
          cases hr : (readB (bytesL v.s)).isSome with
          | true => rfl
          | false => rw [hr] at h; simp at h
        · intro h
          rcases h with h | h | h | h
          · omega
          · omega
          · omega
          · rw [h.2.2.2]; rfl
      · rintro (h | h | h | h)
        · omega
        · omega
        · omega
        · have := h.2.2.1; omega
    · rintro (h | h | h | h)
      · omega
      · omega
      · omega
      · exact e1 h.2.1
  · rintro (h | h | h | h) <;> omega

/-! ### keys -/
def DKey.zero : DKey := ⟨0, false, 0, false, false, 0⟩
def findK (keys : List DKey) (id : Int) : Option DKey := keys.find? fun k => decide (k.id = id)
theorem find_ok {S : Nat → Prop} {v : Value} {keys : List DKey} {id : Int} {w : World} (h : RKeys S w v keys) :
    callK Try.prog 97 [v, .int .i64 id] (fun v' w' => v' = .tuple #[.agg ((findK keys id).getD DKey.zero).cells.toArray, .bool (findK keys id).isSome] ∧ Grow w w') w := by
  apply S97_ok
  unfold S97
  obtain ⟨a, c, rfl, hm⟩ := h.shape
  simp only [maxLen] at hm
  refine newz_i fun b w1 hb hz g _ hl => ?_
  have fillBox : ∀ (k : DKey) (K' : Cont), (∀ w2, Grow w w2 → K' (.agg k.cells.toArray) w2) → stnK 6 (.pointer (some ⟨b, 0, none⟩)) (.agg k.cells.toArray) (fun w5 => ldnK 6 (.pointer (some ⟨b, 0, none⟩)) K' w5) w1 := by
    intro k K' hK'
    refine stn_over rfl (RKey.one (w := w) (x := k) rfl) hl fun w2 m2 hc2 _ => ?_
    exact ldnK_i (vs := k.cells) rfl hc2 (hK' _ (g.next m2 fun x hx e => by omega))
  refine LoopK_i (fun vs w2 => ∃ i : Nat, i ≤ keys.length ∧ vs = [.int .i64 i] ∧ w2 = w1 ∧ ∀ k ∈ keys.take i, ¬ k.id = id) (fun vs _ => keys.length - iOf vs 0) ⟨0, Nat.zero_le _, rfl, rfl, by simp⟩ ?_
  rintro vs _ ⟨i, hi, rfl, rfl, hno⟩ _
  rename World => w1
  rw [lenK_i, nth_z, List.headD_cons, ltK_i]
  refine condK_p (fun hlt => ?_) fun hge => ?_
  · have hlt' : i < keys.length := by omega
    obtain ⟨p, r, rfl, _, hr, hc, rfl⟩ := (h.grow g (by decide) fun _ _ h => h).get hlt'
    refine ixK_n hlt' ?_
    rw [faK_i, Addr.add_add]
    refine ld1K_i (hc 0 _ rfl) ?_
    rw [eqK_i]
    refine condK_p (fun he => ?_) fun he => ?_
    · refine ixK_n hlt' (ldnK_i hr (fun j u hu => by rw [Addr.add_add]; exact hc j u hu) ?_)
      have hf : findK keys id = some keys[i] := by
        unfold findK
        rw [List.find?_eq_some_iff_append]
        refine ⟨by simpa using he, keys.take i, keys.drop (i + 1), ?_, fun k hk => by simpa using hno k hk⟩
        rw [← List.drop_eq_getElem_cons hlt', List.take_append_drop]
      rw [hf]
      exact fillBox keys[i] _ fun w2 g2 => ⟨rfl, g2⟩
    · rw [addK_i, loop_step (by omega)]
      refine ⟨⟨i + 1, hlt', rfl, rfl, fun k hk => ?_⟩, by rw [iOf0, iOf0]; omega⟩
      rw [List.take_add_one, List.getElem?_eq_getElem hlt'] at hk
      rcases List.mem_append.1 hk with hk | hk
      · exact hno k hk
      · simp at hk; subst hk; exact he
  · have : i = keys.length := by omega
    subst this
    rw [List.take_length] at hno
    have hf : findK keys id = none := by
      unfold findK
      rw [List.find?_eq_none]
      intro k hk; simpa using hno k hk
    rw [hf]
    refine ⟨DKey.zero.cells.toArray, by kernel_rfl, ?_⟩
    exact fillBox DKey.zero _ fun w2 g2 => ⟨rfl, g2⟩
def FitsK (keys : List DKey) (id : Int) (v : AVal) : Prop := ∃ k, findK keys id = some k ∧ ValOK v ∧ v.kind = k.kind
open Classical in
theorem rfits_ok {S : Nat → Prop} {kv : Value} {keys : List DKey} {id : Int} {v : AVal} {w : World} (h : RKeys S w kv keys) (hs : v.s.size * 4 ≤ 140737488355328) :
    callK Try.prog 95 [kv, .int .i64 id, .agg v.cells.toArray] (fun v' w' => v' = .bool (decide (FitsK keys id v)) ∧ Grow w w') w := by
  apply S95_ok
  unfold S95
  have no : ∀ w', Grow w w' → ¬ FitsK keys id v → Value.bool false = .bool (decide (FitsK keys id v)) ∧ Grow w w' := fun w' g h => ⟨by rw [decide_eq_false h], g⟩
  refine boxn_i fun b w1 _ hz g hc _ => ?_
  refine callK_mono (find_ok (h.grow g (by decide) fun _ _ h => h)) ?_
  rintro v2 w2 ⟨rfl, g2⟩
  refine extK_i (vs := [_, _]) (by rfl) (extK_i (vs := [_, _]) (by rfl) ?_)
  generalize hk : (findK keys id).getD DKey.zero = k
  refine newst_i (vs := k.cells) rfl (RKey.one (w := w) (x := k) rfl) fun b2 w3 _ hz3 g3 hc3 _ => ?_
  have g13 := g2.trans g3
  have g03 := g.trans g13
  cases hf : findK keys id with
  | none =>
    rw [Option.isSome_none]
    exact no _ g03 (by rintro ⟨k, e, _⟩; rw [hf] at e; cases e)
  | some k' =>
    rw [hf] at hk
    simp only [Option.getD_some] at hk
    subst hk
    rw [Option.isSome_some, condK_b, if_pos rfl]
    refine ldnK_i rfl (fun j u hu => g13.cell (hc j u hu) fun h => h) (callK_mono (rval_ok hs) ?_)
    rintro v4 w4 ⟨rfl, g4⟩
    have g04 := g03.trans g4
    refine condK_p (fun ho => ?_) fun ho => no _ g04 (by rintro ⟨_, _, h, _⟩; exact ho h)
    rw [faK_i]
    refine ld1K_i ((g13.trans g4).cell (hc 0 _ rfl) fun h => h) ?_
    rw [faK_i]
    refine ld1K_i (g4.cell (hc3 2 _ rfl) fun h => h) ?_
    rw [eqK_i]
    refine ⟨?_, g04⟩
    congr 1
    rw [decide_eq_decide]
    constructor
    · intro h; exact ⟨k', hf, ho, h⟩
    · rintro ⟨k, e, _, h⟩; rw [hf] at e; cases e; exact h
end Go.Proofs.Ytmfplfaeibehiaa

namespace Go.Proofs.Ytmfplfaeibehiaa
open Go Go.K

/-- keys that rise, up to a place -/
def RisN {α : Type} (key : α → Int) (l : List α) (n : Nat) : Prop := ∀ i, 1 ≤ i → i < n → ∀ a b, l[i - 1]? = some a → l[i]? = some b → key a < key b
theorem ris_loop {α : Type} {k : Nat} {R : World → List Value → α → Prop} {key : α → Int} {S : Nat → Prop} {w : World} {a : Option Addr} {c : Nat} {l : List α} {K : Cont} (h : SlR S k R w (.slice a l.length c) l) (hm : l.length ≤ maxLen) (hk : 0 < k)
    (hR : ∀ w r x, R w r x → r[0]? = some (.int .i64 (key x))) (h1 : ∀ w', Grow w w' → RisN key l l.length → K (.bool true) w') (h0 : ∀ w', Grow w w' → ¬ RisN key l l.length → K (.bool false) w') :
    LoopK [(.int .i64 1)] (fun vs again w1 => ∀ _ : Env, lenK (.slice a l.length c) fun t6 => ltK .i64 (nth vs 0) t6 fun t7 => condK t7
      (DrawK w1 (fun C => subK .i64 (nth vs 0) (.int .i64 1) fun t12 => ixK k (.slice a l.length c) t12 fun t13 => faK 0 t13 fun t14 => qld1K C t14 fun t15 => ixK k (.slice a l.length c) (nth vs 0) fun t18 => faK 0 t18 fun t19 => qld1K C t19 fun t20 => geK .i64 t15 t20 fun t21 =>
        ∀ w2 : World, C w2 → condK t21 (K (.bool false) w2) (addK .i64 (nth vs 0) (.int .i64 1) fun t9 => again [t9] w2)))
      (K (.bool true) w1)) w := by
  simp only [maxLen] at hm
  refine LoopK_i (fun vs w1 => ∃ i : Nat, 1 ≤ i ∧ vs = [.int .i64 i] ∧ Grow w w1 ∧ (i ≤ l.length ∨ i = 1) ∧ RisN key l i) (fun vs _ => l.length - iOf vs 0) ⟨1, Nat.le_refl _, rfl, Mod.refl _ _, .inr rfl, fun i h1 h2 => by omega⟩ ?_
  rintro vs w1 ⟨i, hi1, rfl, hg, hi2, hris⟩ _
  rw [lenK_i, nth_z, List.headD_cons, ltK_i]
  refine condK_p (fun hlt => ?_) fun hge => ?_
  · have hlt' : i < l.length := by omega
    refine ⟨fun w2 => Grow w1 w2, Mod.drew _ _, ?_⟩
    obtain ⟨p, r, rfl, _, hr, hc, hx⟩ := h.get (show i - 1 < l.length by omega)
    obtain ⟨_, r', e, _, hr', hc', hx'⟩ := h.get hlt'
    cases e
    rw [subK_i, wrap64 (by omega) (by omega), show ((i : Int) - 1) = ((i - 1 : Nat) : Int) by omega]
    refine ixK_n (by omega) ?_
    rw [faK_i, Addr.add_add]
    refine qld1K_i (fun w2 h2 => h2.cell (hg.cell (hc 0 _ (hR _ _ _ hx)) fun h => h) fun h => h) ?_
    refine ixK_n hlt' ?_
    rw [faK_i, Addr.add_add]
    refine qld1K_i (fun w2 h2 => h2.cell (hg.cell (hc' 0 _ (hR _ _ _ hx')) fun h => h) fun h => h) ?_
    rw [geK_i]
    intro w2 h2
    refine condK_p (fun hx => ?_) fun hx => ?_
    · refine h0 _ (hg.trans h2) fun hall => ?_
      have := hall i hi1 hlt' _ _ (List.getElem?_eq_getElem (by omega)) (List.getElem?_eq_getElem hlt')
      omega
    · rw [addK_i, loop_step (by omega)]
      refine ⟨⟨i + 1, by omega, rfl, hg.trans h2, .inl hlt', fun j h1 h2 a b ha hb => ?_⟩, by rw [iOf0, iOf0]; omega⟩
      by_cases e : j = i
      · subst e
        rw [List.getElem?_eq_getElem (by omega)] at ha
        rw [List.getElem?_eq_getElem hlt'] at hb
        cases ha; cases hb; omega
      · exact hris j h1 (by omega) a b ha hb
  · refine h1 _ hg fun j h1 h2 => ?_
    by_cases e : i ≤ l.length
    · exact hris j h1 (by omega)
    · omega
abbrev RisA (l : List Attr) : Prop := RisN Attr.key l l.length
abbrev RisC (l : List Chg) : Prop := RisN Chg.key l l.length
open Classical in
theorem risa_ok {S : Nat → Prop} {v : Value} {l : List Attr} {w : World} (h : RSet S w v l) : callK Try.prog 93 [v] (fun v' w' => v' = .bool (decide (RisA l)) ∧ Grow w w') w := by
  apply S93_ok
  unfold S93
  obtain ⟨a, c, rfl, hm⟩ := h.shape
  exact ris_loop (K := fun v' w' => v' = .bool (decide (RisA l)) ∧ Grow w w') (key := Attr.key) h hm (by decide) (fun w r x hx => by subst hx; rfl) (fun w' g hr => ⟨by rw [decide_eq_true hr], g⟩) fun w' g hr => ⟨by rw [decide_eq_false hr], g⟩
open Classical in
theorem risc_ok {S : Nat → Prop} {v : Value} {l : List Chg} {w : World} (h : RPat S w v l) : callK Try.prog 96 [v] (fun v' w' => v' = .bool (decide (RisC l)) ∧ Grow w w') w := by
  apply S96_ok
  unfold S96
  obtain ⟨a, c, rfl, hm⟩ := h.shape
  exact ris_loop (K := fun v' w' => v' = .bool (decide (RisC l)) ∧ Grow w w') (key := Chg.key) h hm (by decide) (fun w r x hx => by subst hx; rfl) (fun w' g hr => ⟨by rw [decide_eq_true hr], g⟩) fun w' g hr => ⟨by rw [decide_eq_false hr], g⟩

/-- why a set may not be -/
def SetBad (l : List Attr) : Prop := ¬ RisA l ∨ 64 < l.length ∨ ∃ a ∈ l, ¬ ValOK a.val
def SetNoKey (keys : List DKey) (l : List Attr) : Prop := ∃ a ∈ l, ¬ FitsK keys a.key a.val
open Classical in
noncomputable def maySet (keys : List DKey) (l : List Attr) : Int := if SetBad l then 3 else if SetNoKey keys l then 4 else 0
open Classical in
theorem mayset_ok {S S' : Nat → Prop} {kv v : Value} {keys : List DKey} {l : List Attr} {w : World} (hk : RKeys S w kv keys) (h : RSet S' w v l) (hs : ∀ a ∈ l, a.val.s.size * 4 ≤ 140737488355328) :
    callK Try.prog 81 [kv, v] (fun v' w' => v' = .int .i64 (maySet keys l) ∧ Grow w w') w := by
  apply S81_ok
  unfold S81
  obtain ⟨a, c, rfl, hm⟩ := h.shape
  simp only [maxLen] at hm
  have bad : ∀ w', Grow w w' → SetBad l → Value.int .i64 3 = .int .i64 (maySet keys l) ∧ Grow w w' := fun w' g hb => ⟨by rw [maySet, if_pos hb], g⟩
  refine JoinK_i (fun vs w1 => Grow w w1 ∧ RisA l ∧ l.length ≤ 64) ?_ ?_
  · rintro vs w1 ⟨g1, hris, h64⟩ _
    refine LoopK_i (fun vs w2 => ∃ i : Nat, i ≤ l.length ∧ vs = [.int .i64 i] ∧ Grow w w2 ∧ ∀ a ∈ l.take i, ValOK a.val) (fun vs _ => l.length - iOf vs 0) ⟨0, Nat.zero_le _, rfl, g1, by simp⟩ ?_
    rintro vs w2 ⟨i, hi, rfl, g2, hv⟩ _
    rw [lenK_i, nth_z, List.headD_cons, ltK_i]
    refine condK_p (fun hlt => ?_) fun hge => ?_
    · have hlt' : i < l.length := by omega
      obtain ⟨p, r, rfl, _, hr, hc, rfl⟩ := (h.grow g2 (by decide) fun _ _ h => h).get hlt'
      refine ixK_n hlt' ?_
      rw [faK_i, Addr.add_add]
      refine ldnK_i (vs := l[i].val.cells) rfl (fun j u hu => by rw [Addr.add_add, Nat.add_assoc]; exact hc (1 + j) u (by rw [Nat.add_comm]; exact hu)) ?_
      refine callK_mono (rval_ok (hs _ (by simp))) ?_
      rintro v3 w3 ⟨rfl, g3⟩
      rw [notK_i]
      refine condK_neg (fun ho => ?_) fun ho => bad _ (g2.trans g3) (.inr (.inr ⟨_, by simp, ho⟩))
      rw [addK_i, loop_step (by omega)]
      refine ⟨⟨i + 1, hlt', rfl, g2.trans g3, fun a ha => ?_⟩, by rw [iOf0, iOf0]; omega⟩
      rw [List.take_add_one, List.getElem?_eq_getElem hlt'] at ha
      rcases List.mem_append.1 ha with ha | ha
      · exact hv a ha
      · simp at ha; subst ha; exact ho
    · have : i = l.length := by omega
      subst this
      rw [List.take_length] at hv
      have ok : ¬ SetBad l := by
        rintro (h | h | ⟨a, ha, h⟩)
        · exact h hris
        · omega
        · exact h (hv a ha)
      refine LoopK_i (fun vs w3 => ∃ i : Nat, i ≤ l.length ∧ vs = [.int .i64 i] ∧ Grow w w3 ∧ ∀ a ∈ l.take i, FitsK keys a.key a.val) (fun vs _ => l.length - iOf vs 0) ⟨0, Nat.zero_le _, rfl, g2, by simp⟩ ?_
      rintro vs w3 ⟨i, hi, rfl, g3, hf⟩ _
      rw [lenK_i, nth_z, List.headD_cons, ltK_i]
      refine condK_p (fun hlt => ?_) fun hge => ?_
      · have hlt' : i < l.length := by omega
        have g3d : Grow w w3.drew := g3.trans (Mod.drew _ _)
        obtain ⟨p, r, rfl, hS, hr, hc, rfl⟩ := ((h.old (by decide)).grow g3d (by decide) fun _ _ h => h).get hlt'
        refine drawC_i (fun _ b => False) ?_
        refine ixK_n hlt' ?_
        rw [faK_i, Addr.add_add]
        refine sld1_i ⟨hc 0 _ rfl, fun j _ h => h⟩ ?_
        refine ixK_n hlt' ?_
        rw [faK_i, Addr.add_add]
        refine sldn_i (vs := l[i].val.cells) rfl (fun j u hu => ⟨by rw [Addr.add_add, Nat.add_assoc]; exact hc (1 + j) u (by rw [Nat.add_comm]; exact hu), fun j _ h => h⟩) ?_
        refine callK_mono (rfits_ok (hk.grow g3d (by decide) fun _ _ h => h) (hs _ (by simp))) ?_
        rintro v4 w4 ⟨rfl, g4⟩
        refine ⟨g4, ?_⟩
        rw [notK_i]
        refine condK_neg (fun ho => ?_) fun ho => ⟨by rw [maySet, if_neg ok, if_pos ⟨_, by simp, ho⟩], g3d.trans g4⟩
        rw [addK_i, loop_step (by omega)]
        refine ⟨⟨i + 1, hlt', rfl, g3d.trans g4, fun a ha => ?_⟩, by rw [iOf0, iOf0]; omega⟩
        rw [List.take_add_one, List.getElem?_eq_getElem hlt'] at ha
        rcases List.mem_append.1 ha with ha | ha
        · exact hf a ha
        · simp at ha; subst ha; exact ho
      · have : i = l.length := by omega
        subst this
        rw [List.take_length] at hf
        refine ⟨?_, g3⟩
        rw [maySet, if_neg ok, if_neg]
        rintro ⟨a, ha, h⟩; exact h (hf a ha)
  · refine callK_mono (risa_ok h) ?_
    rintro v2 w2 ⟨rfl, g2⟩
    rw [notK_i]
    refine condK_neg (fun hr => ?_) fun hr => bad _ g2 (.inl hr)
    rw [lenK_i, gtK_i]
    refine condK_p (fun h6 => bad _ g2 (.inr (.inl (by omega)))) fun h6 => ⟨g2, hr, by omega⟩
def AVal.zero : AVal := ⟨0, 0, 0, noS⟩
def PatBad (p : List Chg) : Prop := ¬ RisC p ∨ 64 < p.length ∨ ∃ c ∈ p, (c.gone = true ∧ c.val ≠ AVal.zero) ∨ (c.gone = false ∧ ¬ ValOK c.val)
def PatNoKey (keys : List DKey) (p : List Chg) : Prop := ∃ c ∈ p, findK keys c.key = none ∨ (c.gone = false ∧ ¬ FitsK keys c.key c.val)
open Classical in
noncomputable def mayPat (keys : List DKey) (p : List Chg) : Int := if PatBad p then 3 else if PatNoKey keys p then 4 else 0
open Classical in
theorem maypat_ok {S S' : Nat → Prop} {kv v : Value} {keys : List DKey} {l : List Chg} {w : World} (hk : RKeys S w kv keys) (h : RPat S' w v l) (hs : ∀ a ∈ l, a.val.s.size * 4 ≤ 140737488355328) :
    callK Try.prog 82 [kv, v] (fun v' w' => v' = .int .i64 (mayPat keys l) ∧ Grow w w') w := by
  apply S82_ok
  unfold S82
  obtain ⟨a, c, rfl, hm⟩ := h.shape
  simp only [maxLen] at hm
  have bad : ∀ w', Grow w w' → PatBad l → Value.int .i64 3 = .int .i64 (mayPat keys l) ∧ Grow w w' := fun w' g hb => ⟨by rw [mayPat, if_pos hb], g⟩
  refine JoinK_i (fun vs w1 => Grow w w1 ∧ RisC l ∧ l.length ≤ 64) ?_ ?_
  · rintro vs w1 ⟨g1, hris, h64⟩ _
    refine LoopK_i (fun vs w2 => ∃ i : Nat, i ≤ l.length ∧ vs = [.int .i64 i] ∧ Grow w w2 ∧ ∀ c ∈ l.take i, ¬ ((c.gone = true ∧ c.val ≠ AVal.zero) ∨ (c.gone = false ∧ ¬ ValOK c.val))) (fun vs _ => l.length - iOf vs 0) ⟨0, Nat.zero_le _, rfl, g1, by simp⟩ ?_
    rintro vs w2 ⟨i, hi, rfl, g2, hv⟩ _
    rw [lenK_i, nth_z, List.headD_cons, ltK_i]
    refine condK_p (fun hlt => ?_) fun hge => ?_
    · have hlt' : i < l.length := by omega
      refine JoinK_i (fun vs w3 => Grow w w3 ∧ ¬ ((l[i].gone = true ∧ l[i].val ≠ AVal.zero) ∨ (l[i].gone = false ∧ ¬ ValOK l[i].val))) ?_ ?_
      · rintro vs w3 ⟨g3, ho⟩ _
        rw [addK_i, loop_step (by omega)]
        refine ⟨⟨i + 1, hlt', rfl, g3, fun a ha => ?_⟩, by rw [iOf0, iOf0]; omega⟩
        rw [List.take_add_one, List.getElem?_eq_getElem hlt'] at ha
        rcases List.mem_append.1 ha with ha | ha
        · exact hv a ha
        · simp at ha; subst ha; exact ho
      · have bad' : ∀ w', Grow w w' → ((l[i].gone = true ∧ l[i].val ≠ AVal.zero) ∨ (l[i].gone = false ∧ ¬ ValOK l[i].val)) → Value.int .i64 3 = .int .i64 (mayPat keys l) ∧ Grow w w' := fun w' g hb => bad w' g (.inr (.inr ⟨_, by simp, hb⟩))
        obtain ⟨p, r, rfl, _, hr, hc, hx⟩ := (h.grow g2 (by decide) fun _ _ h => h).get hlt'
        subst hx
        have cv : ∀ j u, l[i].val.cells[j]? = some u → w2.cell? (((p.add (i * 6)).add 2).add j) = some u := fun j u hu => by rw [Addr.add_add, Addr.add_add]; exact hc (2 + j) u (by rw [Nat.add_comm]; exact hu)
        have cg : w2.cell? ((p.add (i * 6)).add 1) = some (.bool l[i].gone) := by rw [Addr.add_add]; exact hc 1 _ rfl
        refine ixK_n hlt' ?_
        rw [faK_i]
        refine ld1K_i cg ?_
        cases hg : l[i].gone with
        | true =>
          rw [condK_b, if_pos rfl]
          refine ixK_n hlt' ?_
          rw [faK_i]
          refine ldnK_i (vs := l[i].val.cells) rfl cv ?_
          refine ⟨AVal.zero.cells.toArray, by kernel_rfl, runK_i (run_ne_val _ _ l[i].val AVal.zero w2) ?_⟩
          refine condK_neg (fun hz => ?_) fun hz => bad' _ g2 (.inl ⟨hg, hz⟩)
          refine ixK_n hlt' ?_
          rw [faK_i]
          refine ld1K_i cg ?_
          rw [hg, notK_i, condK_b]
          refine (if_neg (by simp)).mpr ⟨g2, ?_⟩
          rintro (h | h)
          · exact h.2 hz
          · cases h.1
        | false =>
          rw [condK_b]
          refine (if_neg (by simp)).mpr ?_
          refine ixK_n hlt' ?_
          rw [faK_i]
          refine ld1K_i cg ?_
          rw [hg, notK_i, condK_b]
          refine (if_pos (by simp)).mpr ?_
          refine ixK_n hlt' ?_
          rw [faK_i]
          refine ldnK_i (vs := l[i].val.cells) rfl cv ?_
          refine callK_mono (rval_ok (hs _ (by simp))) ?_
          rintro v3 w3 ⟨rfl, g3⟩
          rw [notK_i]
          refine condK_neg (fun ho => ⟨g2.trans g3, ?_⟩) fun ho => bad' _ (g2.trans g3) (.inr ⟨hg, ho⟩)
          rintro (h | h)
          · cases h.1
          · exact h.2 ho
    · have : i = l.length := by omega
      subst this
      rw [List.take_length] at hv
      have ok : ¬ PatBad l := by
        rintro (h | h | ⟨a, ha, h⟩)
        · exact h hris
        · omega
        · exact hv a ha h
      refine LoopK_i (fun vs w3 => ∃ i : Nat, i ≤ l.length ∧ vs = [.int .i64 i] ∧ Grow w w3 ∧ ∀ c ∈ l.take i, ¬ (findK keys c.key = none ∨ (c.gone = false ∧ ¬ FitsK keys c.key c.val))) (fun vs _ => l.length - iOf vs 0) ⟨0, Nat.zero_le _, rfl, g2, by simp⟩ ?_
      rintro vs w3 ⟨i, hi, rfl, g3, hf⟩ _
      rw [lenK_i, nth_z, List.headD_cons, ltK_i]
      refine condK_p (fun hlt => ?_) fun hge => ?_
      · have hlt' : i < l.length := by omega
        refine JoinK_i (fun vs w4 => Grow w w4 ∧ ¬ (findK keys l[i].key = none ∨ (l[i].gone = false ∧ ¬ FitsK keys l[i].key l[i].val))) ?_ ?_
        · rintro vs w4 ⟨g4, ho⟩ _
          rw [addK_i, loop_step (by omega)]
          refine ⟨⟨i + 1, hlt', rfl, g4, fun a ha => ?_⟩, by rw [iOf0, iOf0]; omega⟩
          rw [List.take_add_one, List.getElem?_eq_getElem hlt'] at ha
          rcases List.mem_append.1 ha with ha | ha
          · exact hf a ha
          · simp at ha; subst ha; exact ho
        · have bad' : ∀ w', Grow w w' → (findK keys l[i].key = none ∨ (l[i].gone = false ∧ ¬ FitsK keys l[i].key l[i].val)) → Value.int .i64 4 = .int .i64 (mayPat keys l) ∧ Grow w w' := fun w' g hb => ⟨by rw [mayPat, if_neg ok, if_pos ⟨_, by simp, hb⟩], g⟩
          obtain ⟨p, r, rfl, _, hr, hc, hx⟩ := h.get hlt'
          subst hx
          have cell : ∀ {W : World}, Grow w W → ∀ j u, l[i].cells[j]? = some u → W.cell? ((p.add (i * 6)).add j) = some u := fun hW j u hu => by rw [Addr.add_add]; exact hW.cell (hc j u hu) fun h => h
          refine ixK_n hlt' ?_
          rw [faK_i]
          refine ld1K_i (cell g3 0 _ rfl) ?_
          refine callK_mono (find_ok (hk.grow g3 (by decide) fun _ _ h => h)) ?_
          rintro v4 w4 ⟨rfl, g4⟩
          refine extK_i (vs := [_, _]) (by rfl) (extK_i (vs := [_, _]) (by rfl) ?_)
          generalize hkk : (findK keys l[i].key).getD DKey.zero = kk
          refine newst_i (vs := kk.cells) rfl (RKey.one (w := w) (x := kk) rfl) fun b5 w5 _ _ g5 _ _ => ?_
          have g05 : Grow w w5.drew := ((g3.trans g4).trans g5).trans (Mod.drew _ _)
          refine drawC_i (fun _ b => False) ?_
          rw [notK_i]
          cases hfk : findK keys l[i].key with
          | none =>
            rw [Option.isSome_none, condK_b]
            exact (if_pos (by rfl)).mpr (bad' _ g05 (.inl hfk))
          | some k' =>
            rw [Option.isSome_some, condK_b]
            refine (if_neg (by simp)).mpr ?_
            refine ixK_n hlt' ?_
            rw [faK_i]
            refine sld1_i ⟨cell g05 1 _ rfl, fun j _ h => h⟩ ?_
            rw [notK_i]
            cases hg : l[i].gone with
            | true =>
              rw [condK_b]
              refine (if_neg (by simp)).mpr ⟨g05, ?_⟩
              rintro (h | h)
              · first | cases h | (rw [hfk] at h; cases h)
              · first | cases h.1 | (rw [hg] at h; cases h.1)
            | false =>
              rw [condK_b]
              refine (if_pos (by simp)).mpr ?_
              refine ixK_n hlt' ?_
              rw [faK_i]
              refine sld1_i ⟨cell g05 0 _ rfl, fun j _ h => h⟩ ?_
              refine ixK_n hlt' ?_
              rw [faK_i]
              refine sldn_i (vs := l[i].val.cells) rfl (fun j u hu => ⟨by rw [Addr.add_add]; exact cell g05 (2 + j) u (by rw [Nat.add_comm]; exact hu), fun j _ h => h⟩) ?_
              refine callK_mono (rfits_ok (hk.grow g05 (by decide) fun _ _ h => h) (hs _ (by simp))) ?_
              rintro v6 w6 ⟨rfl, g6⟩
              refine ⟨g6, ?_⟩
              rw [notK_i]
              refine condK_neg (fun ho => ⟨g05.trans g6, ?_⟩) fun ho => bad' _ (g05.trans g6) (.inr ⟨hg, ho⟩)
              rintro (h | h)
              · first | cases h | (rw [hfk] at h; cases h)
              · exact h.2 ho
      · have : i = l.length := by omega
        subst this
        rw [List.take_length] at hf
        refine ⟨?_, g3⟩
        rw [mayPat, if_neg ok, if_neg]
        rintro ⟨a, ha, h⟩; exact hf a ha h
  · refine callK_mono (risc_ok h) ?_
    rintro v2 w2 ⟨rfl, g2⟩
    rw [notK_i]
    refine condK_neg (fun hr => ?_) fun hr => bad _ g2 (.inl hr)
    rw [lenK_i, gtK_i]
    refine condK_p (fun h6 => bad _ g2 (.inr (.inl (by omega)))) fun h6 => ⟨g2, hr, by omega⟩
end Go.Proofs.Ytmfplfaeibehiaa

namespace Go.Proofs.Ytmfplfaeibehiaa
open Go Go.K

def KeyOK (k : DKey) : Prop := 1 ≤ k.id ∧ k.id ≤ 1000 ∧ 1 ≤ k.kind ∧ k.kind ≤ 4 ∧ 0 ≤ k.group ∧ k.group ≤ 8 ∧ (k.block = false → k.group = 0) ∧ (k.block = true → k.before = false)
def MayN (keys : List DKey) (n : Nat) : Prop := ∀ i, i < n → ∀ k, keys[i]? = some k → KeyOK k ∧ ∀ j, j < i → ∀ k', keys[j]? = some k' → k'.id ≠ k.id
def MayKeys (keys : List DKey) : Prop := keys.length ≤ 64 ∧ MayN keys keys.length
open Classical in
theorem rmay_ok {S : Nat → Prop} {v : Value} {keys : List DKey} {w : World} (h : RKeys S w v keys) : callK Try.prog 56 [v] (fun v' w' => v' = .bool (decide (MayKeys keys)) ∧ Grow w w') w := by
  apply S56_ok
  unfold S56
  obtain ⟨a, c, rfl, hm⟩ := h.shape
  simp only [maxLen] at hm
  have no : ∀ w', Grow w w' → ¬ MayKeys keys → Value.bool false = .bool (decide (MayKeys keys)) ∧ Grow w w' := fun w' g hn => ⟨by rw [decide_eq_false hn], g⟩
  rw [lenK_i, gtK_i]
  refine condK_p (fun h6 => no _ (Mod.refl _ _) (by rintro ⟨h, _⟩; omega)) fun h6 => ?_
  refine LoopK_i (fun vs w1 => ∃ i : Nat, i ≤ keys.length ∧ vs = [.int .i64 i] ∧ Grow w w1 ∧ MayN keys i) (fun vs _ => keys.length - iOf vs 0) ⟨0, Nat.zero_le _, rfl, Mod.refl _ _, fun i hi => by omega⟩ ?_
  rintro vs w1 ⟨i, hi, rfl, g1, hmay⟩ _
  rw [lenK_i, nth_z, List.headD_cons, ltK_i]
  refine condK_p (fun hlt => ?_) fun hge => ?_
  · have hlt' : i < keys.length := by omega
    have hki : keys[i]? = some keys[i] := List.getElem?_eq_getElem hlt'
    obtain ⟨p, r, rfl, _, hr, hc, hx⟩ := (h.grow g1 (by decide) fun _ _ h => h).get hlt'
    subst hx
    refine ixK_n hlt' (ldnK_i hr (fun j u hu => by rw [Addr.add_add]; exact hc j u hu) ?_)
    refine newst_i (vs := keys[i].cells) rfl (RKey.one (w := w) (x := keys[i]) rfl) fun b w2 hb hz g2 hc2 _ => ?_
    have g02 := g1.trans g2
    have bad : ¬ KeyOK keys[i] → Value.bool false = .bool (decide (MayKeys keys)) ∧ Grow w w2 := fun hn => no _ g02 fun hM => hn (hM.2 i hlt' _ hki).1
    have l0 := hc2 0 _ rfl
    have l1 := hc2 1 _ rfl
    have l2 := hc2 2 _ rfl
    have l4 := hc2 4 _ rfl
    have l5 := hc2 5 _ rfl
    simp only [faK_i]
    refine JoinK_i (fun vs w3 => w3 = w2 ∧ KeyOK keys[i]) ?_ ?_
    · rintro vs _ ⟨rfl, hok⟩ _
      rename World => w2
      refine LoopK_i (fun vs w3 => ∃ j : Nat, j ≤ i ∧ vs = [.int .i64 j] ∧ Grow w2 w3 ∧ ∀ q, q < j → ∀ k', keys[q]? = some k' → k'.id ≠ keys[i].id) (fun vs _ => i - iOf vs 0) ⟨0, Nat.zero_le _, rfl, Mod.refl _ _, fun q hq => by omega⟩ ?_
      rintro vs w3 ⟨j, hj, rfl, g3, hq⟩ _
      rw [nth_z, List.headD_cons, ltK_i]
      refine condK_p (fun hjl => ?_) fun hjg => ?_
      · have hjl' : j < keys.length := by omega
        obtain ⟨_, r', e, _, hr', hc', hx'⟩ := (h.grow (g02.trans g3) (by decide) fun _ _ h => h).get hjl'
        cases e
        subst hx'
        refine ⟨fun w4 => Grow w3 w4, Mod.drew _ _, ?_⟩
        refine ixK_n hjl' ?_
        rw [faK_i, Addr.add_add]
        refine qld1K_i (fun w4 h4 => h4.cell (hc' 0 _ rfl) fun h => h) ?_
        refine qld1K_i (fun w4 h4 => h4.cell (g3.cell l0 fun h => h) fun h => h) ?_
        rw [eqK_i]
        intro w4 h4
        refine condK_p (fun he => no _ ((g02.trans g3).trans h4) fun hM => ?_) fun he => ?_
        · exact (hM.2 i hlt' _ hki).2 j (by omega) _ (List.getElem?_eq_getElem hjl') he
        · rw [addK_i, loop_step (by omega)]
          refine ⟨⟨j + 1, by omega, rfl, g3.trans h4, fun q hq1 k' hk' => ?_⟩, by rw [iOf0, iOf0]; omega⟩
          by_cases e : q = j
          · subst e; rw [List.getElem?_eq_getElem hjl'] at hk'; cases hk'; exact he
          · exact hq q (by omega) k' hk'
      · have : j = i := by omega
        subst this
        rw [addK_i, loop_step (by omega)]
        refine ⟨⟨j + 1, hlt', rfl, g02.trans g3, fun q hq1 k hk => ?_⟩, by rw [iOf0, iOf0]; omega⟩
        by_cases e : q = j
        · subst e; rw [hki] at hk; cases hk; exact ⟨hok, hq⟩
        · exact hmay q (by omega) k hk
    · refine ld1K_i l0 ?_
      rw [ltK_i]
      refine condK_p (fun h1 => bad (by rintro ⟨h, _⟩; omega)) fun h1 => ?_
      refine ld1K_i l0 ?_
      rw [gtK_i]
      refine condK_p (fun h2 => bad (by rintro ⟨_, h, _⟩; omega)) fun h2 => ?_
      refine ld1K_i l2 ?_
      rw [ltK_i]
      refine condK_p (fun h3 => bad (by rintro ⟨_, _, h, _⟩; omega)) fun h3 => ?_
      refine ld1K_i l2 ?_
      rw [gtK_i]
      refine condK_p (fun h4 => bad (by rintro ⟨_, _, _, h, _⟩; omega)) fun h4 => ?_
      refine ld1K_i l5 ?_
      rw [ltK_i]
      refine condK_p (fun h5 => bad (by rintro ⟨_, _, _, _, h, _⟩; omega)) fun h5 => ?_
      refine ld1K_i l5 ?_
      rw [gtK_i]
      refine condK_p (fun h7 => bad (by rintro ⟨_, _, _, _, _, h, _⟩; omega)) fun h7 => ?_
      refine ld1K_i l1 ?_
      have tail : (keys[i].block = false → keys[i].group = 0) → ld1K (.pointer (some ((⟨b, 0, none⟩ : Addr).add 1))) (fun t59 w16 => condK t59 (ld1K (.pointer (some ((⟨b, 0, none⟩ : Addr).add 4))) (fun t62 w17 => condK t62 (Value.bool false = .bool (decide (MayKeys keys)) ∧ Grow w w17) (w17 = w2 ∧ KeyOK keys[i])) w16) (w16 = w2 ∧ KeyOK keys[i])) w2 := by
        intro hgz
        refine ld1K_i l1 ?_
        cases hb : keys[i].block with
        | true =>
          rw [condK_b, if_pos rfl]
          refine ld1K_i l4 ?_
          cases hbf : keys[i].before with
          | true => rw [condK_b, if_pos rfl]; exact bad (by rintro ⟨_, _, _, _, _, _, _, h⟩; rw [h hb] at hbf; cases hbf)
          | false => rw [condK_b]; exact (if_neg (by simp)).mpr ⟨rfl, by omega, by omega, by omega, by omega, by omega, by omega, hgz, fun _ => hbf⟩
        | false => rw [condK_b]; exact (if_neg (by simp)).mpr ⟨rfl, by omega, by omega, by omega, by omega, by omega, by omega, hgz, fun h => by rw [hb] at h; cases h⟩
      rw [notK_i]
      cases hb : keys[i].block with
      | true =>
        rw [condK_b]
        exact (if_neg (by simp)).mpr (tail fun h => by rw [hb] at h; cases h)
      | false =>
        rw [condK_b]
        refine (if_pos (by simp)).mpr (ld1K_i l5 ?_)
        rw [neK_i]
        exact condK_neg (fun hz => tail fun _ => hz) fun hz => bad (by rintro ⟨_, _, _, _, _, _, h, _⟩; exact hz (h hb))
  · have : i = keys.length := by omega
    subst this
    refine ⟨?_, g1⟩
    rw [decide_eq_true ⟨by omega, hmay⟩]

/-! ### how much -/
def szA (l : List Attr) : Nat := (l.map fun a => a.val.s.size).sum
def szC (l : List Chg) : Nat := (l.map fun a => a.val.s.size).sum
theorem mSet_eq (l : List Attr) : mSet l = l.length + szA l := by
  induction l with
  | nil => rfl
  | cons a l ih => simp only [mSet, szA, List.map_cons, List.sum_cons, List.length_cons, mAttr] at ih ⊢; omega
theorem mPat_eq (l : List Chg) : mPat l = l.length + szC l := by
  induction l with
  | nil => rfl
  | cons a l ih => simp only [mPat, szC, List.map_cons, List.sum_cons, List.length_cons, mChg] at ih ⊢; omega
theorem szA_take {l : List Attr} {k : Nat} (h : k < l.length) : szA (l.take (k + 1)) = szA (l.take k) + l[k].val.s.size := by
  rw [List.take_add_one, List.getElem?_eq_getElem h]; simp only [szA, Option.toList, List.map_append, List.sum_append, List.map_cons, List.map_nil, List.sum_cons, List.sum_nil, Nat.add_zero]
theorem szC_take {l : List Chg} {k : Nat} (h : k < l.length) : szC (l.take (k + 1)) = szC (l.take k) + l[k].val.s.size := by
  rw [List.take_add_one, List.getElem?_eq_getElem h]; simp only [szC, Option.toList, List.map_append, List.sum_append, List.map_cons, List.map_nil, List.sum_cons, List.sum_nil, Nat.add_zero]
theorem mDops_take {l : List Dop} {k : Nat} (h : k < l.length) : mDops (l.take (k + 1)) = mDops (l.take k) + mDop l[k] := by
  rw [List.take_add_one, List.getElem?_eq_getElem h]; simp only [mDops, Option.toList, List.map_append, List.sum_append, List.map_cons, List.map_nil, List.sum_cons, List.sum_nil, Nat.add_zero]
theorem mDops_mem {l : List Dop} {o : Dop} (h : o ∈ l) : mDop o ≤ mDops l := by
  induction l with
  | nil => simp at h
  | cons a l ih =>
    have e : mDops (a :: l) = mDop a + mDops l := by simp [mDops]
    rcases List.mem_cons.1 h with rfl | h
    · omega
    · have := ih h; omega
theorem mDops_len (l : List Dop) : l.length ≤ mDops l := by
  induction l with
  | nil => exact Nat.zero_le _
  | cons a l ih => simp only [mDops, List.map_cons, List.sum_cons, List.length_cons, mDop] at ih ⊢; omega
theorem mDops_le (l : List Dop) (k : Nat) : mDops (l.take k) ≤ mDops l := by
  have : mDops l = mDops (l.take k) + mDops (l.drop k) := by
    conv => lhs; rw [← List.take_append_drop k l]
    simp only [mDops, List.map_append, List.sum_append]
  omega
theorem szA_le (l : List Attr) (k : Nat) : szA (l.take k) ≤ szA l := by
  have : szA l = szA (l.take k) + szA (l.drop k) := by
    conv => lhs; rw [← List.take_append_drop k l]
    simp only [szA, List.map_append, List.sum_append]
  omega
theorem szC_le (l : List Chg) (k : Nat) : szC (l.take k) ≤ szC l := by
  have : szC l = szC (l.take k) + szC (l.drop k) := by
    conv => lhs; rw [← List.take_append_drop k l]
    simp only [szC, List.map_append, List.sum_append]
  omega
theorem mSet_mem {l : List Attr} {a : Attr} (h : a ∈ l) : a.val.s.size + 1 ≤ mSet l := by
  induction l with
  | nil => simp at h
  | cons b l ih =>
    have e : mSet (b :: l) = mAttr b + mSet l := by simp [mSet]
    rcases List.mem_cons.1 h with rfl | h
    · simp only [mAttr] at e; omega
    · have := ih h; omega
theorem mPat_mem {l : List Chg} {a : Chg} (h : a ∈ l) : a.val.s.size + 1 ≤ mPat l := by
  induction l with
  | nil => simp at h
  | cons b l ih =>
    have e : mPat (b :: l) = mChg b + mPat l := by simp [mPat]
    rcases List.mem_cons.1 h with rfl | h
    · simp only [mChg] at e; omega
    · have := ih h; omega
theorem size_ok {S D : Nat → Prop} {v : Value} {x : List Dop} {w : World} (h : RDops S D w v x) (hb : mDops x ≤ 1099511627776) :
    callK Try.prog 31 [v] (fun v' w' => v' = .int .i64 (mDops x) ∧ Grow w w') w := by
  apply S31_ok
  unfold S31
  obtain ⟨a, c, rfl, hm⟩ := h.shape
  simp only [maxLen] at hm
  refine LoopK_i (fun vs w1 => ∃ k : Nat, k ≤ x.length ∧ vs = [.int .i64 (mDops (x.take k)), .int .i64 k] ∧ Grow w w1) (fun vs _ => x.length - iOf vs 1) ⟨0, Nat.zero_le _, rfl, Mod.refl _ _⟩ ?_
  rintro vs w1 ⟨k, hk, rfl, hg⟩ _
  simp only [nth_s, nth_z, List.headD_cons, List.tail_cons]
  rw [lenK_i, ltK_i]
  refine condK_p (fun hlt => ?_) fun hge => ?_
  · have hlt' : k < x.length := by omega
    have hmk := mDops_take hlt'
    have hmk1 := mDops_le x (k + 1)
    obtain ⟨p, r, rfl, _, hr, hc, rv, sv, pv, rfl, h1, h2, h3⟩ := (RDops.grow h hg).get hlt'
    obtain ⟨a1, c1, rfl, m1⟩ := h1.shape
    obtain ⟨a2, c2, rfl, m2⟩ := h2.shape
    obtain ⟨a3, c3, rfl, m3⟩ := h3.shape
    have cl : ∀ {W}, Grow w1 W → ∀ j u, [Value.int .u8 x[k].kind, .int .i64 x[k].n, .slice a1 x[k].runes.length c1, .slice a2 x[k].set.length c2, .slice a3 x[k].patch.length c3][j]? = some u → W.cell? ((p.add (k * 5)).add j) = some u := fun hW j u hu => by rw [Addr.add_add]; exact hW.cell (hc j u hu) fun h => h
    simp only [mDop, mSet_eq, mPat_eq] at hmk
    refine drawK_i (fun w2 => Grow w1 w2) (Mod.drew _ _) ?_
    rw [addK_i, wrap64 (by omega) (by omega)]
    refine ixK_n hlt' ?_
    rw [faK_i]
    refine qld1K_i (fun W hW => cl hW 2 _ rfl) ?_
    rw [lenK_i, addK_i, wrap64 (by omega) (by omega)]
    refine ixK_n hlt' ?_
    rw [faK_i]
    refine qld1K_i (fun W hW => cl hW 3 _ rfl) ?_
    rw [lenK_i, addK_i, wrap64 (by omega) (by omega)]
    refine ixK_n hlt' ?_
    rw [faK_i]
    refine qld1K_i (fun W hW => cl hW 4 _ rfl) ?_
    rw [lenK_i, addK_i, wrap64 (by omega) (by omega)]
    intro w2 g2
    generalize hN : ((mDops (x.take k) : Nat) : Int) + 1 + x[k].runes.length + x[k].set.length + x[k].patch.length = N
    refine LoopK_i (fun vs w3 => ∃ i : Nat, i ≤ x[k].set.length ∧ vs = [.int .i64 (N + szA (x[k].set.take i)), .int .i64 i] ∧ Grow w1 w3) (fun vs _ => x[k].set.length - iOf vs 1) ⟨0, Nat.zero_le _, by simp [szA], g2⟩ ?_
    rintro vs w3 ⟨i, hi, rfl, g3⟩ _
    simp only [nth_s, nth_z, List.headD_cons, List.tail_cons]
    refine ixK_n hlt' ?_
    rw [faK_i]
    refine ld1K_i (cl g3 3 _ rfl) ?_
    rw [lenK_i, ltK_i]
    refine condK_p (fun hil => ?_) fun hig => ?_
    · have hil' : i < x[k].set.length := by omega
      have hsk := szA_take hil'
      have hsk1 := szA_le x[k].set (i + 1)
      refine ixK_n hlt' ?_
      rw [faK_i]
      refine ld1K_i (cl g3 3 _ rfl) ?_
      obtain ⟨q, r', rfl, _, hr', hc', hx'⟩ := (h2.grow g3 (by decide) fun _ _ h => h).get hil'
      subst hx'
      refine ixK_n hil' ?_
      rw [faK_i, faK_i, Addr.add_add, Addr.add_add]
      refine ld1K_i (hc' 4 _ rfl) ?_
      rw [slenK_i, addK_i, addK_i, loop_step (by omega), wrap64 (by omega) (by omega)]
      refine ⟨⟨i + 1, hil', by rw [hsk]; congr 2; omega, g3⟩, by rw [iOf1, iOf1]; omega⟩
    · have : i = x[k].set.length := by omega
      subst this
      rw [List.take_length]
      generalize hN2 : N + szA x[k].set = N2
      refine LoopK_i (fun vs w4 => ∃ i : Nat, i ≤ x[k].patch.length ∧ vs = [.int .i64 (N2 + szC (x[k].patch.take i)), .int .i64 i] ∧ Grow w1 w4) (fun vs _ => x[k].patch.length - iOf vs 1) ⟨0, Nat.zero_le _, by simp [szC], g3⟩ ?_
      rintro vs w4 ⟨i, hi, rfl, g4⟩ _
      simp only [nth_s, nth_z, List.headD_cons, List.tail_cons]
      refine ixK_n hlt' ?_
      rw [faK_i]
      refine ld1K_i (cl g4 4 _ rfl) ?_
      rw [lenK_i, ltK_i]
      refine condK_p (fun hil => ?_) fun hig => ?_
      · have hil' : i < x[k].patch.length := by omega
        have hsk := szC_take hil'
        have hsk1 := szC_le x[k].patch (i + 1)
        refine ixK_n hlt' ?_
        rw [faK_i]
        refine ld1K_i (cl g4 4 _ rfl) ?_
        obtain ⟨q, r', rfl, _, hr', hc', hx'⟩ := (h3.grow g4 (by decide) fun _ _ h => h).get hil'
        subst hx'
        refine ixK_n hil' ?_
        rw [faK_i, faK_i, Addr.add_add, Addr.add_add]
        refine ld1K_i (hc' 5 _ rfl) ?_
        rw [slenK_i, addK_i, addK_i, loop_step (by omega), wrap64 (by omega) (by omega)]
        refine ⟨⟨i + 1, hil', by rw [hsk]; congr 2; omega, g4⟩, by rw [iOf1, iOf1]; omega⟩
      · have : i = x[k].patch.length := by omega
        subst this
        rw [List.take_length, addK_i, loop_step (by omega)]
        refine ⟨⟨k + 1, hlt', ?_, hg.trans g4⟩, by rw [iOf1, iOf1]; omega⟩
        congr 2
        omega
  · have : k = x.length := by omega
    subst this
    rw [List.take_length]
    exact ⟨rfl, hg⟩
end Go.Proofs.Ytmfplfaeibehiaa

namespace Go.Proofs.Ytmfplfaeibehiaa
open Go Go.K

structure MkS where
  done : List Dop
  ins : List Dop
  gone : Int
def MkS.z : MkS := ⟨[], [], 0⟩
def gapL (ins : List Dop) (gone : Int) : List Dop := if 0 < gone then ins ++ [⟨3, gone, [], [], []⟩] else ins
def putS (d : List Dop) (n : Int) (p : List Chg) : List Dop :=
  match d.getLast? with
  | some o => if o.kind = 1 ∧ o.patch = p then d.set (d.length - 1) ⟨o.kind, IntKind.i64.wrap (o.n + n), o.runes, o.set, o.patch⟩ else d ++ [⟨1, n, [], [], p⟩]
  | none => d ++ [⟨1, n, [], [], p⟩]
def retS (s : MkS) (n : Int) (p : List Chg) : MkS := if n < 1 then s else ⟨putS (s.done ++ gapL s.ins s.gone) n p, [], 0⟩
def addI (ins : List Dop) (rs : List Int) (set : List Attr) : List Dop :=
  match ins.getLast? with
  | some o => if o.set = set then ins.set (ins.length - 1) ⟨o.kind, o.n, o.runes ++ rs, o.set, o.patch⟩ else ins ++ [⟨2, 0, rs, set, []⟩]
  | none => ins ++ [⟨2, 0, rs, set, []⟩]
def insS (s : MkS) (rs : List Int) (set : List Attr) : MkS := if rs = [] then s else ⟨s.done, addI s.ins rs set, s.gone⟩
def delS (s : MkS) (n : Int) : MkS := ⟨s.done, s.ins, IntKind.i64.wrap (s.gone + maxI n 0)⟩
def stepS (s : MkS) (o : Dop) : MkS := if o.kind = 1 then retS s o.n o.patch else if o.kind = 2 then insS s o.runes o.set else delS s o.n
def trimL (l : List Dop) : List Dop := match l.getLast? with | some o => if o.kind = 1 ∧ o.patch = [] then l.dropLast else l | none => l
def opsS (s : MkS) : List Dop := trimL (s.done ++ gapL s.ins s.gone)
def runS (x : List Dop) : MkS := x.foldl stepS MkS.z
def normB (x : List Dop) : List Dop := opsS (runS x)

/-! ### the document's -/
def rgapF (a : List Dop × Int) (o : Dop) : List Dop × Int :=
  if o.kind = 3 then (a.1, IntKind.i64.wrap (a.2 + o.n)) else
  match a.1.getLast? with
  | some q => if q.set = o.set then (a.1.set (a.1.length - 1) ⟨q.kind, q.n, q.runes ++ o.runes, q.set, q.patch⟩, a.2) else (a.1 ++ [o], a.2)
  | none => (a.1 ++ [o], a.2)
def rgap (x : List Dop) : List Dop := gapL (x.foldl rgapF ([], 0)).1 (x.foldl rgapF ([], 0)).2
def rput (d : List Dop) (o : Dop) : List Dop :=
  match d.getLast? with
  | some q => if q.kind = 1 ∧ q.patch = o.patch then d.set (d.length - 1) ⟨q.kind, IntKind.i64.wrap (q.n + o.n), q.runes, q.set, q.patch⟩ else d ++ [o]
  | none => d ++ [o]
def rofF (a : List Dop × List Dop) (o : Dop) : List Dop × List Dop := if o.kind = 1 then (rput (a.1 ++ rgap a.2) o, []) else (a.1, a.2 ++ [o])
def rof (x : List Dop) : List Dop := trimL ((x.foldl rofF ([], [])).1 ++ rgap (x.foldl rofF ([], [])).2)

/-- an op's right form -/
def Form1 (o : Dop) : Prop := (o.kind = 1 ∧ o.runes = [] ∧ o.set = [] ∧ 1 ≤ o.n ∧ o.n ≤ 536870912) ∨ (o.kind = 3 ∧ o.runes = [] ∧ o.set = [] ∧ o.patch = [] ∧ 1 ≤ o.n ∧ o.n ≤ 536870912) ∨ (o.kind = 2 ∧ o.n = 0 ∧ o.patch = [] ∧ o.runes ≠ [])
theorem norm_rel (x : List Dop) (h : ∀ o ∈ x, Form1 o) : (runS x).done = (x.foldl rofF ([], [])).1 ∧ ((runS x).ins, (runS x).gone) = (x.foldl rofF ([], [])).2.foldl rgapF ([], 0) := by
  induction x using rev_ind with
  | h0 => exact ⟨rfl, rfl⟩
  | h1 x o ih =>
    obtain ⟨h1, h2⟩ := ih fun o ho => h o (by simp [ho])
    have ho := h o (by simp)
    unfold runS at h1 h2 ⊢
    simp only [List.foldl_append, List.foldl_cons, List.foldl_nil]
    generalize x.foldl stepS MkS.z = s at h1 h2 ⊢
    generalize x.foldl rofF ([], []) = a at h1 h2 ⊢
    obtain ⟨done, ins, gone⟩ := s
    obtain ⟨out, seg⟩ := a
    obtain ⟨k, n, rs, set, p⟩ := o
    simp only at h1 h2
    subst h1
    rcases ho with ⟨e1, e2, e3, e4, e5⟩ | ⟨e1, e2, e3, e4, e5, e6⟩ | ⟨e1, e2, e3, e4⟩
    · simp only at e1 e2 e3 e4 e5
      subst e1; subst e2; subst e3
      have hgap : gapL ins gone = rgap seg := by unfold rgap; rw [← h2]
      simp only [stepS, rofF, if_true, retS, if_neg (show ¬ n < 1 by omega), hgap]
      exact ⟨rfl, rfl⟩
    · simp only at e1 e2 e3 e4 e5 e6
      subst e1; subst e2; subst e3; subst e4
      have : maxI n 0 = n := by unfold maxI; rw [if_neg (by omega)]
      simp only [stepS, rofF, show ¬ (3 : Int) = 1 by decide, show ¬ (3 : Int) = 2 by decide, if_false, List.foldl_append, List.foldl_cons, List.foldl_nil, delS, this]
      refine ⟨trivial, ?_⟩
      rw [← h2]
      simp only [rgapF, if_true]
    · simp only at e1 e2 e3 e4
      subst e1; subst e2; subst e3
      simp only [stepS, rofF, show ¬ (2 : Int) = 1 by decide, if_true, if_false, List.foldl_append, List.foldl_cons, List.foldl_nil, insS, if_neg e4, addI]
      refine ⟨trivial, ?_⟩
      rw [← h2]
      simp only [rgapF, show ¬ (2 : Int) = 3 by decide, if_false]
      cases ins.getLast? with
      | none => rfl
      | some q => simp only; split <;> rfl
theorem norm_eq (x : List Dop) (h : ∀ o ∈ x, Form1 o) : normB x = rof x := by
  obtain ⟨h1, h2⟩ := norm_rel x h
  unfold normB opsS rof rgap
  rw [h1, ← h2]

/-! ### what is canonical -/
inductive InsC : List Dop → Prop
  | nil : InsC []
  | snoc (i : List Dop) (rs : List Int) (set : List Attr) (h : InsC i) (hr : rs ≠ []) (hs : ∀ q, i.getLast? = some q → q.set ≠ set) : InsC (i ++ [⟨2, 0, rs, set, []⟩])
inductive DoneC : List Dop → Prop
  | nil : DoneC []
  | snoc (d ins : List Dop) (gone n : Int) (p : List Chg) (h : DoneC d) (hi : InsC ins) (hg : 0 ≤ gone) (hb : gone ≤ 4611686018427387904) (hn : 1 ≤ n) (hp : ins = [] → gone = 0 → ∀ q, d.getLast? = some q → q.patch ≠ p) : DoneC (d ++ gapL ins gone ++ [⟨1, n, [], [], p⟩])
theorem InsC.add {ins : List Dop} (h : InsC ins) {rs : List Int} (hr : rs ≠ []) (set : List Attr) : InsC (addI ins rs set) := by
  cases h with
  | nil => exact InsC.snoc [] rs set .nil hr fun q hq => by simp at hq
  | snoc i rs' set' h hr' hs =>
    unfold addI
    simp only [List.getLast?_append, List.getLast?_singleton, Option.some_or]
    by_cases e : set' = set
    · rw [if_pos e]
      have : (i ++ [(⟨2, 0, rs', set', []⟩ : Dop)]).set ((i ++ [(⟨2, 0, rs', set', []⟩ : Dop)]).length - 1) ⟨2, 0, rs' ++ rs, set', []⟩ = i ++ [⟨2, 0, rs' ++ rs, set', []⟩] := by simp
      rw [this]
      exact InsC.snoc i _ set' h (by simp [hr']) hs
    · rw [if_neg e]
      exact InsC.snoc _ rs set (InsC.snoc i rs' set' h hr' hs) hr fun q hq => by
        simp only [List.getLast?_append, List.getLast?_singleton, Option.some_or, Option.some.injEq] at hq
        subst hq; exact e
theorem InsC.kinds {ins : List Dop} (h : InsC ins) : ∀ o ∈ ins, o.kind = 2 := by
  induction h with
  | nil => intro o ho; simp at ho
  | snoc i rs set h hr hs ih =>
    intro o ho
    rcases List.mem_append.1 ho with ho | ho
    · exact ih o ho
    · simp at ho; subst ho; rfl
theorem InsC.run {ins : List Dop} (h : InsC ins) (d : List Dop) (g : Int) : ins.foldl stepS ⟨d, [], g⟩ = ⟨d, ins, g⟩ := by
  induction h with
  | nil => rfl
  | snoc i rs set h hr hs ih =>
    rw [List.foldl_append, ih]
    simp only [List.foldl_cons, List.foldl_nil, stepS, show ¬ (2 : Int) = 1 by decide, if_true, if_false, insS, if_neg hr, addI]
    cases e : i.getLast? with
    | none => rfl
    | some q => simp only; rw [if_neg (hs q e)]
theorem gapL_last {ins : List Dop} {gone : Int} (h : InsC ins) : ∀ o, (gapL ins gone).getLast? = some o → o.kind ≠ 1 := by
  intro o ho
  unfold gapL at ho
  split at ho
  · simp only [List.getLast?_append, List.getLast?_singleton, Option.some_or, Option.some.injEq] at ho
    subst ho; intro h; cases h
  · have := h.kinds o (List.mem_of_getLast? ho)
    omega
theorem gapL_nil {ins : List Dop} {gone : Int} (h0 : 0 ≤ gone) (h : gapL ins gone = []) : ins = [] ∧ gone = 0 := by
  unfold gapL at h
  split at h
  · simp at h
  · exact ⟨h, by omega⟩
theorem last_app {d g : List Dop} : (d ++ g).getLast? = match g.getLast? with | some o => some o | none => d.getLast? := by
  rw [List.getLast?_append]; cases g.getLast? <;> rfl
theorem gap_run {ins : List Dop} (h : InsC ins) (d : List Dop) {g : Int} (hg : 0 ≤ g) (hb : g ≤ 4611686018427387904) : (gapL ins g).foldl stepS ⟨d, [], 0⟩ = ⟨d, ins, g⟩ := by
  unfold gapL
  split
  · rw [List.foldl_append, h.run]
    simp only [List.foldl_cons, List.foldl_nil, stepS, show ¬ (3 : Int) = 1 by decide, show ¬ (3 : Int) = 2 by decide, if_false, delS]
    have : maxI g 0 = g := by unfold maxI; rw [if_neg (by omega)]
    rw [this, wrap64 (by omega) (by omega)]
    congr 1; omega
  · rw [h.run]; congr 1; omega
theorem put_new {d g : List Dop} {n : Int} {p : List Chg} (h1 : ∀ o, g.getLast? = some o → o.kind ≠ 1) (h2 : g = [] → ∀ q, d.getLast? = some q → q.patch ≠ p) : putS (d ++ g) n p = d ++ g ++ [⟨1, n, [], [], p⟩] := by
  unfold putS
  rw [last_app]
  cases e : g.getLast? with
  | some o => simp only; rw [if_neg (fun h => h1 o e h.1)]
  | none =>
    have : g = [] := List.getLast?_eq_none_iff.1 e
    subst this
    simp only [List.append_nil]
    cases e2 : d.getLast? with
    | none => rfl
    | some q => simp only; rw [if_neg (fun h => h2 rfl q e2 h.2)]
theorem DoneC.run {d : List Dop} (h : DoneC d) : d.foldl stepS MkS.z = ⟨d, [], 0⟩ := by
  induction h with
  | nil => rfl
  | snoc d ins gone n p h hi hg hb hn hp ih =>
    rw [List.foldl_append, List.foldl_append, ih, gap_run hi d hg hb]
    simp only [List.foldl_cons, List.foldl_nil, stepS, if_true, retS, if_neg (show ¬ n < 1 by omega)]
    rw [put_new (gapL_last hi) fun e => hp (gapL_nil hg e).1 (gapL_nil hg e).2]
def sumN (l : List Dop) : Int := (l.map (·.n)).sum
theorem sumN_app (l m : List Dop) : sumN (l ++ m) = sumN l + sumN m := by simp [sumN]
theorem sumN_one (o : Dop) : sumN [o] = o.n := by simp [sumN]
theorem InsC.sum {ins : List Dop} (h : InsC ins) : sumN ins = 0 := by
  induction h with
  | nil => rfl
  | snoc i rs set h hr hs ih => rw [sumN_app, sumN_one, ih]; rfl
theorem gapL_sum {ins : List Dop} {g : Int} (h : InsC ins) (hg : 0 ≤ g) : sumN (gapL ins g) = g := by
  unfold gapL; split
  · rw [sumN_app, sumN_one, h.sum]; simp
  · rw [h.sum]; omega
theorem DoneC.nn {d : List Dop} (h : DoneC d) : 0 ≤ sumN d := by
  induction h with
  | nil => simp [sumN]
  | snoc d ins gone n p h hi hg hb hn hp ih => rw [sumN_app, sumN_app, sumN_one, gapL_sum hi hg]; simp only; omega
structure Canon (s : MkS) (t : Int) : Prop where
  done : DoneC s.done
  ins : InsC s.ins
  gone : 0 ≤ s.gone
  sum : sumN s.done + s.gone = t
theorem Canon.step {s : MkS} {t : Int} (h : Canon s t) {o : Dop} (ho : Form1 o) (ht : t + o.n ≤ 4611686018427387904) : Canon (stepS s o) (t + o.n) := by
  obtain ⟨done, ins, gone⟩ := s
  obtain ⟨h1, h2, h3, h4⟩ := h
  simp only at h1 h2 h3 h4
  obtain ⟨k, n, rs, set, p⟩ := o
  have hnn := h1.nn
  rcases ho with ⟨e1, e2, e3, e4, e5⟩ | ⟨e1, e2, e3, e4, e5, e6⟩ | ⟨e1, e2, e3, e4⟩
  · simp only at e1 e2 e3 e4 e5 ht
    subst e1
    simp only [stepS, if_true, retS, if_neg (show ¬ n < 1 by omega)]
    have key : DoneC (putS (done ++ gapL ins gone) n p) ∧ sumN (putS (done ++ gapL ins gone) n p) = t + n := by
      by_cases hgap : gapL ins gone = []
      · obtain ⟨e8, e9⟩ := gapL_nil h3 hgap
        subst e8; subst e9
        rw [hgap, List.append_nil]
        cases h1 with
        | nil => exact ⟨DoneC.snoc [] [] 0 n p .nil .nil (by omega) (by omega) e4 fun _ _ q hq => by simp at hq, by simp only [putS, List.getLast?_nil, sumN_app, sumN_one] at h4 ⊢; omega⟩
        | snoc d ins gone n' p' h hi hg hb hn hp =>
          unfold putS
          rw [List.getLast?_append, List.getLast?_singleton, Option.some_or]
          simp only [true_and]
          rw [sumN_app, sumN_app, sumN_one, gapL_sum hi hg] at h4
          simp only at h4
          have hdn := h.nn
          by_cases e : p' = p
          · rw [if_pos e]
            have e10 : (d ++ gapL ins gone ++ [(⟨1, n', [], [], p'⟩ : Dop)]).set ((d ++ gapL ins gone ++ [(⟨1, n', [], [], p'⟩ : Dop)]).length - 1) ⟨1, IntKind.i64.wrap (n' + n), [], [], p'⟩ = d ++ gapL ins gone ++ [⟨1, IntKind.i64.wrap (n' + n), [], [], p'⟩] := by
              rw [List.set_append_right _ _ (by simp)]; simp
            rw [e10, wrap64 (by omega) (by omega)]
            refine ⟨DoneC.snoc d ins gone (n' + n) p' h hi hg hb (by omega) hp, ?_⟩
            rw [sumN_app, sumN_app, sumN_one, gapL_sum hi hg]; simp only; omega
          · rw [if_neg e]
            have := DoneC.snoc (d ++ gapL ins gone ++ [⟨1, n', [], [], p'⟩]) [] 0 n p (DoneC.snoc d ins gone n' p' h hi hg hb hn hp) .nil (by omega) (by omega) e4 fun _ _ q hq => by
              rw [List.getLast?_append, List.getLast?_singleton, Option.some_or] at hq; cases hq; exact e
            simp only [gapL, show ¬ (0 : Int) < 0 by decide, if_false, List.append_nil] at this
            refine ⟨this, ?_⟩
            simp only [sumN_app, sumN_one, gapL_sum hi hg]; omega
      · rw [put_new (gapL_last h2) fun e => (hgap e).elim]
        refine ⟨DoneC.snoc done ins gone n p h1 h2 h3 (by omega) e4 fun e8 e9 => (hgap (by subst e8; subst e9; rfl)).elim, ?_⟩
        rw [sumN_app, sumN_app, sumN_one, gapL_sum h2 h3]; simp only; omega
    exact ⟨key.1, .nil, by simp, by simp only; omega⟩
  · simp only at e1 e2 e3 e4 e5 e6 ht
    subst e1
    simp only [stepS, show ¬ (3 : Int) = 1 by decide, show ¬ (3 : Int) = 2 by decide, if_false, delS]
    have : maxI n 0 = n := by unfold maxI; rw [if_neg (by omega)]
    rw [this, wrap64 (by omega) (by omega)]
    exact ⟨h1, h2, by simp only; omega, by simp only; omega⟩
  · simp only at e1 e2 e3 e4 ht
    subst e1; subst e2
    simp only [stepS, show ¬ (2 : Int) = 1 by decide, if_true, if_false, insS, if_neg e4]
    exact ⟨h1, h2.add e4 set, h3, by simp only; omega⟩
theorem Form1.nn {o : Dop} (h : Form1 o) : 0 ≤ o.n ∧ o.n ≤ 536870912 := by
  rcases h with ⟨_, _, _, h, h'⟩ | ⟨_, _, _, _, h, h'⟩ | ⟨_, h, _⟩ <;> omega
theorem sumN_form (x : List Dop) (h : ∀ o ∈ x, Form1 o) : 0 ≤ sumN x ∧ sumN x ≤ x.length * 536870912 := by
  induction x with
  | nil => simp [sumN]
  | cons o x ih =>
    have h1 := ih fun o ho => h o (by simp [ho])
    have h2 := (h o (by simp)).nn
    have : sumN (o :: x) = o.n + sumN x := by simp [sumN]
    rw [this]
    simp only [List.length_cons]
    omega
theorem canon_run (x : List Dop) (h : ∀ o ∈ x, Form1 o) (hl : x.length ≤ 8589934592) : Canon (runS x) (sumN x) := by
  induction x using rev_ind with
  | h0 => exact ⟨.nil, .nil, by decide, by decide⟩
  | h1 x o ih =>
    have hx : ∀ o ∈ x, Form1 o := fun o ho => h o (by simp [ho])
    have ho := h o (by simp)
    simp only [List.length_append, List.length_cons, List.length_nil] at hl
    have h1 := ih (fun o ho => hx o ho) (by omega)
    have h2 := sumN_form x fun o ho => hx o ho
    have h3 := ho.nn
    unfold runS at h1 ⊢
    rw [List.foldl_append, sumN_app, sumN_one]
    exact h1.step ho (by omega)
theorem trim_fix {d ins : List Dop} {g : Int} (hd : DoneC d) (hi : InsC ins) (hg : 0 ≤ g) (hb : g ≤ 4611686018427387904) : normB (trimL (d ++ gapL ins g)) = trimL (d ++ gapL ins g) := by
  have same : ∀ (d ins : List Dop) (g : Int), DoneC d → InsC ins → 0 ≤ g → g ≤ 4611686018427387904 → normB (d ++ gapL ins g) = trimL (d ++ gapL ins g) := by
    intro d ins g hd hi hg hb
    unfold normB runS opsS
    rw [List.foldl_append, hd.run, gap_run hi d hg hb]
  by_cases hgap : gapL ins g = []
  · rw [hgap, List.append_nil]
    cases hd with
    | nil => rfl
    | snoc d ins' g' n p h hi' hg' hb' hn hp =>
      by_cases e : p = []
      · subst e
        have e1 : trimL (d ++ gapL ins' g' ++ [(⟨1, n, [], [], []⟩ : Dop)]) = d ++ gapL ins' g' := by
          unfold trimL
          rw [List.getLast?_append, List.getLast?_singleton, Option.some_or]
          simp only [and_self, if_true, List.dropLast_concat]
        rw [e1, same d ins' g' h hi' hg' hb']
        unfold trimL
        rw [last_app]
        cases e2 : (gapL ins' g').getLast? with
        | some o => simp only; rw [if_neg (fun h => gapL_last hi' o e2 h.1)]
        | none =>
          have e3 : gapL ins' g' = [] := List.getLast?_eq_none_iff.1 e2
          obtain ⟨e4, e5⟩ := gapL_nil hg' e3
          rw [e3, List.append_nil]
          simp only
          cases e6 : d.getLast? with
          | none => rfl
          | some q => simp only; rw [if_neg (fun h => hp e4 e5 q e6 h.2)]
      · have hD := DoneC.snoc d ins' g' n p h hi' hg' hb' hn hp
        have e1 : trimL (d ++ gapL ins' g' ++ [(⟨1, n, [], [], p⟩ : Dop)]) = d ++ gapL ins' g' ++ [⟨1, n, [], [], p⟩] := by
          unfold trimL
          rw [List.getLast?_append, List.getLast?_singleton, Option.some_or]
          simp only [e, and_false, if_false]
        rw [e1]
        have := same _ [] 0 hD .nil (by omega) (by omega)
        simp only [gapL, show ¬ (0 : Int) < 0 by decide, if_false, List.append_nil] at this
        exact this.trans e1
  · have e1 : trimL (d ++ gapL ins g) = d ++ gapL ins g := by
      unfold trimL
      rw [last_app]
      cases e2 : (gapL ins g).getLast? with
      | some o => simp only; rw [if_neg (fun h => gapL_last hi o e2 h.1)]
      | none => exact (hgap (List.getLast?_eq_none_iff.1 e2)).elim
    rw [e1, same d ins g hd hi hg hb, e1]
/-- the form of a form is itself -/
theorem norm_twice (x : List Dop) (h : ∀ o ∈ x, Form1 o) (hl : x.length ≤ 8589934592) : normB (normB x) = normB x := by
  have c := canon_run x h hl
  have h2 := sumN_form x h
  have h3 := c.done.nn
  have h4 := c.sum
  exact trim_fix c.done c.ins c.gone (by omega)
/-- at each gap inserts, then one delete -/
def GapsOK (l : List Dop) : Prop := ∀ (i : Nat) a b, l[i]? = some a → l[i + 1]? = some b → a.kind = 3 → b.kind = 1
theorem gaps_snoc {l : List Dop} {o : Dop} (h : GapsOK l) (h2 : ∀ q, l.getLast? = some q → q.kind = 3 → o.kind = 1) : GapsOK (l ++ [o]) := by
  intro i a b ha hb hk
  by_cases h3 : i + 1 < l.length
  · rw [List.getElem?_append_left (by omega)] at ha
    rw [List.getElem?_append_left h3] at hb
    exact h i a b ha hb hk
  · by_cases h4 : i + 1 = l.length
    · rw [List.getElem?_append_left (by omega)] at ha
      rw [List.getElem?_append_right (by omega), h4] at hb
      simp at hb; subst hb
      refine h2 a ?_ hk
      rw [List.getLast?_eq_getElem?, ← ha]; congr 1; omega
    · have := (List.getElem?_eq_some_iff.1 hb).1
      simp at this; omega
theorem gaps_app {l m : List Dop} (hl : GapsOK l) (hm : GapsOK m) (h : ∀ q, l.getLast? = some q → q.kind ≠ 3) : GapsOK (l ++ m) := by
  intro i a b ha hb hk
  by_cases h3 : i + 1 < l.length
  · rw [List.getElem?_append_left (by omega)] at ha
    rw [List.getElem?_append_left h3] at hb
    exact hl i a b ha hb hk
  · by_cases h4 : i + 1 = l.length
    · rw [List.getElem?_append_left (by omega)] at ha
      refine (h a ?_ hk).elim
      rw [List.getLast?_eq_getElem?, ← ha]; congr 1; omega
    · rw [List.getElem?_append_right (by omega)] at ha hb
      refine hm (i - l.length) a b ha ?_ hk
      rw [← hb]; congr 1; omega
theorem InsC.gaps {ins : List Dop} (h : InsC ins) : GapsOK ins := by
  intro i a b ha hb hk
  have := h.kinds a (List.mem_of_getElem? ha)
  omega
theorem gapL_gaps {ins : List Dop} {g : Int} (h : InsC ins) : GapsOK (gapL ins g) := by
  unfold gapL; split
  · refine gaps_snoc h.gaps fun q hq hk => ?_
    have := h.kinds q (List.mem_of_getLast? hq)
    omega
  · exact h.gaps
theorem DoneC.last {d : List Dop} (h : DoneC d) : ∀ q, d.getLast? = some q → q.kind = 1 := by
  cases h with
  | nil => intro q hq; simp at hq
  | snoc d ins gone n p h hi hg hb hn hp =>
    intro q hq
    rw [List.getLast?_append, List.getLast?_singleton, Option.some_or] at hq; cases hq; rfl
theorem DoneC.gaps {d : List Dop} (h : DoneC d) : GapsOK d := by
  induction h with
  | nil => intro i a b ha; simp at ha
  | snoc d ins gone n p h hi hg hb hn hp ih =>
    refine gaps_snoc (gaps_app ih (gapL_gaps hi) fun q hq hk => ?_) fun _ _ _ => rfl
    have := h.last q hq
    omega
theorem gaps_sub {l : List Dop} (h : GapsOK l) : GapsOK l.dropLast := by
  intro i a b ha hb hk
  rw [List.getElem?_dropLast] at ha hb
  split at ha <;> split at hb <;> first | exact h i a b ha hb hk | simp_all
theorem norm_gaps (x : List Dop) (h : ∀ o ∈ x, Form1 o) (hl : x.length ≤ 8589934592) : GapsOK (normB x) := by
  have c := canon_run x h hl
  have h1 : GapsOK ((runS x).done ++ gapL (runS x).ins (runS x).gone) := gaps_app c.done.gaps (gapL_gaps c.ins) fun q hq hk => by have := c.done.last q hq; omega
  unfold normB opsS trimL
  split
  · split
    · exact gaps_sub h1
    · exact h1
  · exact h1
/-- behind a form no retain without a patch -/
theorem norm_last (x : List Dop) (h : ∀ o ∈ x, Form1 o) (hl : x.length ≤ 8589934592) : ∀ q, (normB x).getLast? = some q → ¬ (q.kind = 1 ∧ q.patch = []) := by
  intro q hq hk
  have e := norm_twice x h hl
  have : trimL (normB x) = normB x := by
    have c := canon_run x h hl
    -- a form is trimmed: shown by what it is made of
    have key : ∀ l : List Dop, trimL (trimL l) = trimL l → trimL (trimL l) = trimL l := fun _ h => h
    have h2 := sumN_form x h
    have h3 := c.done.nn
    have h4 := c.sum
    unfold normB opsS
    by_cases hgap : gapL (runS x).ins (runS x).gone = []
    · rw [hgap, List.append_nil]
      have hd := c.done
      generalize (runS x).done = D at hd
      cases hd with
      | nil => rfl
      | snoc d ins' g' n p h hi' hg' hb' hn hp =>
        by_cases e : p = []
        · subst e
          have e1 : trimL (d ++ gapL ins' g' ++ [(⟨1, n, [], [], []⟩ : Dop)]) = d ++ gapL ins' g' := by
            unfold trimL
            rw [List.getLast?_append, List.getLast?_singleton, Option.some_or]
            simp only [and_self, if_true, List.dropLast_concat]
          rw [e1]
          unfold trimL
          rw [last_app]
          cases e2 : (gapL ins' g').getLast? with
          | some o => simp only; rw [if_neg (fun h => gapL_last hi' o e2 h.1)]
          | none =>
            have e3 : gapL ins' g' = [] := List.getLast?_eq_none_iff.1 e2
            obtain ⟨e4, e5⟩ := gapL_nil hg' e3
            simp only
            cases e6 : d.getLast? with
            | none => rfl
            | some q => simp only; rw [if_neg (fun h => hp e4 e5 q e6 h.2)]
        · have e1 : trimL (d ++ gapL ins' g' ++ [(⟨1, n, [], [], p⟩ : Dop)]) = d ++ gapL ins' g' ++ [⟨1, n, [], [], p⟩] := by
            unfold trimL
            rw [List.getLast?_append, List.getLast?_singleton, Option.some_or]
            simp only [e, and_false, if_false]
          rw [e1, e1]
    · have e1 : trimL ((runS x).done ++ gapL (runS x).ins (runS x).gone) = (runS x).done ++ gapL (runS x).ins (runS x).gone := by
        unfold trimL
        rw [last_app]
        cases e2 : (gapL (runS x).ins (runS x).gone).getLast? with
        | some o => simp only; rw [if_neg (fun h => gapL_last c.ins o e2 h.1)]
        | none => exact (hgap (List.getLast?_eq_none_iff.1 e2)).elim
      rw [e1, e1]
  unfold trimL at this
  rw [hq] at this
  simp only [hk, and_self, if_true] at this
  have hl2 := congrArg List.length this
  rw [List.length_dropLast] at hl2
  have : normB x ≠ [] := by intro e; rw [e] at hq; simp at hq
  have := List.length_pos_iff.2 this
  omega
end Go.Proofs.Ytmfplfaeibehiaa

namespace Go.Proofs.Ytmfplfaeibehiaa
open Go Go.K

def runesN (l : List Dop) : Nat := (l.map fun o => o.runes.length).sum
def goneN (l : List Dop) : Int := (l.map fun o => if o.kind = 3 then o.n else 0).sum
theorem runesN_app (l m : List Dop) : runesN (l ++ m) = runesN l + runesN m := by simp [runesN]
theorem goneN_app (l m : List Dop) : goneN (l ++ m) = goneN l + goneN m := by simp [goneN]
theorem runesN_one (o : Dop) : runesN [o] = o.runes.length := by simp [runesN]
theorem goneN_one (o : Dop) : goneN [o] = if o.kind = 3 then o.n else 0 := by simp [goneN]
theorem set_last (i : List Dop) (b o : Dop) : (i ++ [b]).set ((i ++ [b]).length - 1) o = i ++ [o] := by
  rw [List.set_append_right _ _ (by simp)]; simp
theorem putS_n (d : List Dop) (n : Int) (p : List Chg) : runesN (putS d n p) = runesN d ∧ goneN (putS d n p) = goneN d ∧ (putS d n p).length ≤ d.length + 1 := by
  rcases snoc_cases d with rfl | ⟨i, b, rfl⟩
  · exact ⟨by simp [putS, runesN], by simp [putS, goneN], by simp [putS]⟩
  · unfold putS
    rw [List.getLast?_append, List.getLast?_singleton, Option.some_or]
    simp only
    by_cases e : b.kind = 1 ∧ b.patch = p
    · rw [if_pos e, set_last]
      refine ⟨by simp only [runesN_app, runesN_one], ?_, by simp⟩
      simp only [goneN_app, goneN_one, e.1, show ¬ (1 : Int) = 3 by decide, if_false]
    · rw [if_neg e]
      exact ⟨by simp only [runesN_app, runesN_one, List.length_nil, Nat.add_zero], by simp only [goneN_app, goneN_one, show ¬ (1 : Int) = 3 by decide, if_false, Int.add_zero], by simp⟩
theorem addI_n (d : List Dop) (rs : List Int) (set : List Attr) : runesN (addI d rs set) = runesN d + rs.length ∧ (addI d rs set).length ≤ d.length + 1 := by
  rcases snoc_cases d with rfl | ⟨i, b, rfl⟩
  · exact ⟨by simp [addI, runesN], by simp [addI]⟩
  · unfold addI
    rw [List.getLast?_append, List.getLast?_singleton, Option.some_or]
    simp only
    by_cases e : b.set = set
    · rw [if_pos e, set_last]
      exact ⟨by simp only [runesN_app, runesN_one, List.length_append]; omega, by simp⟩
    · rw [if_neg e]
      exact ⟨by simp only [runesN_app, runesN_one], by simp⟩
theorem gapL_n {ins : List Dop} {g : Int} (h : InsC ins) (hg : 0 ≤ g) : runesN (gapL ins g) = runesN ins ∧ goneN (gapL ins g) = g ∧ (gapL ins g).length = ins.length + if 0 < g then 1 else 0 := by
  have hz : goneN ins = 0 := by
    have hk := h.kinds
    clear h
    induction ins with
    | nil => rfl
    | cons o l ih =>
      have := ih fun o ho => hk o (by simp [ho])
      have h2 := hk o (by simp)
      have e : goneN (o :: l) = (if o.kind = 3 then o.n else 0) + goneN l := by simp [goneN]
      rw [e, this, h2]; rfl
  unfold gapL
  by_cases h0 : 0 < g
  · rw [if_pos h0, if_pos h0]
    refine ⟨by simp only [runesN_app, runesN_one, List.length_nil, Nat.add_zero], ?_, by simp⟩
    simp only [goneN_app, goneN_one, if_true, hz]; omega
  · rw [if_neg h0, if_neg h0]
    exact ⟨rfl, by omega, by simp⟩
theorem DoneC.bare {d : List Dop} (h : DoneC d) : ∀ o ∈ d, o.kind = 1 → o.runes = [] := by
  induction h with
  | nil => intro o ho; simp at ho
  | snoc d ins gone n p h hi hg hb hn hp ih =>
    intro o ho hk
    rcases List.mem_append.1 ho with ho | ho
    · rcases List.mem_append.1 ho with ho | ho
      · exact ih o ho hk
      · unfold gapL at ho
        split at ho
        · rcases List.mem_append.1 ho with ho | ho
          · have := hi.kinds o ho; omega
          · simp at ho; subst ho; rfl
        · have := hi.kinds o ho; omega
    · simp at ho; subst ho; rfl
theorem short_run (x : List Dop) (h : ∀ o ∈ x, Form1 o) (hl : x.length ≤ 8589934592) :
    runesN (runS x).done + runesN (runS x).ins = runesN x ∧ goneN (runS x).done + (runS x).gone = goneN x ∧ (runS x).done.length + (runS x).ins.length + (if 0 < (runS x).gone then 1 else 0) ≤ x.length := by
  induction x using rev_ind with
  | h0 => exact ⟨rfl, rfl, by simp [runS, MkS.z]⟩
  | h1 x o ih =>
    have hx : ∀ o ∈ x, Form1 o := fun o ho => h o (by simp [ho])
    have ho := h o (by simp)
    simp only [List.length_append, List.length_cons, List.length_nil] at hl
    have hI := ih (fun o ho => hx o ho) (by omega)
    have c := canon_run x (fun o ho => hx o ho) (by omega)
    have h2 := sumN_form x fun o ho => hx o ho
    rw [runesN_app, goneN_app, runesN_one, goneN_one, List.length_append, List.length_singleton]
    unfold runS at hI c ⊢
    simp only [List.foldl_append, List.foldl_cons, List.foldl_nil]
    generalize x.foldl stepS MkS.z = s at hI c ⊢
    obtain ⟨done, ins, gone⟩ := s
    obtain ⟨c1, c2, c3, c4⟩ := c
    obtain ⟨i1, i2, i3⟩ := hI
    obtain ⟨k, n, rs, set, p⟩ := o
    simp only at c1 c2 c3 c4 i1 i2 i3 ⊢
    have hdn := c1.nn
    rcases ho with ⟨e1, e2, e3, e4, e5⟩ | ⟨e1, e2, e3, e4, e5, e6⟩ | ⟨e1, e2, e3, e4⟩
    · simp only at e1 e2 e3 e4 e5
      subst e1; subst e2; subst e3
      simp only [stepS, if_true, retS, if_neg (show ¬ n < 1 by omega)]
      obtain ⟨p1, p2, p3⟩ := putS_n (done ++ gapL ins gone) n p
      obtain ⟨g1, g2, g3⟩ := gapL_n c2 c3
      rw [p1, p2, runesN_app, goneN_app, g1, g2]
      rw [List.length_append, g3] at p3
      refine ⟨by simp [runesN] at i1 ⊢; omega, ?_, ?_⟩
      · simp only [show ¬ (1 : Int) = 3 by decide, if_false]; omega
      · simp only [List.length_nil, show ¬ (0 : Int) < 0 by decide, if_false]; omega
    · simp only at e1 e2 e3 e4 e5 e6
      subst e1; subst e2; subst e3; subst e4
      have : maxI n 0 = n := by unfold maxI; rw [if_neg (by omega)]
      simp only [stepS, show ¬ (3 : Int) = 1 by decide, show ¬ (3 : Int) = 2 by decide, if_false, delS, this, if_true]
      rw [wrap64 (by omega) (by omega)]
      refine ⟨by simp; omega, by omega, ?_⟩
      split <;> split at i3 <;> omega
    · simp only at e1 e2 e3 e4
      subst e1; subst e2; subst e3
      simp only [stepS, show ¬ (2 : Int) = 1 by decide, show ¬ (2 : Int) = 3 by decide, if_true, if_false, insS, if_neg e4]
      obtain ⟨a1, a2⟩ := addI_n ins rs set
      rw [a1]
      refine ⟨by omega, by omega, by omega⟩
theorem norm_short (x : List Dop) (h : ∀ o ∈ x, Form1 o) (hl : x.length ≤ 8589934592) : runesN (normB x) = runesN x ∧ goneN (normB x) = goneN x ∧ (normB x).length ≤ x.length := by
  obtain ⟨h1, h2, h3⟩ := short_run x h hl
  have c := canon_run x h hl
  obtain ⟨g1, g2, g3⟩ := gapL_n c.ins c.gone
  have e1 : runesN ((runS x).done ++ gapL (runS x).ins (runS x).gone) = runesN x := by rw [runesN_app, g1]; exact h1
  have e2 : goneN ((runS x).done ++ gapL (runS x).ins (runS x).gone) = goneN x := by rw [goneN_app, g2]; exact h2
  have e3 : ((runS x).done ++ gapL (runS x).ins (runS x).gone).length ≤ x.length := by rw [List.length_append, g3]; omega
  have e4 : ∀ o ∈ (runS x).done ++ gapL (runS x).ins (runS x).gone, o.kind = 1 → o.runes = [] := by
    intro o ho hk
    rcases List.mem_append.1 ho with ho | ho
    · exact c.done.bare o ho hk
    · unfold gapL at ho
      split at ho
      · rcases List.mem_append.1 ho with ho | ho
        · have := c.ins.kinds o ho; omega
        · simp at ho; subst ho; rfl
      · have := c.ins.kinds o ho; omega
  unfold normB opsS
  generalize (runS x).done ++ gapL (runS x).ins (runS x).gone = l at e1 e2 e3 e4
  unfold trimL
  rcases snoc_cases l with rfl | ⟨i, b, rfl⟩
  · exact ⟨e1, e2, e3⟩
  · rw [List.getLast?_append, List.getLast?_singleton, Option.some_or]
    simp only
    by_cases e : b.kind = 1 ∧ b.patch = []
    · rw [if_pos e, List.dropLast_concat]
      have := e4 b (by simp) e.1
      rw [runesN_app, runesN_one, this] at e1
      rw [goneN_app, goneN_one, if_neg (by rw [e.1]; decide)] at e2
      simp at e1 e2 e3
      exact ⟨e1, e2, by omega⟩
    · rw [if_neg e]; exact ⟨e1, e2, e3⟩

/-! ### another order at each gap -/
def delB (g : Int) : Dop := ⟨3, g, [], [], []⟩
def flushM (ahead : Bool) (y gap : List Dop) (gone : Int) : List Dop :=
  (if 0 < gone ∧ ahead = true then y ++ [delB gone] else y) ++ gap ++ (if 0 < gone ∧ ahead = false then [delB gone] else [])
structure ManyS where
  y : List Dop
  gap : List Dop
  gone : Int
def manyF (ahead : Bool) (a : ManyS) (o : Dop) : ManyS :=
  if o.kind = 1 then ⟨flushM ahead a.y a.gap a.gone ++ [o], [], 0⟩ else if o.kind = 2 then ⟨a.y, a.gap ++ [o], a.gone⟩ else ⟨a.y, a.gap, IntKind.i64.wrap (a.gone + o.n)⟩
def manyR (ahead : Bool) (x : List Dop) : ManyS := x.foldl (manyF ahead) ⟨[], [], 0⟩
def manyB (ahead : Bool) (x : List Dop) : List Dop := flushM ahead (manyR ahead x).y (manyR ahead x).gap (manyR ahead x).gone
theorem flush_run {ahead : Bool} {y gap ins d : List Dop} {g : Int} (h1 : runS y = ⟨d, [], 0⟩) (h2 : ∀ g, gap.foldl stepS ⟨d, [], g⟩ = ⟨d, ins, g⟩) (h0 : 0 ≤ g) (hb : g ≤ 4611686018427387904) : runS (flushM ahead y gap g) = ⟨d, ins, g⟩ := by
  have hd : ∀ i : List Dop, stepS ⟨d, i, 0⟩ (delB g) = ⟨d, i, g⟩ := by
    intro i
    have : maxI g 0 = g := by unfold maxI; rw [if_neg (by omega)]
    simp only [delB, stepS, show ¬ (3 : Int) = 1 by decide, show ¬ (3 : Int) = 2 by decide, if_false, delS, this]
    rw [wrap64 (by omega) (by omega)]; congr 1; omega
  unfold runS at h1 ⊢
  unfold flushM
  by_cases hg : 0 < g
  · cases ahead with
    | true => simp only [hg, true_and, if_true, Bool.true_eq_false, if_false, List.append_nil, List.foldl_append, List.foldl_cons, List.foldl_nil, h1, hd, h2]
    | false => simp only [hg, true_and, if_true, Bool.false_eq_true, if_false, List.foldl_append, List.foldl_cons, List.foldl_nil, h1, hd, h2]
  · have : g = 0 := by omega
    subst this
    simp only [hg, false_and, if_false, List.append_nil, List.foldl_append, h1, h2]
theorem many_run (ahead : Bool) (x : List Dop) (h : ∀ o ∈ x, Form1 o) (hl : x.length ≤ 8589934592) :
    runS (manyR ahead x).y = ⟨(runS x).done, [], 0⟩ ∧ (manyR ahead x).gone = (runS x).gone ∧ ∀ g, (manyR ahead x).gap.foldl stepS ⟨(runS x).done, [], g⟩ = ⟨(runS x).done, (runS x).ins, g⟩ := by
  induction x using rev_ind with
  | h0 => exact ⟨rfl, rfl, fun g => rfl⟩
  | h1 x o ih =>
    have hx : ∀ o ∈ x, Form1 o := fun o ho => h o (by simp [ho])
    have ho := h o (by simp)
    simp only [List.length_append, List.length_cons, List.length_nil] at hl
    have hI := ih (fun o ho => hx o ho) (by omega)
    have c := canon_run x (fun o ho => hx o ho) (by omega)
    have h2 := sumN_form x fun o ho => hx o ho
    have e0 : runS (x ++ [o]) = stepS (runS x) o := by simp [runS]
    have e1 : manyR ahead (x ++ [o]) = manyF ahead (manyR ahead x) o := by simp [manyR]
    rw [e0, e1]
    obtain ⟨i1, i2, i3⟩ := hI
    have hfl : runS (flushM ahead (manyR ahead x).y (manyR ahead x).gap (manyR ahead x).gone) = runS x := by
      have := flush_run (ahead := ahead) i1 i3 c.gone (by have := c.sum; have := c.done.nn; omega)
      rw [i2]; exact this
    obtain ⟨k, n, rs, set, p⟩ := o
    rcases ho with ⟨q1, q2, q3, q4, q5⟩ | ⟨q1, q2, q3, q4, q5, q6⟩ | ⟨q1, q2, q3, q4⟩
    · simp only at q1 q2 q3 q4 q5
      subst q1
      simp only [manyF, if_true]
      have e2 : ∀ (l : List Dop) (o : Dop), runS (l ++ [o]) = stepS (runS l) o := fun l o => by simp [runS]
      rw [e2, hfl]
      simp only [stepS, if_true, retS, if_neg (show ¬ n < 1 by omega)]
      exact ⟨by trivial, by trivial, fun g => rfl⟩
    · simp only at q1 q2 q3 q4 q5 q6
      subst q1
      have : maxI n 0 = n := by unfold maxI; rw [if_neg (by omega)]
      simp only [manyF, stepS, show ¬ (3 : Int) = 1 by decide, show ¬ (3 : Int) = 2 by decide, if_false, delS, this]
      exact ⟨i1, by rw [i2], i3⟩
    · simp only at q1 q2 q3 q4
      subst q1
      simp only [manyF, stepS, show ¬ (2 : Int) = 1 by decide, if_true, if_false, insS, if_neg q4]
      refine ⟨i1, i2, fun g => ?_⟩
      rw [List.foldl_append, i3 g]
      simp only [List.foldl_cons, List.foldl_nil, stepS, show ¬ (2 : Int) = 1 by decide, if_true, if_false, insS, if_neg q4]
theorem norm_many (ahead : Bool) (x : List Dop) (h : ∀ o ∈ x, Form1 o) (hl : x.length ≤ 8589934592) : normB (manyB ahead x) = normB x := by
  obtain ⟨i1, i2, i3⟩ := many_run ahead x h hl
  have c := canon_run x h hl
  have h2 := sumN_form x h
  have := flush_run (ahead := ahead) i1 i3 c.gone (by have := c.sum; have := c.done.nn; omega)
  unfold normB manyB
  rw [i2, this]
end Go.Proofs.Ytmfplfaeibehiaa

namespace Go.Proofs.Ytmfplfaeibehiaa
open Go Go.K

def OpsBad (keys : List DKey) (x : List Dop) : Prop := (∃ o ∈ x, ¬ FormO o ∨ maySet keys o.set = 3 ∨ mayPat keys o.patch = 3) ∨ 536870912 < sumW takesF x ∨ 536870912 < sumW makesF x
def OpsNoKey (keys : List DKey) (x : List Dop) : Prop := ∃ o ∈ x, maySet keys o.set ≠ 0 ∨ mayPat keys o.patch ≠ 0
open Classical in
noncomputable def mayOps (keys : List DKey) (x : List Dop) : Int := if OpsBad keys x then 3 else if OpsNoKey keys x then 4 else 0
open Classical in
theorem mayops_ok {S S' D : Nat → Prop} {kv v : Value} {keys : List DKey} {x : List Dop} {w : World} (hk : RKeys S w kv keys) (h : RDops S' D w v x) (hb : mDops x ≤ 1099511627776) :
    callK Try.prog 57 [kv, v] (fun v' w' => v' = .int .i64 (mayOps keys x) ∧ Grow w w') w := by
  apply S57_ok
  unfold S57
  obtain ⟨a, c, rfl, hm⟩ := h.shape
  simp only [maxLen] at hm
  have hss : ∀ o ∈ x, (∀ a ∈ o.set, a.val.s.size * 4 ≤ 140737488355328) ∧ (∀ a ∈ o.patch, a.val.s.size * 4 ≤ 140737488355328) := by
    intro o ho
    have := mDops_mem ho
    simp only [mDop] at this
    exact ⟨fun a ha => by have := mSet_mem ha; omega, fun a ha => by have := mPat_mem ha; omega⟩
  have bad : ∀ w', Grow w w' → OpsBad keys x → Value.int .i64 3 = .int .i64 (mayOps keys x) ∧ Grow w w' := fun w' g hb => ⟨by rw [mayOps, if_pos hb], g⟩
  refine LoopK_i (fun vs w1 => ∃ k : Nat, k ≤ x.length ∧ vs = [.int .i64 k] ∧ Grow w w1 ∧ ∀ o ∈ x.take k, FormO o ∧ maySet keys o.set ≠ 3 ∧ mayPat keys o.patch ≠ 3) (fun vs _ => x.length - iOf vs 0) ⟨0, Nat.zero_le _, rfl, Mod.refl _ _, by simp⟩ ?_
  rintro vs w1 ⟨k, hkl, rfl, g1, hall⟩ _
  rw [lenK_i, nth_z, List.headD_cons, ltK_i]
  refine condK_p (fun hlt => ?_) fun hge => ?_
  · have hlt' : k < x.length := by omega
    refine JoinK_i (fun vs w2 => Grow w w2 ∧ FormO x[k] ∧ maySet keys x[k].set ≠ 3 ∧ mayPat keys x[k].patch ≠ 3) ?_ ?_
    · rintro vs w2 ⟨g2, ho⟩ _
      rw [addK_i, loop_step (by omega)]
      refine ⟨⟨k + 1, hlt', rfl, g2, fun o hoo => ?_⟩, by rw [iOf0, iOf0]; omega⟩
      rw [List.take_add_one, List.getElem?_eq_getElem hlt'] at hoo
      rcases List.mem_append.1 hoo with hoo | hoo
      · exact hall o hoo
      · simp at hoo; subst hoo; exact ho
    · obtain ⟨p, r, rfl, _, hr, hc, ho⟩ := (RDops.grow h g1).get hlt'
      have hmem : x[k] ∈ x := by simp
      refine ixK_n hlt' (ldnK_i hr (fun j u hu => by rw [Addr.add_add]; exact hc j u hu) ?_)
      refine callK_mono (form_ok ho) ?_
      rintro v2 w2 ⟨rfl, g2⟩
      have g02 := g1.trans g2
      rw [notK_i]
      refine condK_neg (fun hf => ?_) fun hf => bad _ g02 (.inl ⟨_, hmem, .inl hf⟩)
      obtain ⟨rv, sv, pv, rfl, h1, h2, h3⟩ := ho.mod (D' := D) g2 (fun _ _ _ h => h) fun _ _ h => h
      refine ixK_n hlt' ?_
      rw [faK_i, Addr.add_add]
      refine ld1K_i (g2.cell (hc 3 _ rfl) fun h => h) ?_
      refine callK_mono (mayset_ok (hk.grow g02 (by decide) fun _ _ h => h) h2 (hss _ hmem).1) ?_
      rintro v3 w3 ⟨rfl, g3⟩
      rw [eqK_i]
      refine condK_p (fun hs => bad _ (g02.trans g3) (.inl ⟨_, hmem, .inr (.inl hs)⟩)) fun hs => ?_
      refine ixK_n hlt' ?_
      rw [faK_i, Addr.add_add]
      refine ld1K_i ((g2.trans g3).cell (hc 4 _ rfl) fun h => h) ?_
      refine callK_mono (maypat_ok (hk.grow (g02.trans g3) (by decide) fun _ _ h => h) (h3.grow g3 (by decide) fun _ _ h => h) (hss _ hmem).2) ?_
      rintro v4 w4 ⟨rfl, g4⟩
      rw [eqK_i]
      exact condK_p (fun hs => bad _ ((g02.trans g3).trans g4) (.inl ⟨_, hmem, .inr (.inr hs)⟩)) fun hp => ⟨(g02.trans g3).trans g4, hf, hs, hp⟩
  · have : k = x.length := by omega
    subst this
    rw [List.take_length] at hall
    refine JoinK_i (fun vs w2 => Grow w w2 ∧ ¬ OpsBad keys x) ?_ ?_
    · rintro vs w2 ⟨g2, ok⟩ _
      refine LoopK_i (fun vs w3 => ∃ k : Nat, k ≤ x.length ∧ vs = [.int .i64 k] ∧ Grow w w3 ∧ ∀ o ∈ x.take k, maySet keys o.set = 0 ∧ mayPat keys o.patch = 0) (fun vs _ => x.length - iOf vs 0) ⟨0, Nat.zero_le _, rfl, g2, by simp⟩ ?_
      rintro vs w3 ⟨k, hkl, rfl, g3, hz⟩ _
      rw [lenK_i, nth_z, List.headD_cons, ltK_i]
      refine condK_p (fun hlt => ?_) fun hge => ?_
      · have hlt' : k < x.length := by omega
        have hmem : x[k] ∈ x := by simp
        have four : ∀ w', Grow w w' → (maySet keys x[k].set ≠ 0 ∨ mayPat keys x[k].patch ≠ 0) → Value.int .i64 4 = .int .i64 (mayOps keys x) ∧ Grow w w' := fun w' g hb => ⟨by rw [mayOps, if_neg ok, if_pos ⟨_, hmem, hb⟩], g⟩
        obtain ⟨p, r, rfl, _, hr, hc, rv, sv, pv, rfl, h1, h2, h3⟩ := (RDops.grow h g3).get hlt'
        refine ixK_n hlt' ?_
        rw [faK_i, Addr.add_add]
        refine ld1K_i (hc 3 _ rfl) ?_
        refine callK_mono (mayset_ok (hk.grow g3 (by decide) fun _ _ h => h) h2 (hss _ hmem).1) ?_
        rintro v4 w4 ⟨rfl, g4⟩
        rw [neK_i]
        refine condK_neg (fun hs => ?_) fun hs => four _ (g3.trans g4) (.inl hs)
        refine ixK_n hlt' ?_
        rw [faK_i, Addr.add_add]
        refine ld1K_i (g4.cell (hc 4 _ rfl) fun h => h) ?_
        refine callK_mono (maypat_ok (hk.grow (g3.trans g4) (by decide) fun _ _ h => h) (h3.grow g4 (by decide) fun _ _ h => h) (hss _ hmem).2) ?_
        rintro v5 w5 ⟨rfl, g5⟩
        rw [neK_i]
        refine condK_neg (fun hp => ?_) fun hp => four _ ((g3.trans g4).trans g5) (.inr hp)
        rw [addK_i, loop_step (by omega)]
        refine ⟨⟨k + 1, hlt', rfl, (g3.trans g4).trans g5, fun o hoo => ?_⟩, by rw [iOf0, iOf0]; omega⟩
        rw [List.take_add_one, List.getElem?_eq_getElem hlt'] at hoo
        rcases List.mem_append.1 hoo with hoo | hoo
        · exact hz o hoo
        · simp at hoo; subst hoo; exact ⟨hs, hp⟩
      · have : k = x.length := by omega
        subst this
        rw [List.take_length] at hz
        refine ⟨?_, g3⟩
        rw [mayOps, if_neg ok, if_neg]
        rintro ⟨o, ho, h | h⟩
        · exact h (hz o ho).1
        · exact h (hz o ho).2
    · refine callK_mono (takes_ok (RDops.grow h g1)) ?_
      rintro v2 w2 ⟨rfl, g2⟩
      rw [gtK_i]
      refine condK_p (fun ht => bad _ (g1.trans g2) (.inr (.inl ht))) fun ht => ?_
      refine callK_mono (makes_ok (RDops.grow h (g1.trans g2))) ?_
      rintro v3 w3 ⟨rfl, g3⟩
      rw [gtK_i]
      refine condK_p (fun hm => bad _ ((g1.trans g2).trans g3) (.inr (.inr hm))) fun hm => ⟨(g1.trans g2).trans g3, ?_⟩
      rintro (⟨o, ho, h⟩ | h | h)
      · obtain ⟨q1, q2, q3⟩ := hall o ho
        rcases h with h | h | h
        · exact h q1
        · exact q2 h
        · exact q3 h
      · exact ht h
      · exact hm h
def TameX (keys : List DKey) (x : List Dop) : Prop := keys.length ≤ 64 ∧ mDops x ≤ 20000 ∧ MayKeys keys ∧ mayOps keys x = 0
open Classical in
theorem tamex_ok {S S' D : Nat → Prop} {kv v : Value} {keys : List DKey} {x : List Dop} {w : World} (hk : RKeys S w kv keys) (h : RDops S' D w v x) (hb : mDops x ≤ 1099511627776) :
    callK Try.prog 30 [kv, v] (fun v' w' => v' = .bool (decide (TameX keys x)) ∧ Grow w w') w := by
  apply S30_ok
  unfold S30
  have no : ∀ w', Grow w w' → ¬ TameX keys x → Value.bool false = .bool (decide (TameX keys x)) ∧ Grow w w' := fun w' g hn => ⟨by rw [decide_eq_false hn], g⟩
  refine JoinK_i (fun vs w1 => Grow w w1 ∧ keys.length ≤ 64 ∧ mDops x ≤ 20000) ?_ ?_
  · rintro vs w1 ⟨g1, h64, hz⟩ _
    refine callK_mono (rmay_ok (hk.grow g1 (by decide) fun _ _ h => h)) ?_
    rintro v2 w2 ⟨rfl, g2⟩
    refine condK_p (fun hmk => ?_) fun hmk => no _ (g1.trans g2) fun h => hmk h.2.2.1
    refine callK_mono (mayops_ok (hk.grow (g1.trans g2) (by decide) fun _ _ h => h) (RDops.grow h (g1.trans g2)) hb) ?_
    rintro v3 w3 ⟨rfl, g3⟩
    rw [eqK_i]
    refine ⟨?_, (g1.trans g2).trans g3⟩
    congr 1
    rw [decide_eq_decide]
    exact ⟨fun h => ⟨h64, hz, hmk, h⟩, fun h => h.2.2.2⟩
  · obtain ⟨pa, pc, rfl, _⟩ := hk.shape
    rw [lenK_i, gtK_i]
    refine condK_p (fun h6 => no _ (Mod.refl _ _) fun h => by have := h.1; omega) fun h6 => ?_
    refine callK_mono (size_ok h hb) ?_
    rintro v2 w2 ⟨rfl, g2⟩
    rw [gtK_i]
    exact condK_p (fun h7 => no _ g2 fun h => by have := h.2.1; omega) fun h7 => ⟨g2, by omega, by omega⟩
theorem TameX.forms {keys : List DKey} {x : List Dop} (h : TameX keys x) : ∀ o ∈ x, FormO o := by
  intro o ho
  have := h.2.2.2
  unfold mayOps at this
  split at this
  · cases this
  · rename_i hb
    cases Classical.em (FormO o) with
    | inl h => exact h
    | inr h => exact (hb (.inl ⟨o, ho, .inl h⟩)).elim
theorem FormO.f1 {o : Dop} (h : FormO o) : Form1 o := by
  rcases h.form1 with h | h | h
  · exact .inl h
  · exact .inr (.inl h)
  · exact .inr (.inr h)
theorem TameX.form1 {keys : List DKey} {x : List Dop} (h : TameX keys x) : ∀ o ∈ x, Form1 o := fun o ho => (h.forms o ho).f1

/-! ### ops.Same -/
theorem same1_ok {D D' : Nat → Prop} {r r' : List Value} {a b : Dop} {w : World} (ha : RDop D w r a) (hb : RDop D' w r' b) :
    callK Try.prog 69 [.agg r.toArray, .agg r'.toArray] (fun v w' => v = .bool (decide (a = b)) ∧ Grow w w') w := by
  apply S69_ok
  unfold S69
  have no : ∀ w', Grow w w' → a ≠ b → Value.bool false = .bool (decide (a = b)) ∧ Grow w w' := fun w' g hn => ⟨by rw [decide_eq_false hn], g⟩
  obtain ⟨rv, sv, pv, rfl, h1, h2, h3⟩ := ha
  obtain ⟨rv', sv', pv', rfl, h1', h2', h3'⟩ := hb
  refine boxn_i fun b1 w1 _ _ g1 hc1 _ => boxn_i fun b2 w2 _ _ g2 hc2 _ => ?_
  have g02 := g1.trans g2
  have A : ∀ {W}, Grow w2 W → ∀ j u, [Value.int .u8 a.kind, .int .i64 a.n, rv, sv, pv][j]? = some u → W.cell? ((⟨b1, 0, none⟩ : Addr).add j) = some u := fun hW j u hu => (g2.trans hW).cell (hc1 j u hu) fun h => h
  have B : ∀ {W}, Grow w2 W → ∀ j u, [Value.int .u8 b.kind, .int .i64 b.n, rv', sv', pv'][j]? = some u → W.cell? ((⟨b2, 0, none⟩ : Addr).add j) = some u := fun hW j u hu => hW.cell (hc2 j u hu) fun h => h
  simp only [faK_i]
  refine ld1K_i (A (Mod.refl _ _) 0 _ rfl) (ld1K_i (B (Mod.refl _ _) 0 _ rfl) ?_)
  rw [eqK_i]
  refine condK_p (fun e0 => ?_) fun e0 => no _ g02 fun e => e0 (by rw [e])
  refine ld1K_i (A (Mod.refl _ _) 1 _ rfl) (ld1K_i (B (Mod.refl _ _) 1 _ rfl) ?_)
  rw [eqK_i]
  refine condK_p (fun e1 => ?_) fun e1 => no _ g02 fun e => e1 (by rw [e])
  refine ld1K_i (A (Mod.refl _ _) 2 _ rfl) (ld1K_i (B (Mod.refl _ _) 2 _ rfl) ?_)
  refine callK_mono (eq_run (h1.grow g02 (by decide) fun _ _ h => h) (h1'.grow g02 (by decide) fun _ _ h => h)) ?_
  rintro v3 w3 ⟨rfl, g3⟩
  refine condK_p (fun e2 => ?_) fun e2 => no _ (g02.trans g3) fun e => e2 (by rw [e])
  refine ld1K_i (A g3 3 _ rfl) (ld1K_i (B g3 3 _ rfl) ?_)
  refine callK_mono (same_set (h2.grow (g02.trans g3) (by decide) fun _ _ h => h) (h2'.grow (g02.trans g3) (by decide) fun _ _ h => h)) ?_
  rintro v4 w4 ⟨rfl, g4⟩
  have g04 := (g02.trans g3).trans g4
  refine condK_p (fun e3 => ?_) fun e3 => no _ g04 fun e => e3 (by rw [e])
  refine ld1K_i (A (g3.trans g4) 4 _ rfl) (ld1K_i (B (g3.trans g4) 4 _ rfl) ?_)
  refine callK_mono (same_pat (h3.grow g04 (by decide) fun _ _ h => h) (h3'.grow g04 (by decide) fun _ _ h => h)) ?_
  rintro v5 w5 ⟨rfl, g5⟩
  refine ⟨?_, g04.trans g5⟩
  congr 1
  rw [decide_eq_decide]
  constructor
  · intro e4; cases a; cases b; simp only at e0 e1 e2 e3 e4; subst e0; subst e1; subst e2; subst e3; subst e4; rfl
  · intro e; rw [e]
theorem same_dops {S S' D D' : Nat → Prop} {a b : Value} {l m : List Dop} {w : World} (ha : RDops S D w a l) (hb : RDops S' D' w b m) :
    callK Try.prog 44 [a, b] (fun v w' => v = .bool (decide (l = m)) ∧ Grow w w') w := by
  apply S44_ok
  unfold S44
  apply S68_ok
  unfold S68
  have ha0 := ha
  have hb0 := hb
  obtain ⟨pa, ca, rfl, hla⟩ := ha.shape
  obtain ⟨pb, cb, rfl, hlb⟩ := hb.shape
  simp only [maxLen] at hla hlb
  have no : ∀ w', Grow w w' → l ≠ m → Value.bool false = .bool (decide (l = m)) ∧ Grow w w' := fun w' g hn => ⟨by rw [decide_eq_false hn], g⟩
  rw [lenK_i, lenK_i, neK_i]
  refine condK_neg (fun hlen => ?_) fun hlen => no _ (Mod.refl _ _) fun e => hlen (by rw [e])
  rw [lenK_i]
  refine LoopK_i (fun vs w1 => ∃ k : Nat, k ≤ l.length ∧ vs = [.int .i64 k] ∧ Grow w w1 ∧ l.take k = m.take k) (fun vs _ => l.length - iOf vs 0) ⟨0, Nat.zero_le _, rfl, Mod.refl _ _, rfl⟩ ?_
  rintro vs w1 ⟨k, hk, rfl, hg, ht⟩ _
  rw [nth_z, List.headD_cons, ltK_i]
  refine condK_p (fun hlt => ?_) fun hge => ?_
  · have hlt' : k < l.length := by omega
    have hlm' : k < m.length := by omega
    obtain ⟨p, r, rfl, _, hr, hc, ho⟩ := (RDops.grow ha hg).get hlt'
    obtain ⟨p', r', rfl, _, hr', hc', ho'⟩ := (RDops.grow hb hg).get hlm'
    refine ixK_n hlt' (ldnK_i hr (fun j u hu => by rw [Addr.add_add]; exact hc j u hu) ?_)
    refine newst_n (vs := r) hr rfl ho.one fun b1 w2 hb1 hz1 g2 hc2 _ => ?_
    refine ixK_n hlm' (ldnK_i hr' (fun j u hu => by rw [Addr.add_add]; exact g2.cell (hc' j u hu) fun h => h) ?_)
    refine newst_n (vs := r') hr' rfl ho'.one fun b2 w3 hb2 hz2 g3 hc3 _ => ?_
    refine ldnK_i hr (fun j u hu => g3.cell (hc2 j u hu) fun h => h) ?_
    refine ldnK_i hr' hc3 ?_
    have g03 : Grow w1 w3 := g2.trans g3
    refine callyK_f (by kernel_rfl) ?_
    refine callK_mono (same1_ok (ho.mod (D' := D) g03 (fun _ _ _ h => h) fun _ _ h => h) (ho'.mod (D' := D') g03 (fun _ _ _ h => h) fun _ _ h => h)) ?_
    rintro v4 w4 ⟨rfl, g4⟩
    have g14 := g03.trans g4
    rw [notK_i]
    refine condK_neg (fun he => ?_) fun he => no _ (hg.trans g14) fun e => he (by subst e; rfl)
    rw [addK_i, loop_step (by omega)]
    refine ⟨⟨k + 1, hlt', rfl, hg.trans g14, ?_⟩, by rw [iOf0, iOf0]; omega⟩
    rw [List.take_add_one, List.take_add_one, ht, List.getElem?_eq_getElem hlt', List.getElem?_eq_getElem hlm', he]
  · have : k = l.length := by omega
    subst this
    rw [List.take_length, show l.length = m.length by omega, List.take_length] at ht
    exact ⟨by rw [decide_eq_true ht], hg⟩
end Go.Proofs.Ytmfplfaeibehiaa

namespace Go.K
open Go
theorem OwnR.conv {α : Type} {B e k : Nat} {R0 R : World → List Value → α → Prop} {w : World} {g n c : Nat} {l : List α} (h : OwnR B e k R0 w (.slice (some ⟨g, 0, none⟩) n c) l)
    (hR : ∀ i (hi : i < l.length) (r : List Value), r.length = k → (∀ u ∈ r, u.oneCell' = true) → (∀ q u, r[q]? = some u → w.cell? ⟨g, i * k + q, none⟩ = some u) → R w r l[i]) : OwnR B e k R w (.slice (some ⟨g, 0, none⟩) n c) l := by
  obtain ⟨rows, h1, h2, h3, h4⟩ := h
  have hrl : ∀ r ∈ rows, r.length = k := fun r hr => (h3 r hr).1
  have hn : n = l.length := by
    rcases h1.2 with ⟨h', _⟩ | ⟨g', cap', cur, h', _⟩
    · simp at h'
    · simp only [Value.slice.injEq] at h'; exact h'.2.1
  subst hn
  refine ⟨rows, h1, h2, h3, fun i r x hr hx => ?_⟩
  have hi : i < l.length := (List.getElem?_eq_some_iff.1 hx).1
  have hx' : x = l[i] := by rw [List.getElem?_eq_getElem hi] at hx; exact (Option.some.inj hx).symm
  subst hx'
  have hm := List.mem_of_getElem? hr
  refine hR i hi r (hrl r hm) (h3 r hm).2 fun q u hu => ?_
  have hq : q < k := by rw [← hrl r hm]; exact (List.getElem?_eq_some_iff.1 hu).1
  have hlt : i * k + q < l.length * k := by
    have : (i + 1) * k ≤ l.length * k := Nat.mul_le_mul_right _ hi
    rw [Nat.add_mul] at this; omega
  have := h1.cellAt _ hlt
  rw [flat_get rows i q r hrl hr hq] at this
  rw [← hu]; exact this
theorem OwnR.any {α : Type} {B e k : Nat} {R0 : World → List Value → α → Prop} {w : World} {v : Value} {l : List α} (h : OwnR B e k R0 w v l) : OwnR B e k (fun _ _ _ => True) w v l := by
  obtain ⟨rows, h1, h2, h3, _⟩ := h
  exact ⟨rows, h1, h2, h3, fun _ _ _ _ _ => trivial⟩
theorem OwnR.setAny {α : Type} {B e k : Nat} {w : World} {g n c : Nat} {l : List α} (h : OwnR B e k (fun _ _ _ => True) w (.slice (some ⟨g, 0, none⟩) n c) l) {i j : Nat} (hi : i < l.length) (hj : j < k) {u : Value} (hu : u.oneCell' = true) :
    OwnR B e k (fun _ _ _ => True) (w.setCell ⟨g, i * k + j, none⟩ u) (.slice (some ⟨g, 0, none⟩) n c) l := by
  have hs := (OwnR.store (R' := fun _ _ _ => True) (x' := l[i]) h hi hj hu (fun _ _ _ _ => trivial) fun _ _ => trivial).2.2.1
  have e : l.set i l[i] = l := List.set_getElem_self hi
  rw [e] at hs
  have hadd : (⟨g, 0, none⟩ : Addr).add (i * k + j) = ⟨g, i * k + j, none⟩ := by unfold Addr.add; split <;> simp_all
  rw [hadd] at hs
  exact hs
theorem setA (W : World) (g o : Nat) (u : Value) : Mod (fun b => b = g) W (W.setCell ⟨g, o, none⟩ u) := Mod.setCell _ _ _ rfl
theorem OwnR.cellsOf {α : Type} {B e k : Nat} {R : World → List Value → α → Prop} {w : World} {g n c : Nat} {l : List α} (h : OwnR B e k R w (.slice (some ⟨g, 0, none⟩) n c) l) {i : Nat} (hi : i < l.length) :
    ∃ r, r.length = k ∧ (∀ q u, r[q]? = some u → w.cell? ⟨g, i * k + q, none⟩ = some u) ∧ R w r l[i] ∧ ∀ q, q < k → Live w ⟨g, i * k + q, none⟩ := by
  obtain ⟨p, r, e1, _, hr, hc, hR⟩ := (OwnR.sl h).get hi
  cases e1
  have hadd : ∀ q, (⟨g, 0, none⟩ : Addr).add (i * k + q) = ⟨g, i * k + q, none⟩ := fun q => by unfold Addr.add; split <;> simp_all
  refine ⟨r, hr, fun q u hu => by rw [← hadd]; exact hc q u hu, hR, fun q hq => ?_⟩
  obtain ⟨g', e2, _, hl⟩ := OwnR.live h hi hq
  cases e2
  rw [hadd] at hl; exact hl
end Go.K
namespace Go.Proofs.Ytmfplfaeibehiaa
open Go Go.K

/-- the cells of an op at a place of a row -/
def OpAt (W : World) (g j : Nat) (o : Dop) (rv sv pv : Value) : Prop := ∀ q u, [Value.int .u8 o.kind, .int .i64 o.n, rv, sv, pv][q]? = some u → W.cell? ⟨g, j * 5 + q, none⟩ = some u
theorem OpAt.cong {W W' : World} {g j : Nat} {o : Dop} {rv sv pv : Value} (h : OpAt W g j o rv sv pv) (hW : ∀ q, q < 5 → W'.cell? ⟨g, j * 5 + q, none⟩ = W.cell? ⟨g, j * 5 + q, none⟩) : OpAt W' g j o rv sv pv := by
  intro q u hu
  have := (List.getElem?_eq_some_iff.1 hu).1
  simp only [List.length_cons, List.length_nil] at this
  rw [hW q (by omega)]; exact h q u hu
theorem copy_dops {S D : Nat → Prop} {v : Value} {x : List Dop} {w : World} (h : RDops S D w v x) (hb : mDops x ≤ 1099511627776) :
    callK Try.prog 67 [v] (fun v' w' => ODops w.heap.size w' v' x ∧ Grow w w') w := by
  apply S67_ok
  unfold S67
  have hxl := mDops_len x
  refine callK_mono (clone_dops h (by omega)) ?_
  rintro v1 w1 ⟨o1, g1⟩
  obtain ⟨a1, c1, rfl, hc1, hcm, hp, hn⟩ := OwnR.shape o1
  simp only [maxLen] at hcm
  rw [lenK_i]
  cases a1 with
  | none =>
    have := hn rfl
    subst this
    refine LoopK_i (fun vs w2 => vs = [.int .i64 0] ∧ w2 = w1) (fun _ _ => 0) ⟨rfl, rfl⟩ ?_
    rintro vs _ ⟨rfl, rfl⟩ _
    rename World => w1
    rw [nth_z, List.headD_cons, ltK_i]
    exact condK_p (fun h => by simp at h) fun _ => ⟨OwnR.mod o1 (Mod.refl (fun _ => False) _) (fun _ _ h => h) fun r y hy => by simp at hy, g1⟩
  | some p1 =>
    obtain ⟨g, rfl, hg1, hg2, _⟩ := hp _ rfl
    have hsz : ∀ o ∈ x, o.runes.length * 4 ≤ 140737488355328 ∧ o.set.length * 48 ≤ 140737488355328 ∧ o.patch.length * 56 ≤ 140737488355328 := by
      intro o ho
      have := mDops_mem ho
      simp only [mDop, mSet_eq, mPat_eq] at this
      omega
    -- what the row has, i ops done
    let F : Nat → Prop := fun b => w.heap.size ≤ b ∧ b ≠ g
    let D0 : Nat → Prop := fun b => D b ∧ b < w.heap.size
    let Inv : Nat → World → Prop := fun i W => OwnR w.heap.size 59 5 (fun _ _ _ => True) W (.slice (some ⟨g, 0, none⟩) x.length c1) x ∧ Mod (fun b => b = g) w1 W ∧
      ∀ j (hj : j < x.length), ∃ rv sv pv, OpAt W g j x[j] rv sv pv ∧ (j < i → ODop F W [.int .u8 x[j].kind, .int .i64 x[j].n, rv, sv, pv] x[j]) ∧ (i ≤ j → RDop D0 W [.int .u8 x[j].kind, .int .i64 x[j].n, rv, sv, pv] x[j])
    have inv0 : Inv 0 w1 := by
      refine ⟨o1.any, Mod.refl _ _, fun j hj => ?_⟩
      obtain ⟨r, hr, hcl, ho, _⟩ := OwnR.cellsOf o1 hj
      obtain ⟨rv, sv, pv, rfl, q1, q2, q3⟩ := ho
      exact ⟨rv, sv, pv, hcl, fun h => by omega, fun _ => ⟨rv, sv, pv, rfl, q1, q2, q3⟩⟩
    have hz1 := g1.size
    refine LoopK_i (fun vs W => ∃ i : Nat, i ≤ x.length ∧ vs = [.int .i64 i] ∧ Inv i W) (fun vs _ => x.length - iOf vs 0) ⟨0, Nat.zero_le _, rfl, inv0⟩ ?_
    rintro vs w2 ⟨i, hi, rfl, hinv⟩ _
    rw [nth_z, List.headD_cons, ltK_i]
    refine condK_p (fun hlt => ?_) fun hge => ?_
    · have hlt' : i < x.length := by omega
      obtain ⟨oA, mA, rows⟩ := hinv
      have hz2 := mA.size
      obtain ⟨rv, sv, pv, hat, _, hrd⟩ := rows i hlt'
      obtain ⟨_, _, _, e, q1, q2, q3⟩ := hrd (Nat.le_refl _)
      simp only [List.cons.injEq, and_true, true_and] at e
      obtain ⟨rfl, rfl, rfl⟩ := e
      have hmem : x[i] ∈ x := by simp
      obtain ⟨z1, z2, z3⟩ := hsz _ hmem
      have gd : Grow w2 w2.drew := Mod.drew _ _
      refine drawC_i (fun k b => (k = 26 ∨ k = 29 ∨ k = 32) ∧ b = g) ?_
      -- the loads are of cells that the stores turn, which wait for them
      have ld : ∀ q u, [Value.int .u8 x[i].kind, .int .i64 x[i].n, rv, sv, pv][q]? = some u → w2.drew.cell? ((⟨g, 0, none⟩ : Addr).add (i * 5 + q)) = some u := fun q u hu => by rw [addr0]; exact hat q u hu
      have lv : ∀ q, q < 5 → Live w2 ⟨g, i * 5 + q, none⟩ := by
        obtain ⟨_, _, _, _, hl⟩ := OwnR.cellsOf oA hlt'
        exact hl
      refine ixK_n hlt' ?_
      rw [faK_i, Addr.add_add]
      refine sld1_i ⟨ld 2 _ rfl, fun j hj h => by rcases h with ⟨rfl | rfl | rfl, _⟩ <;> exact absurd hj (by decide)⟩ ?_
      refine callK_mono (clone_run (q1.grow gd (by decide) fun _ _ h => h) z1) ?_
      rintro t1 w3 ⟨n1, g3⟩
      refine ⟨Grow.mod g3, ?_⟩
      have g23 := gd.trans g3
      refine ixK_n hlt' ?_
      rw [faK_i, Addr.add_add]
      refine sld1_i ⟨ld 3 _ rfl, fun j hj h => by rcases h with ⟨rfl | rfl | rfl, _⟩ <;> exact absurd hj (by decide)⟩ ?_
      refine callK_mono (copy_set (q2.grow g23 (by decide) fun _ _ h => h) z2) ?_
      rintro t2 w4 ⟨n2, g4⟩
      refine ⟨Grow.mod g4, ?_⟩
      have g24 := g23.trans g4
      refine ixK_n hlt' ?_
      rw [faK_i, Addr.add_add]
      refine sld1_i ⟨ld 4 _ rfl, fun j hj h => by rcases h with ⟨rfl | rfl | rfl, _⟩ <;> exact absurd hj (by decide)⟩ ?_
      refine callK_mono (copy_pat (q3.grow g24 (by decide) fun _ _ h => h) z3) ?_
      rintro t3 w5 ⟨n3, g5⟩
      refine ⟨Grow.mod g5, ?_⟩
      have g25 := g24.trans g5
      have hz5 := g25.size
      have zd : w2.drew.heap.size = w2.heap.size := rfl
      have hz3 := g3.size
      have hz4 := g4.size
      have lv5 : ∀ q, q < 5 → Live w5 ⟨g, i * 5 + q, none⟩ := fun q hq => (lv q hq).mod g25 fun h => h
      have n1' : OwnR 0 21 1 RRune w5 t1 x[i].runes := OwnR.base (OwnR.mod n1 (g4.trans g5) (fun _ _ h => h) fun _ _ _ h => h) fun _ _ => Nat.zero_le _
      have n2' : OSet 0 w5 t2 x[i].set := OwnR.base (OwnR.mod n2 g5 (fun _ _ h => h) fun _ _ _ h => h) fun _ _ => Nat.zero_le _
      have n3' : OwnR 0 61 6 RChg w5 t3 x[i].patch := OwnR.base n3 fun _ _ => Nat.zero_le _
      have b1 : ∀ b, t1.ownBlock = some b → F b := fun b hb => by have := (OwnR.ownB n1 b hb).1; exact ⟨by omega, by omega⟩
      have b2 : ∀ b, t2.ownBlock = some b → F b := fun b hb => by have := (OwnR.ownB n2 b hb).1; exact ⟨by omega, by omega⟩
      have b3 : ∀ b, t3.ownBlock = some b → F b := fun b hb => by have := (OwnR.ownB n3 b hb).1; exact ⟨by omega, by omega⟩
      have oA5 : OwnR w.heap.size 59 5 (fun _ _ _ => True) w5 (.slice (some ⟨g, 0, none⟩) x.length c1) x := OwnR.mod oA g25 (fun _ _ h => h) fun _ _ _ _ => trivial
      have ht1 := OwnR.one n1'
      have ht2 := OwnR.one n2'
      have ht3 := OwnR.one n3'
      refine ixK_n hlt' ?_
      rw [faK_i, Addr.add_add, addr0]
      refine (lv5 2 (by decide)).st ht1.1 ht1.2 ⟨Mod.setCell _ _ _ ⟨.inl rfl, rfl⟩, ?_⟩
      refine ixK_n hlt' ?_
      rw [faK_i, Addr.add_add, addr0]
      refine ((lv5 3 (by decide)).set _ _).st ht2.1 ht2.2 ⟨Mod.setCell _ _ _ ⟨.inr (.inl rfl), rfl⟩, ?_⟩
      refine ixK_n hlt' ?_
      rw [faK_i, Addr.add_add, addr0]
      refine (((lv5 4 (by decide)).set _ _).set _ _).st ht3.1 ht3.2 ⟨Mod.setCell _ _ _ ⟨.inr (.inr rfl), rfl⟩, ?_⟩
      rw [addK_i, loop_step (by omega)]
      refine ⟨⟨i + 1, hlt', rfl, ?_⟩, by rw [iOf0, iOf0]; omega⟩
      have oA6 := OwnR.setAny (OwnR.setAny (OwnR.setAny oA5 hlt' (show 2 < 5 by decide) ht1.1) hlt' (show 3 < 5 by decide) ht2.1) hlt' (show 4 < 5 by decide) ht3.1
      have m56 : Mod (fun b => b = g) w5 (((w5.setCell ⟨g, i * 5 + 2, none⟩ t1).setCell ⟨g, i * 5 + 3, none⟩ t2).setCell ⟨g, i * 5 + 4, none⟩ t3) := ((setA _ _ _ _).trans (setA _ _ _ _)).trans (setA _ _ _ _)
      have oth : ∀ j q, q < 5 → (j ≠ i ∨ q < 2) → (((w5.setCell ⟨g, i * 5 + 2, none⟩ t1).setCell ⟨g, i * 5 + 3, none⟩ t2).setCell ⟨g, i * 5 + 4, none⟩ t3).cell? ⟨g, j * 5 + q, none⟩ = w5.cell? ⟨g, j * 5 + q, none⟩ := by
        intro j q hq hj
        have ne : ∀ q', q' < 5 → 2 ≤ q' → (⟨g, i * 5 + q', none⟩ : Addr) ≠ ⟨g, j * 5 + q, none⟩ := by
          intro q' h1 h2 e
          simp only [Addr.mk.injEq, and_true, true_and] at e
          omega
        rw [World.cell?_setCell_other _ _ _ _ (ne 4 (by omega) (by omega)), World.cell?_setCell_other _ _ _ _ (ne 3 (by omega) (by omega)), World.cell?_setCell_other _ _ _ _ (ne 2 (by omega) (by omega))]
      have same : ∀ j q u, w2.cell? ⟨g, j * 5 + q, none⟩ = some u → w5.cell? ⟨g, j * 5 + q, none⟩ = some u := fun j q u hu => g25.cell hu fun h => h
      generalize hW : (((w5.setCell ⟨g, i * 5 + 2, none⟩ t1).setCell ⟨g, i * 5 + 3, none⟩ t2).setCell ⟨g, i * 5 + 4, none⟩ t3) = W at oA6 m56 oth ⊢
      refine ⟨oA6, mA.trans ((Grow.mod g25).trans m56), fun j hj => ?_⟩
      by_cases hji : j = i
      · subst hji
        refine ⟨t1, t2, t3, fun q u hu => ?_, fun _ => ⟨t1, t2, t3, rfl, own_mod ⟨n1', b1⟩ m56 (fun b _ hb e => hb.2 e) (fun _ _ h => h) fun _ _ h => h, own_mod ⟨n2', b2⟩ m56 (fun b _ hb e => hb.2 e) (fun _ _ h => h) fun _ _ h => h, own_mod ⟨n3', b3⟩ m56 (fun b _ hb e => hb.2 e) (fun _ _ h => h) fun _ _ h => h⟩, fun h => by omega⟩
        have hq := (List.getElem?_eq_some_iff.1 hu).1
        simp only [List.length_cons, List.length_nil] at hq
        have ne : ∀ q q', q ≠ q' → (⟨g, j * 5 + q', none⟩ : Addr) ≠ ⟨g, j * 5 + q, none⟩ := by
          intro q q' h e
          simp only [Addr.mk.injEq, and_true, true_and] at e
          omega
        have some5 : ∀ q, q < 5 → ∃ u, w5.cell? ⟨g, j * 5 + q, none⟩ = some u := fun q hq => Option.isSome_iff_exists.1 (lv5 q hq).1
        rw [← hW]
        match q, hq, hu with
        | 0, _, hu => rw [hW, oth j 0 (by omega) (.inr (by omega))]; exact same _ _ _ (hat 0 u hu)
        | 1, _, hu => rw [hW, oth j 1 (by omega) (.inr (by omega))]; exact same _ _ _ (hat 1 u hu)
        | 2, _, hu =>
          simp only [List.getElem?_cons_succ, List.getElem?_cons_zero, Option.some.injEq] at hu; subst hu
          obtain ⟨u', hu'⟩ := some5 2 (by omega)
          rw [World.cell?_setCell_other _ _ _ _ (ne 2 4 (by decide)), World.cell?_setCell_other _ _ _ _ (ne 2 3 (by decide))]
          exact World.cell?_setCell_same _ _ _ hu'
        | 3, _, hu =>
          simp only [List.getElem?_cons_succ, List.getElem?_cons_zero, Option.some.injEq] at hu; subst hu
          obtain ⟨u', hu'⟩ := some5 3 (by omega)
          rw [World.cell?_setCell_other _ _ _ _ (ne 3 4 (by decide))]
          exact World.cell?_setCell_same _ _ _ ((World.cell?_setCell_other _ _ _ _ (ne 3 2 (by decide))).trans hu')
        | 4, _, hu =>
          simp only [List.getElem?_cons_succ, List.getElem?_cons_zero, Option.some.injEq] at hu; subst hu
          obtain ⟨u', hu'⟩ := some5 4 (by omega)
          exact World.cell?_setCell_same _ _ _ ((World.cell?_setCell_other _ _ _ _ (ne 4 3 (by decide))).trans ((World.cell?_setCell_other _ _ _ _ (ne 4 2 (by decide))).trans hu'))
      · obtain ⟨rv', sv', pv', hat', hod', hrd'⟩ := rows j hj
        refine ⟨rv', sv', pv', OpAt.cong (W := w5) (fun q u hu => same _ _ _ (hat' q u hu)) fun q hq => oth j q hq (.inl hji), fun h => ?_, fun h => ?_⟩
        · exact (ODop.mod (hod' (by omega)) (D' := F) g25 (fun _ _ _ h => h) fun _ _ h => h).mod m56 (fun b _ hb e => hb.2 e) fun _ _ h => h
        · exact (RDop.mod (hrd' (by omega)) (D' := D0) g25 (fun _ _ _ h => h) fun _ _ h => h).mod m56 (fun b _ hb e => by have := hb.2; omega) fun _ _ h => h
    · have : i = x.length := by omega
      subst this
      obtain ⟨oA, mA, rows⟩ := hinv
      refine ⟨OwnR.conv oA fun j hj r hr hone hcl => ?_, g1.next mA fun b hb e => by omega⟩
      obtain ⟨rv, sv, pv, hat, hod, _⟩ := rows j hj
      have e : r = [.int .u8 x[j].kind, .int .i64 x[j].n, rv, sv, pv] := by
        refine List.ext_getElem? fun q => ?_
        by_cases hq : q < 5
        · have h1 : r[q]? = some r[q] := List.getElem?_eq_getElem (by omega)
          have h2 : ([Value.int .u8 x[j].kind, .int .i64 x[j].n, rv, sv, pv])[q]? = some ([Value.int .u8 x[j].kind, .int .i64 x[j].n, rv, sv, pv])[q] := List.getElem?_eq_getElem (by simpa using hq)
          have h3 := hcl q _ h1
          rw [hat q _ h2] at h3
          rw [h1, h2, h3]
        · rw [List.getElem?_eq_none (by omega), List.getElem?_eq_none (by simp; omega)]
      subst e
      exact (hod hj).mod (Mod.refl (fun _ => False) _) (fun _ _ _ h => h) fun b _ hb => ⟨hb.1, fun e => hb.2 (by simpa [Value.ownBlock] using e.symm)⟩
end Go.Proofs.Ytmfplfaeibehiaa

namespace Go.K
open Go
theorem cap_run {P : Program} {t ty e : TypeId} {a : Option Addr} {n c : Nat} {w : World} (ht : P.underlying t = some (.slice e)) : (Builtin.cap_ #[t] ty #[.slice a n c]).run P w = .ok (.int .i64 c) w := by
  simp [Builtin.cap_, run_underlying ht, goInt]
theorem sliceHi_run {P : Program} {t e k : Nat} {i : TypeInfo} {a : Option Addr} {n c h : Nat} {w : World} (ht : P.underlying t = some (.slice e)) (hi : P.info? e = some i) (hk : i.size = k) (hh : h ≤ c) :
    (Instr.sliceAt t (.slice a n c) none (some (.int .i64 h)) none).run P w = .ok (.slice (if c = 0 then a else a.map (·.add (0 * k))) h c) w := by
  have hel : P.elem t = e := by simp [Program.elem, ht]
  rw [run_sliceAt_slice _ _ _ _ _ _ (by rw [hel]; exact ht), run_slice_h _ _ _ _ _ (by rw [hel]; exact ht) _ _ (by omega) (by omega), hel]
  simp [sizeOf, typeInfo, hi, hk, sliced]
end Go.K
namespace Go.Proofs.Ytmfplfaeibehiaa
open Go Go.K

theorem grow_nil {n : Nat} {w : World} (hn : n * 88 ≤ 140737488355328) (R : World → List Value → Dop → Prop) :
    callK Try.prog 88 [.slice none 0 0, .int .i64 n] (fun v' w' => OwnR w.heap.size 59 5 R w' v' [] ∧ Grow w w') w := by
  apply S88_ok
  unfold S88
  refine JoinK_i (fun vs w1 => w1 = w) ?_ ?_
  · rintro vs _ rfl _
    rename World => w
    refine runK_i (cap_run (e := 59) (by kernel_rfl)) ?_
    rw [lenK_i, subK_i, subK_i, gtK_i]
    have e0 : IntKind.i64.wrap ((n : Int) - IntKind.i64.wrap (((0 : Nat) : Int) - ((0 : Nat) : Int))) = n := by rw [wrap64 (x := ((0 : Nat) : Int) - ((0 : Nat) : Int)) (by omega) (by omega), wrap64 (by omega) (by omega)]; omega
    rw [e0]
    refine condK_p (fun hp => ?_) fun _ => ⟨OwnR.nil, Mod.refl _ _⟩
    refine runK_i (cap_run (e := 59) (by kernel_rfl)) ?_
    refine runK_i (sliceHi_run (e := 59) (i := Try.t59) (k := 5) (h := 0) (by kernel_rfl) (by kernel_rfl) (by kernel_rfl) (Nat.le_refl _)) ?_
    simp only [if_true]
    obtain ⟨i, z, h1, h2, h3, h4, h5, h6, h7⟩ := elem_dop
    have hbz : i.bytes = 88 := h5
    refine runK_i (Go.Lib.run_append_nil_zeros (P := Try.prog) w 50 3 50 59 i z .i64 .i64 h1 (by kernel_rfl) h2 h3 n (by omega) (by omega) (by omega) (by rw [hbz]; omega)) ?_
    have hge := grownCap_ge w n 0 59
    have hml := grownCap_le_maxLen w n 0 59 (by simp only [maxLen]; omega)
    have hg : Grow w (w.drew.alloc (.cells (Builtin.zeroCells z.cells n ++ Builtin.zeroCells z.cells (grownCap w n 0 59 - n)) 59)) := (Mod.drew _ _).trans (Mod.alloc _ _ _)
    have hh := heap_alloc_new w.drew (.cells (Builtin.zeroCells z.cells n ++ Builtin.zeroCells z.cells (grownCap w n 0 59 - n)) 59)
    generalize w.drew.alloc (.cells (Builtin.zeroCells z.cells n ++ Builtin.zeroCells z.cells (grownCap w n 0 59 - n)) 59) = w2 at hg hh ⊢
    rw [lenK_i]
    refine runK_i (sliceHi_run (e := 59) (i := Try.t59) (k := 5) (h := 0) (by kernel_rfl) (by kernel_rfl) (by kernel_rfl) (Nat.zero_le _)) ⟨?_, hg⟩
    rw [if_neg (by omega)]
    simp only [Option.map_some, addr0, Nat.zero_mul]
    refine ⟨[], ⟨rfl, .inr ⟨_, _, _, rfl, Nat.le_refl _, hh, Nat.zero_le _, hml, ?_, by simp⟩⟩, rfl, by simp, by simp⟩
    simp only [Array.size_append, size_zeroCells, h6, ← Nat.add_mul]
    rw [Nat.add_sub_cancel' hge]
  · rw [ltK_i]
    exact condK_p (fun h => by omega) fun _ => rfl
/-- what a row of two slices reads as -/
theorem concat_dops {S1 D1 S2 D2 : Nat → Prop} {va vb : Value} {l m : List Dop} {p : Addr} {w : World} (ha : RDops S1 D1 w va l) (hb : RDops S2 D2 w vb m) (h0 : w.cell? p = some va) (h1 : w.cell? (p.add 1) = some vb) (hl : (l.length + m.length) * 88 ≤ 140737488355328) :
    callK Try.prog 66 [.slice (some p) 2 2] (fun v' w' => OwnR w.heap.size 59 5 (RDop fun b => (D1 b ∨ D2 b) ∧ b < w.heap.size) w' v' (l ++ m) ∧ Grow w w') w := by
  apply S66_ok
  unfold S66
  obtain ⟨a1, c1, rfl, m1⟩ := ha.shape
  obtain ⟨a2, c2, rfl, m2⟩ := hb.shape
  rw [lenK_i]
  have n0 : ((2 : Nat) : Int) = 2 := rfl
  refine LoopK_i (fun vs w1 => ∃ k : Nat, k ≤ 2 ∧ vs = [.int .i64 (if k = 0 then (0 : Nat) else if k = 1 then l.length else l.length + m.length : Nat), .int .i64 k] ∧ w1 = w) (fun vs _ => 2 - iOf vs 1) ⟨0, by omega, rfl, rfl⟩ ?_
  rintro vs _ ⟨k, hk, rfl, rfl⟩ _
  rename World => w
  simp only [nth_s, nth_z, List.headD_cons, List.tail_cons]
  rw [ltK_i]
  refine condK_p (fun hlt => ?_) fun hge => ?_
  · have hk2 : k = 0 ∨ k = 1 := by omega
    rcases hk2 with rfl | rfl
    · refine ixK_n (by decide) ?_
      have e : (p.add (0 * 1)) = p.add 0 := rfl
      rw [e, Addr.add_zero']
      refine ld1K_i h0 ?_
      rw [lenK_i, addK_i, wrap64 (by simp <;> omega) (by simp <;> omega), ltK_i]
      refine condK_p (fun h => by simp at h <;> omega) fun _ => ?_
      rw [addK_i, loop_step (by omega)]
      exact ⟨⟨1, by omega, by simp, rfl⟩, by rw [iOf1, iOf1]; omega⟩
    · refine ixK_n (by decide) ?_
      refine ld1K_i (show w.cell? (p.add (1 * 1)) = _ from h1) ?_
      rw [lenK_i, addK_i, wrap64 (by simp <;> omega) (by simp <;> omega), ltK_i]
      refine condK_p (fun h => by simp at h <;> omega) fun _ => ?_
      rw [addK_i, loop_step (by omega)]
      exact ⟨⟨2, by omega, by simp, rfl⟩, by rw [iOf1, iOf1]; omega⟩
  · have hk2 : k = 2 := by omega
    subst hk2
    simp only [show ¬ (2 : Nat) = 0 by decide, show ¬ (2 : Nat) = 1 by decide, if_false]
    refine callK_mono (grow_nil hl (RDop fun b => (D1 b ∨ D2 b) ∧ b < w.heap.size)) ?_
    rintro v1 w1 ⟨o1, g1⟩
    rw [lenK_i]
    let R := RDop fun b => (D1 b ∨ D2 b) ∧ b < w.heap.size
    have hz1 := g1.size
    have ha1 : SlR (fun _ => True) 5 R w1 (.slice a1 l.length c1) l := SlR.mono ha.old (fun _ _ _ => trivial) (fun b hb _ => g1.same b hb fun h => h) (by decide) fun r x hx => hx.mod g1 (fun _ _ _ h => h) fun b _ h => ⟨.inl h.1, h.2⟩
    have hb1 : SlR (fun _ => True) 5 R w1 (.slice a2 m.length c2) m := SlR.mono hb.old (fun _ _ _ => trivial) (fun b hb _ => g1.same b hb fun h => h) (by decide) fun r x hx => hx.mod g1 (fun _ _ _ h => h) fun b _ h => ⟨.inr h.1, h.2⟩
    have pst : ∀ {W W' : World} {M : Nat → Prop}, Mod M W W' → (∀ b, M b → w.heap.size ≤ b) → ∀ r y, R W r y → R W' r y := fun hm hM r y hy => hy.mod hm (fun b _ hd hb => by have := hM b hb; omega) fun _ _ h => h
    refine LoopK_i (fun vs w2 => ∃ (k : Nat) (out : Value) (acc : List Dop), k ≤ 2 ∧ vs = [out, .int .i64 k] ∧ acc = (if k = 0 then [] else if k = 1 then l else l ++ m) ∧ OwnR w.heap.size 59 5 R w2 out acc ∧ Grow w w2) (fun vs _ => 2 - iOf vs 1) ⟨0, v1, [], by omega, rfl, rfl, o1, g1⟩ ?_
    rintro vs w2 ⟨k, out, acc, hk, rfl, hacc, ho, g2⟩ _
    simp only [nth_s, nth_z, List.headD_cons, List.tail_cons]
    rw [ltK_i]
    have one : ∀ {W : World} (j : Nat) (y z : List Dop) (x o : Value), SlR (fun _ => True) 5 R w x y → OwnR w.heap.size 59 5 R W o z → Grow w W → (z.length + y.length) * 88 ≤ 140737488355328 →
        runK Try.prog (Builtin.append_ #[50, 50] 50 [o, x].toArray) (fun v' w' => OwnR w.heap.size 59 5 R w' v' (z ++ y) ∧ Grow w w') W := by
      intro W j y z x o hx hz hW hb
      have hx' : SlR (fun _ => True) 5 R W x y := by
        refine SlR.mono (hx.old (by decide)) (fun _ _ _ => trivial) (fun b hb h => hW.same b hb fun h => h) (by decide) fun r q hq => pst hW (fun _ h => h.elim) r q hq
      obtain ⟨v', w', r1, r2, r3, r4⟩ := OwnR.append (ty := 50) elem_dop hz hx' (fun _ _ => RDop.one) hb hW.size (by simp only [maxLen]; omega) fun w' hg r q hq => pst (Mod.of_grownBy hg) (fun b e => (OwnR.ownB hz b e).1) r q hq
      exact runK_i r1 ⟨r2, hW.next (Mod.of_grownBy r3) fun b hb e => by have := (OwnR.ownB hz b e).1; omega⟩
    have ha0 : SlR (fun _ => True) 5 R w (.slice a1 l.length c1) l := SlR.sub ha.old (fun _ _ _ => trivial) (by decide) fun r x hx => hx.mod (Mod.refl (fun _ => False) _) (fun _ _ _ h => h) fun b _ h => ⟨.inl h.1, h.2⟩
    have hb0 : SlR (fun _ => True) 5 R w (.slice a2 m.length c2) m := SlR.sub hb.old (fun _ _ _ => trivial) (by decide) fun r x hx => hx.mod (Mod.refl (fun _ => False) _) (fun _ _ _ h => h) fun b _ h => ⟨.inr h.1, h.2⟩
    refine condK_p (fun hlt => ?_) fun hge => ?_
    · have hk2 : k = 0 ∨ k = 1 := by omega
      rcases hk2 with rfl | rfl
      · refine ixK_n (by decide) ?_
        have e : (p.add (0 * 1)) = p.add 0 := rfl
        rw [e, Addr.add_zero']
        refine ld1K_i (g2.cell h0 fun h => h) ?_
        simp only [if_true] at hacc
        subst hacc
        obtain ⟨v', w', r1, r2, r3⟩ := one 0 l [] _ out ha0 ho g2 (by simp; omega)
        refine runK_i r1 ?_
        rw [addK_i, loop_step (by omega)]
        exact ⟨⟨1, v', _, by omega, rfl, by simp, r2, r3⟩, by rw [iOf1, iOf1]; omega⟩
      · refine ixK_n (by decide) ?_
        refine ld1K_i (g2.cell (show w.cell? (p.add (1 * 1)) = _ from h1) fun h => h) ?_
        simp only [show ¬ (1 : Nat) = 0 by decide, if_true, if_false] at hacc
        subst hacc
        obtain ⟨v', w', r1, r2, r3⟩ := one 0 m acc _ out hb0 ho g2 hl
        refine runK_i r1 ?_
        rw [addK_i, loop_step (by omega)]
        exact ⟨⟨2, v', _, by omega, rfl, by simp, r2, r3⟩, by rw [iOf1, iOf1]; omega⟩
    · have hk2 : k = 2 := by omega
      subst hk2
      simp only [show ¬ (2 : Nat) = 0 by decide, show ¬ (2 : Nat) = 1 by decide, if_false] at hacc
      subst hacc
      exact ⟨ho, g2⟩
end Go.Proofs.Ytmfplfaeibehiaa

namespace Go.Proofs.Ytmfplfaeibehiaa
open Go Go.K

abbrev TOp : Nat := 59
abbrev row5 (o : Dop) (rv sv pv : Value) : List Value := [.int .u8 o.kind, .int .i64 o.n, rv, sv, pv]
/-- the rows of the gap's inserts: the last one's runes lie in h, all else in C -/
def InsRows (C : Nat → Prop) (h : Nat) (W : World) (g : Nat) (ins : List Dop) : Prop := 0 < ins.length ∧ ∀ j (hj : j < ins.length), ∃ rv sv pv, OpAt W g j ins[j] rv sv pv ∧ RDop (fun x => C x ∨ x = h) W (row5 ins[j] rv sv pv) ins[j] ∧
  (j + 1 = ins.length → OwnR 0 21 1 RRune W rv ins[j].runes ∧ rv.ownBlock = some h ∧ RSet C W sv ins[j].set ∧ RPat C W pv ins[j].patch) ∧ (j + 1 < ins.length → RDop C W (row5 ins[j] rv sv pv) ins[j])
/-- a maker in memory: at block b, its ops, its gap's inserts; F: all blocks of its own; C: those that are only read -/
structure MkR (F : Nat → Prop) (W : World) (b : Nat) (s : MkS) (dv iv : Value) (C : Nat → Prop) (hot : Option Nat) : Prop where
  c0 : W.cell? ⟨b, 0, none⟩ = some dv
  c1 : W.cell? ⟨b, 1, none⟩ = some iv
  c2 : W.cell? ⟨b, 2, none⟩ = some (.int .i64 s.gone)
  lv : ∀ q, q < 3 → Live W ⟨b, q, none⟩
  fb : F b
  nb : ¬ C b
  cf : ∀ x, C x → F x ∧ x < W.heap.size
  done : OwnR 0 TOp 5 (RDop C) W dv s.done
  dF : ∀ g, dv.ownBlock = some g → F g ∧ ¬ C g ∧ g ≠ b
  ins : (s.ins = [] ∧ iv = .slice none 0 0 ∧ hot = none) ∨ ∃ g c h, iv = .slice (some ⟨g, 0, none⟩) s.ins.length c ∧ hot = some h ∧ OwnR 0 TOp 5 (fun _ _ _ => True) W iv s.ins ∧ F g ∧ ¬ C g ∧ g ≠ b ∧ dv.ownBlock ≠ some g ∧
    F h ∧ ¬ C h ∧ h ≠ b ∧ h ≠ g ∧ dv.ownBlock ≠ some h ∧ h < W.heap.size ∧ InsRows C h W g s.ins
def MkI (F : Nat → Prop) (W : World) (b : Nat) (s : MkS) : Prop := ∃ dv iv C hot, MkR F W b s dv iv C hot
theorem OpAt.mod {W W' : World} {M : Nat → Prop} {g j : Nat} {o : Dop} {rv sv pv : Value} (h : OpAt W g j o rv sv pv) (hm : Mod M W W') (hg : ¬ M g) : OpAt W' g j o rv sv pv := fun q u hu => hm.cell (h q u hu) hg
theorem InsRows.mod {C M : Nat → Prop} {h : Nat} {W W' : World} {g : Nat} {ins : List Dop} (hi : InsRows C h W g ins) (hm : Mod M W W') (hg : ¬ M g) (hh : ¬ M h) (hC : ∀ x, C x → ¬ M x) : InsRows C h W' g ins := by
  refine ⟨hi.1, fun j hj => ?_⟩
  obtain ⟨rv, sv, pv, q1, q2, q3, q4⟩ := hi.2 j hj
  refine ⟨rv, sv, pv, q1.mod hm hg, q2.mod hm (fun b _ hb => by rcases hb with hb | rfl; exact hC b hb; exact hh) fun _ _ h => h, fun e => ?_, fun e => (q4 e).mod hm (fun b _ hb => hC b hb) fun _ _ h => h⟩
  obtain ⟨p1, p2, p3, p4⟩ := q3 e
  exact ⟨OwnR.mod p1 hm (fun g hg => by rw [p2] at hg; cases hg; exact hh) fun _ _ _ h => h, p2, p3.mono (fun _ _ h => h) (fun b hb hc => hm.same b hb (hC b hc)) (by decide) fun _ _ h => h, p4.mono (fun _ _ h => h) (fun b hb hc => hm.same b hb (hC b hc)) (by decide) fun _ _ h => h⟩
theorem RDop.cmod {C M : Nat → Prop} {W W' : World} {r : List Value} {o : Dop} (h : RDop C W r o) (hm : Mod M W W') (hC : ∀ x, C x → ¬ M x) : RDop C W' r o := h.mod hm (fun b _ hb => hC b hb) fun _ _ h => h
theorem MkR.mod {F M C : Nat → Prop} {W W' : World} {b : Nat} {s : MkS} {dv iv : Value} {hot : Option Nat} (h : MkR F W b s dv iv C hot) (hm : Mod M W W') (hF : ∀ x, F x → ¬ M x) : MkR F W' b s dv iv C hot := by
  have hb := hF b h.fb
  have hC : ∀ x, C x → ¬ M x := fun x hx => hF x (h.cf x hx).1
  refine ⟨hm.cell h.c0 hb, hm.cell h.c1 hb, hm.cell h.c2 hb, fun q hq => (h.lv q hq).mod hm hb, h.fb, h.nb, fun x hx => ⟨(h.cf x hx).1, Nat.lt_of_lt_of_le (h.cf x hx).2 hm.size⟩, OwnR.mod h.done hm (fun g hg => hF g (h.dF g hg).1) fun r x _ hx => hx.cmod hm hC, h.dF, ?_⟩
  rcases h.ins with h0 | ⟨g, c, hh, e1, e2, e3, e4, e5, e6, e7, e8, e9, e10, e11, e12, e13, e14⟩
  · exact .inl h0
  · exact .inr ⟨g, c, hh, e1, e2, OwnR.mod e3 hm (fun g' hg' => by rw [e1] at hg'; simp only [Value.ownBlock, Option.some.injEq] at hg'; subst hg'; exact hF _ e4) fun _ _ _ _ => trivial, e4, e5, e6, e7, e8, e9, e10, e11, e12, Nat.lt_of_lt_of_le e13 hm.size, e14.mod hm (hF g e4) (hF hh e8) hC⟩
theorem MkR.grow {F C : Nat → Prop} {W W' : World} {b : Nat} {s : MkS} {dv iv : Value} {hot : Option Nat} (h : MkR F W b s dv iv C hot) (hm : Grow W W') : MkR F W' b s dv iv C hot := h.mod hm fun _ _ h => h
theorem MkI.mod {F M : Nat → Prop} {W W' : World} {b : Nat} {s : MkS} (h : MkI F W b s) (hm : Mod M W W') (hF : ∀ x, F x → ¬ M x) : MkI F W' b s := by
  obtain ⟨dv, iv, C, hot, h⟩ := h
  exact ⟨dv, iv, C, hot, h.mod hm hF⟩
theorem MkI.sub {F F' : Nat → Prop} {W : World} {b : Nat} {s : MkS} (h : MkI F W b s) (hF : ∀ x, F x → F' x) : MkI F' W b s := by
  obtain ⟨dv, iv, C, hot, h⟩ := h
  refine ⟨dv, iv, C, hot, h.c0, h.c1, h.c2, h.lv, hF _ h.fb, h.nb, fun x hx => ⟨hF _ (h.cf x hx).1, (h.cf x hx).2⟩, h.done, fun g hg => ⟨hF _ (h.dF g hg).1, (h.dF g hg).2⟩, ?_⟩
  rcases h.ins with h0 | ⟨g, c, hh, e1, e2, e3, e4, e5, e6, e7, e8, e9⟩
  · exact .inl h0
  · exact .inr ⟨g, c, hh, e1, e2, e3, hF _ e4, e5, e6, e7, hF _ e8, e9⟩
/-- New -/
theorem new_ok {w : World} : callK Try.prog 39 [] (fun v w' => Grow w w' ∧ ∃ b, w.heap.size ≤ b ∧ b < w'.heap.size ∧ v = .pointer (some ⟨b, 0, none⟩) ∧ MkI (fun x => x = b) w' b MkS.z) w := by
  apply S39_ok
  unfold S39
  refine ⟨#[.slice none 0 0, .slice none 0 0, .int .i64 0], by kernel_rfl, ?_⟩
  refine boxn_i (vs := [.slice none 0 0, .slice none 0 0, .int .i64 0]) fun b w1 hb hz g hc hl => ?_
  have a0 : ∀ j, (⟨b, 0, none⟩ : Addr).add j = ⟨b, j, none⟩ := fun j => addr0 b j
  refine ⟨g, b, by omega, by omega, rfl, _, _, fun _ => False, none, by rw [← a0]; exact hc 0 _ rfl, by rw [← a0]; exact hc 1 _ rfl, by rw [← a0]; exact hc 2 _ rfl, fun q hq => by rw [← a0]; exact hl q hq, rfl, fun h => h, fun _ h => h.elim, OwnR.nil, fun g hg => (nomatch hg), .inl ⟨rfl, rfl, rfl⟩⟩
/-- Delete -/
theorem delete_ok {F : Nat → Prop} {w : World} {b : Nat} {s : MkS} {n : Int} (h : MkI F w b s) : callK Try.prog 42 [.pointer (some ⟨b, 0, none⟩), .int .i64 n] (fun _ w' => MkI F w' b (delS s n) ∧ Mod F w w') w := by
  apply S42_ok
  unfold S42
  obtain ⟨dv, iv, C, hot, h⟩ := h
  rw [pnilK_i]
  simp only [Option.isNone_some, Bool.not_false]
  rw [condK_b, if_pos rfl, nilckK_i, faK_i, addr0]
  refine ld1K_i h.c2 ?_
  rw [maxK_i, addK_i, nilckK_i, faK_i, addr0]
  have e : (if (0 : Int) > n then (0 : Int) else n) = maxI n 0 := rfl
  rw [e]
  refine (h.lv 2 (by decide)).st rfl rfl ?_
  have hm := setA w b 2 (.int .i64 (IntKind.i64.wrap (s.gone + maxI n 0)))
  have ne : ∀ q, q < 2 → (⟨b, 2, none⟩ : Addr) ≠ ⟨b, q, none⟩ := fun q hq e => by simp only [Addr.mk.injEq] at e; omega
  obtain ⟨u, hu⟩ := Option.isSome_iff_exists.1 (h.lv 2 (by decide)).1
  have nC : ∀ x, C x → ¬ x = b := fun x hx e => h.nb (e ▸ hx)
  refine ⟨⟨dv, iv, C, hot, (World.cell?_setCell_other _ _ _ _ (ne 0 (by decide))).trans h.c0, (World.cell?_setCell_other _ _ _ _ (ne 1 (by decide))).trans h.c1, World.cell?_setCell_same _ _ _ hu, fun q hq => (h.lv q hq).set _ _, h.fb, h.nb, fun x hx => ⟨(h.cf x hx).1, Nat.lt_of_lt_of_le (h.cf x hx).2 hm.size⟩, OwnR.mod h.done hm (fun g hg => (h.dF g hg).2.2) fun r x _ hx => hx.cmod hm nC, h.dF, ?_⟩, hm.mono fun x _ e => by rw [e]; exact h.fb⟩
  rcases h.ins with h0 | ⟨g, c, hh, e1, e2, e3, e4, e5, e6, e7, e8, e9, e10, e11, e12, e13, e14⟩
  · exact .inl h0
  · exact .inr ⟨g, c, hh, e1, e2, OwnR.mod e3 hm (fun g' hg' => by rw [e1] at hg'; simp only [Value.ownBlock, Option.some.injEq] at hg'; subst hg'; exact e6) fun _ _ _ _ => trivial, e4, e5, e6, e7, e8, e9, e10, e11, e12, Nat.lt_of_lt_of_le e13 hm.size, e14.mod hm e6 e10 nC⟩
/-- what the gap's inserts read as -/
theorem MkR.insRd {F C : Nat → Prop} {W : World} {b : Nat} {s : MkS} {dv iv : Value} {hot : Option Nat} (h : MkR F W b s dv iv C hot) : RDops (fun _ => True) (fun x => (C x ∨ hot = some x) ∧ x < W.heap.size) W iv s.ins := by
  rcases h.ins with ⟨e1, e2, _⟩ | ⟨g, c, hh, e1, e2, e3, e4, e5, e6, e7, e8, e9, e10, e11, e12, e13, e14⟩
  · rw [e1, e2]; exact SlR.nil
  · subst e1; subst e2
    have o := OwnR.conv (R := RDop fun x => (C x ∨ some hh = some x) ∧ x < W.heap.size) e3 fun j hj r hr hone hcl => ?_
    · exact SlR.sub (OwnR.sl o) (fun _ _ _ => trivial) (by decide) fun _ _ h => h
    · obtain ⟨rv, sv, pv, q1, q2, _, _⟩ := e14.2 j hj
      have e : r = row5 s.ins[j] rv sv pv := by
        refine List.ext_getElem? fun q => ?_
        by_cases hq : q < 5
        · have h1 : r[q]? = some r[q] := List.getElem?_eq_getElem (by omega)
          have h2 : (row5 s.ins[j] rv sv pv)[q]? = some (row5 s.ins[j] rv sv pv)[q] := List.getElem?_eq_getElem (by simpa using hq)
          have h3 := hcl q _ h1
          rw [q1 q _ h2] at h3
          rw [h1, h2, h3]
        · rw [List.getElem?_eq_none (by omega), List.getElem?_eq_none (by simp; omega)]
      subst e
      exact q2.mod (Mod.refl (fun _ => False) _) (fun _ _ _ h => h) fun x hx hc => by
        refine ⟨?_, hx⟩
        rcases hc with hc | hc
        · exact .inl hc
        · exact .inr (by rw [hc])
/-- what is appended is a delete -/
theorem gap_ok {F C : Nat → Prop} {w : World} {b : Nat} {s : MkS} {dv iv : Value} {hot : Option Nat} (h : MkR F w b s dv iv C hot) (hl : (s.ins.length + 1) * 88 ≤ 140737488355328) :
    callK Try.prog 61 [.pointer (some ⟨b, 0, none⟩)] (fun v' w' => OwnR w.heap.size TOp 5 (RDop fun x => (C x ∨ hot = some x) ∧ x < w.heap.size) w' v' (gapL s.ins s.gone) ∧ Grow w w') w := by
  apply S61_ok
  unfold S61
  rw [nilckK_i, faK_i, addr0]
  refine ld1K_i h.c1 ?_
  refine callK_mono (clone_dops h.insRd (by omega)) ?_
  rintro v1 w1 ⟨o1, g1⟩
  have o1' : OwnR w.heap.size TOp 5 (RDop fun x => (C x ∨ hot = some x) ∧ x < w.heap.size) w1 v1 s.ins := OwnR.mod o1 (Mod.refl (fun _ => False) _) (fun _ _ h => h) fun r x _ hx => hx.mod (Mod.refl (fun _ => False) _) (fun _ _ _ h => h) fun _ _ h => h.1
  rw [nilckK_i, faK_i, addr0]
  refine ld1K_i (g1.cell h.c2 fun h => h) ?_
  rw [gtK_i]
  refine condK_p (fun hg => ?_) fun hg => ⟨by rw [gapL, if_neg hg]; exact o1', g1⟩
  rw [nilckK_i, faK_i, addr0]
  refine ld1K_i (g1.cell h.c2 fun h => h) ?_
  refine ⟨#[.int .u8 3, .int .i64 s.gone, .slice none 0 0, .slice none 0 0, .slice none 0 0], by kernel_rfl, ?_⟩
  refine push_n (w0 := w) elem_dop o1' g1 (cs := row5 ⟨3, s.gone, [], [], []⟩ (.slice none 0 0) (.slice none 0 0) (.slice none 0 0)) (x := ⟨3, s.gone, [], [], []⟩) (by kernel_rfl) rfl ⟨_, _, _, rfl, SlR.nil, SlR.nil, SlR.nil⟩ (fun _ _ _ => RDop.one) ?_ hl (by simp only [maxLen]; omega) fun v' w' h1 h2 => ⟨by rw [gapL, if_pos hg]; exact h1, h2⟩
  intro W1 W2 r y hz hm hy
  refine hy.mod hm (fun x _ hx e => ?_) fun _ _ h => h
  rcases e with e | e
  · have := (OwnR.ownB o1 x e).1; omega
  · have := g1.size; omega
end Go.Proofs.Ytmfplfaeibehiaa
