/- Contracts: ops one by one: form, length, what they take and make, how much they have. No conditions. -/
import Derived.Test.YtmfplfaeibehiaaOB
namespace Go.K
open Go
/-- a struct that is handed over, laid in a box -/
theorem boxn_i {t : TypeId} {vs : List Value} {K : Cont} {w : World} (h : ∀ b w1, b = w.heap.size → w1.heap.size = w.heap.size + 1 → Grow w w1 → (∀ j v, vs[j]? = some v → w1.cell? ((⟨b, 0, none⟩ : Addr).add j) = some v) → (∀ j, j < vs.length → Live w1 ((⟨b, 0, none⟩ : Addr).add j)) → K (.pointer (some ⟨b, 0, none⟩)) w1) : boxnK t (.agg vs.toArray) K w := by
  refine ⟨vs, rfl, ?_⟩
  refine h w.heap.size _ rfl (by simp) (Mod.alloc _ _ _) (fun j v hv => cell_box hv) fun j hj => ?_
  have hadd : (⟨w.heap.size, 0, none⟩ : Addr).add j = ⟨w.heap.size, j, none⟩ := by unfold Addr.add; split <;> simp_all
  rw [hadd]
  refine ⟨?_, World.frozen?_alloc_new ..⟩
  rw [World.cell?_alloc_new]; simp [hj]
/-- one that is laid anew and filled -/
theorem newst_i {t : TypeId} {zs vs : List Value} {K : Value → World → Prop} {w : World} (hl : zs.length = vs.length) (h1 : ∀ v ∈ vs, v.oneCell' = true) (h : ∀ b w1, b = w.heap.size → w1.heap.size = w.heap.size + 1 → Grow w w1 → (∀ j v, vs[j]? = some v → w1.cell? ((⟨b, 0, none⟩ : Addr).add j) = some v) → (∀ j, j < vs.length → Live w1 ((⟨b, 0, none⟩ : Addr).add j)) → K (.pointer (some ⟨b, 0, none⟩)) w1) :
    newK t zs (fun t5 w3 => stnK vs.length t5 (.agg vs.toArray) (fun w4 => K t5 w4) w3) w := by
  refine newK_i (stnew hl h1 ?_)
  obtain ⟨vs', e, h2⟩ := boxn_i (t := t) (K := K) (w := w) h
  have : vs = vs' := by
    have := congrArg Value.cells e
    simpa [Value.cells] using this
  subst this
  exact h2
theorem newst_n {t : TypeId} {n : Nat} {zs vs : List Value} {K : Value → World → Prop} {w : World} (hn : vs.length = n) (hl : zs.length = n) (h1 : ∀ v ∈ vs, v.oneCell' = true) (h : ∀ b w1, b = w.heap.size → w1.heap.size = w.heap.size + 1 → Grow w w1 → (∀ j v, vs[j]? = some v → w1.cell? ((⟨b, 0, none⟩ : Addr).add j) = some v) → (∀ j, j < vs.length → Live w1 ((⟨b, 0, none⟩ : Addr).add j)) → K (.pointer (some ⟨b, 0, none⟩)) w1) :
    newK t zs (fun t5 w3 => stnK n t5 (.agg vs.toArray) (fun w4 => K t5 w4) w3) w := by
  subst hn; exact newst_i hl h1 h
theorem callyK_f {P : Program} {ok : Nat → Bool} {g : Nat} {args : List Value} {K : Cont} {w : World} (hok : ok g = true) (h : callK P g args K w) : callyK P ok (.func (.func g) #[] #[]) args K w := .inl ⟨g, [], [], rfl, hok, by simpa using h⟩
theorem sld1_i {St : Addr → Value → Prop} {a : Addr} {v : Value} {k : Value → Prop} (h : St a v) (hk : k v) : sld1 St (.pointer (some a)) k := ⟨a, v, rfl, h, hk⟩
theorem sldn_i {St : Addr → Value → Prop} {m : Nat} {a : Addr} {vs : List Value} {k : Value → Prop} (hl : vs.length = m) (h : ∀ j v, vs[j]? = some v → St (a.add j) v) (hk : k (.agg vs.toArray)) : sldn St m (.pointer (some a)) k := ⟨a, vs, rfl, hl, h, hk⟩
theorem drawK_i {w : World} {F : (World → Prop) → Prop} (C : World → Prop) (h0 : C w.drew) (h : F C) : DrawK w F := ⟨C, h0, h⟩
theorem drawC_i {eff : List Nat} {AN : List (List Nat)} {w0 : World} {F : (Nat → Nat → Prop) → (Nat → Addr → Value → Prop) → Prop} (M : Nat → Nat → Prop) (h : F M (StI eff AN M w0)) : DrawC eff AN w0 F := ⟨M, h⟩
/-- a struct's cells written over -/
theorem setL_over {b : Nat} : ∀ (vs : List Value) (i : Nat) (W : World), (∀ j, i ≤ j → j < i + vs.length → Live W ((⟨b, 0, none⟩ : Addr).add j)) →
    Mod (fun x => x = b) W (setL W ⟨b, 0, none⟩ i vs) ∧ (∀ j u, vs[j]? = some u → (setL W ⟨b, 0, none⟩ i vs).cell? ((⟨b, 0, none⟩ : Addr).add (i + j)) = some u) ∧ (∀ j, j < i → (setL W ⟨b, 0, none⟩ i vs).cell? ((⟨b, 0, none⟩ : Addr).add j) = W.cell? ((⟨b, 0, none⟩ : Addr).add j)) ∧ (∀ a, Live W a → Live (setL W ⟨b, 0, none⟩ i vs) a) := by
  intro vs
  induction vs with
  | nil => intro i W _; exact ⟨Mod.refl _ _, fun j u hu => by simp at hu, fun _ _ => rfl, fun _ h => h⟩
  | cons x vs ih =>
    intro i W hl
    simp only [setL]
    obtain ⟨i1, i2, i3, i4⟩ := ih (i + 1) (W.setCell ((⟨b, 0, none⟩ : Addr).add i) x) (fun j h1 h2 => (hl j (by omega) (by simp; omega)).set _ _)
    refine ⟨(Mod.setCell _ _ _ (by rw [addr0])).trans i1, fun j u hu => ?_, fun j hj => ?_, fun a ha => i4 a (ha.set _ _)⟩
    · cases j with
      | zero =>
        simp at hu; subst hu
        obtain ⟨u', hu'⟩ := Option.isSome_iff_exists.1 (hl i (Nat.le_refl _) (by simp)).1
        exact (i3 i (by omega)).trans (World.cell?_setCell_same _ _ _ hu')
      | succ j =>
        have := i2 j u (by simpa using hu)
        rw [show i + (j + 1) = i + 1 + j by omega]; exact this
    · rw [i3 j (by omega), World.cell?_setCell_other _ _ _ _ (by rw [addr0, addr0]; intro e; simp only [Addr.mk.injEq] at e; omega)]
theorem stn_over {b n : Nat} {vs : List Value} {K : World → Prop} {W : World} (hn : vs.length = n) (h1 : ∀ v ∈ vs, v.oneCell' = true) (hl : ∀ j, j < n → Live W ((⟨b, 0, none⟩ : Addr).add j))
    (hK : ∀ W', Mod (fun x => x = b) W W' → (∀ j u, vs[j]? = some u → W'.cell? ((⟨b, 0, none⟩ : Addr).add j) = some u) → (∀ a, Live W a → Live W' a) → K W') : stnK n (.pointer (some ⟨b, 0, none⟩)) (.agg vs.toArray) K W := by
  obtain ⟨q1, q2, _, q4⟩ := setL_over (b := b) vs 0 W (fun j _ hj => hl j (by omega))
  exact ⟨_, vs, rfl, rfl, hn, h1, fun j hj => hl j hj, hK _ q1 (fun j u hu => by have := q2 j u hu; rwa [Nat.zero_add] at this) q4⟩
/-- a box that is laid anew, with what its type's zero has -/
theorem newz_i {t : TypeId} {zs : List Value} {K : Cont} {w : World} (h : ∀ b w1, b = w.heap.size → w1.heap.size = w.heap.size + 1 → Grow w w1 → (∀ j v, zs[j]? = some v → w1.cell? ((⟨b, 0, none⟩ : Addr).add j) = some v) → (∀ j, j < zs.length → Live w1 ((⟨b, 0, none⟩ : Addr).add j)) → K (.pointer (some ⟨b, 0, none⟩)) w1) : newK t zs K w := by
  refine newK_i ?_
  obtain ⟨vs', e, h2⟩ := boxn_i (t := t) (vs := zs) (K := K) (w := w) h
  have : zs = vs' := by have := congrArg Value.cells e; simpa [Value.cells] using this
  subst this
  exact h2
theorem wrap_range (x : Int) : -9223372036854775808 ≤ IntKind.i64.wrap x ∧ IntKind.i64.wrap x ≤ 9223372036854775807 := by
  have e1 : (2 : Int) ^ IntKind.i64.bits = 18446744073709551616 := by decide
  have e2 : (2 : Int) ^ (IntKind.i64.bits - 1) = 9223372036854775808 := by decide
  simp only [IntKind.wrap, e1, e2, IntKind.signed, Bool.true_and, decide_eq_true_eq]
  split <;> omega
theorem loop_step {n : Nat} (h : (n : Int) + 1 ≤ 9223372036854775807) : Value.int .i64 (IntKind.i64.wrap ((n : Int) + 1)) = .int .i64 ((n + 1 : Nat) : Int) := by
  rw [wrap64 (by omega) (by omega)]; rfl
theorem iOf0 {q : IntKind} {n : Int} {r : List Value} : iOf (.int q n :: r) 0 = n.toNat := rfl
theorem iOf1 {a : Value} {q : IntKind} {n : Int} {r : List Value} : iOf (a :: .int q n :: r) 1 = n.toNat := rfl
theorem iOf2 {a b : Value} {q : IntKind} {n : Int} {r : List Value} : iOf (a :: b :: .int q n :: r) 2 = n.toNat := rfl
end Go.K
namespace Go.Proofs.Ytmfplfaeibehiaa
open Go Go.K

def MayR (r : Int) : Prop := 0 ≤ r ∧ r < 55296 ∨ 57344 ≤ r ∧ r ≤ 1114111
instance (r : Int) : Decidable (MayR r) := by unfold MayR; infer_instance
theorem mayr_ok {r : Int} {w : World} : callK Try.prog 92 [.int .i32 r] (fun v w' => v = .bool (decide (MayR r)) ∧ w' = w) w := by
  apply S92_ok
  unfold S92
  have key : ∀ b : Bool, (b = true ↔ MayR r) → Value.bool b = .bool (decide (MayR r)) ∧ w = w := fun b h => ⟨by congr 1; rw [Bool.eq_iff_iff, h, decide_eq_true_eq], rfl⟩
  rw [geK_i]
  refine condK_p (fun h0 => ?_) fun h0 => ?_
  · rw [ltK_i]
    refine condK_p (fun h1 => ?_) fun h1 => ?_
    · exact key true (by simp only [true_iff]; exact .inl ⟨h0, h1⟩)
    · rw [geK_i]
      refine condK_p (fun h2 => ?_) fun h2 => ?_
      · rw [leK_i]
        exact key _ (by rw [decide_eq_true_eq]; exact ⟨fun h => .inr ⟨h2, h⟩, fun h => by rcases h with h | h <;> omega⟩)
      · exact key false (by simp only [Bool.false_eq_true, false_iff]; rintro (h | h) <;> omega)
  · rw [geK_i]
    refine condK_p (fun h2 => ?_) fun h2 => ?_
    · rw [leK_i]
      exact key _ (by rw [decide_eq_true_eq]; exact ⟨fun h => .inr ⟨h2, h⟩, fun h => by rcases h with h | h <;> omega⟩)
    · exact key false (by simp only [Bool.false_eq_true, false_iff]; rintro (h | h) <;> omega)

/-- an op's right form, runes and all -/
def FormO (o : Dop) : Prop := (o.kind = 1 ∧ o.runes = [] ∧ o.set = [] ∧ 1 ≤ o.n ∧ o.n ≤ 536870912) ∨ (o.kind = 3 ∧ o.runes = [] ∧ o.set = [] ∧ o.patch = [] ∧ 1 ≤ o.n ∧ o.n ≤ 536870912) ∨
  (o.kind = 2 ∧ (∀ r ∈ o.runes, MayR r) ∧ o.n = 0 ∧ o.patch = [] ∧ 1 ≤ o.runes.length ∧ o.runes.length ≤ 536870912)
instance (o : Dop) : Decidable (FormO o) := by unfold FormO; infer_instance
theorem len0 {α : Type} {l : List α} : ((l.length : Int) = 0) ↔ l = [] := by
  constructor
  · intro h; exact List.eq_nil_of_length_eq_zero (by omega)
  · rintro rfl; rfl
theorem form_ok {D : Nat → Prop} {r : List Value} {o : Dop} {w : World} (h : RDop D w r o) :
    callK Try.prog 80 [.agg r.toArray] (fun v w' => v = .bool (decide (FormO o)) ∧ Grow w w') w := by
  apply S80_ok
  unfold S80
  obtain ⟨rv, sv, pv, rfl, h1, h2, h3⟩ := h
  refine boxn_i fun b w1 _ hz g hc _ => ?_
  have h1' := h1.grow g (by decide) fun _ _ h => h
  obtain ⟨a1, c1, rfl, m1⟩ := h1.shape
  obtain ⟨a2, c2, rfl, m2⟩ := h2.shape
  obtain ⟨a3, c3, rfl, m3⟩ := h3.shape
  have l0 := hc 0 _ rfl
  have l1 := hc 1 _ rfl
  have l2 := hc 2 _ rfl
  have l3 := hc 3 _ rfl
  have l4 := hc 4 _ rfl
  simp only [maxLen] at m1
  have key : ∀ (b : Bool) w', Grow w w' → (b = true ↔ FormO o) → Value.bool b = .bool (decide (FormO o)) ∧ Grow w w' := fun b w' g h => ⟨by congr 1; rw [Bool.eq_iff_iff, h, decide_eq_true_eq], g⟩
  have no : ∀ w', Grow w w' → ¬ FormO o → Value.bool false = .bool (decide (FormO o)) ∧ Grow w w' := fun w' g h => key false w' g (by simp only [Bool.false_eq_true, false_iff]; exact h)
  simp only [faK_i]
  refine ld1K_i l0 ?_
  rw [eqK_i]
  refine condK_p (fun k1 => ?_) fun k1 => ?_
  · refine ld1K_i l2 ?_
    rw [lenK_i, eqK_i]
    refine condK_p (fun e1 => ?_) fun e1 => no _ g ?_
    · refine ld1K_i l3 ?_
      rw [lenK_i, eqK_i]
      refine condK_p (fun e2 => ?_) fun e2 => no _ g ?_
      · refine ld1K_i l1 ?_
        rw [geK_i]
        refine condK_p (fun e3 => ?_) fun e3 => no _ g ?_
        · refine ld1K_i l1 ?_
          rw [leK_i]
          refine key _ _ g ?_
          rw [decide_eq_true_eq]
          refine ⟨fun h => .inl ⟨k1, len0.1 e1, len0.1 e2, e3, h⟩, fun h => ?_⟩
          rcases h with h | h | h
          · exact h.2.2.2.2
          · omega
          · omega
        · rintro (h | h | h)
          · exact e3 h.2.2.2.1
          · omega
          · omega
      · rintro (h | h | h)
        · exact e2 (len0.2 h.2.2.1)
        · omega
        · omega
    · rintro (h | h | h)
      · exact e1 (len0.2 h.2.1)
      · omega
      · omega
  · rw [eqK_i]
    refine condK_p (fun k3 => ?_) fun k3 => ?_
    · refine ld1K_i l2 ?_
      rw [lenK_i, eqK_i]
      refine condK_p (fun e1 => ?_) fun e1 => no _ g ?_
      · refine ld1K_i l3 ?_
        rw [lenK_i, eqK_i]
        refine condK_p (fun e2 => ?_) fun e2 => no _ g ?_
        · refine ld1K_i l4 ?_
          rw [lenK_i, eqK_i]
          refine condK_p (fun e4 => ?_) fun e4 => no _ g ?_
          · refine ld1K_i l1 ?_
            rw [geK_i]
            refine condK_p (fun e3 => ?_) fun e3 => no _ g ?_
            · refine ld1K_i l1 ?_
              rw [leK_i]
              refine key _ _ g ?_
              rw [decide_eq_true_eq]
              refine ⟨fun h => .inr (.inl ⟨k3, len0.1 e1, len0.1 e2, len0.1 e4, e3, h⟩), fun h => ?_⟩
              rcases h with h | h | h
              · omega
              · exact h.2.2.2.2.2
              · omega
            · rintro (h | h | h)
              · omega
              · exact e3 h.2.2.2.2.1
              · omega
          · rintro (h | h | h)
            · omega
            · exact e4 (len0.2 h.2.2.2.1)
            · omega
        · rintro (h | h | h)
          · omega
          · exact e2 (len0.2 h.2.2.1)
          · omega
      · rintro (h | h | h)
        · omega
        · exact e1 (len0.2 h.2.1)
        · omega
    · rw [eqK_i]
      refine condK_p (fun k2 => ?_) fun k2 => no _ g ?_
      · refine LoopK_i (fun vs w2 => ∃ i : Nat, i ≤ o.runes.length ∧ vs = [.int .i64 i] ∧ w2 = w1 ∧ ∀ r ∈ o.runes.take i, MayR r) (fun vs _ => o.runes.length - iOf vs 0) ⟨0, Nat.zero_le _, rfl, rfl, by simp⟩ ?_
        rintro vs _ ⟨i, hi, rfl, rfl, hr⟩ _
        rename World => w1
        refine ld1K_i l2 ?_
        rw [lenK_i, nth_z, List.headD_cons, ltK_i]
        refine condK_p (fun hlt => ?_) fun hge => ?_
        · have hlt' : i < o.runes.length := by omega
          refine ld1K_i l2 ?_
          obtain ⟨p, r, rfl, _, hrl, hcl, rfl⟩ := h1'.get hlt'
          refine ixK_n hlt' (ld1K_i (hcl 0 _ rfl) ?_)
          refine callK_mono mayr_ok ?_
          rintro v2 w2 ⟨rfl, rfl⟩
          rw [notK_i]
          refine condK_neg (fun hm => ?_) fun hm => no _ g ?_
          · rw [addK_i, loop_step (by omega)]
            refine ⟨⟨i + 1, hlt', rfl, rfl, fun r hr' => ?_⟩, by rw [iOf0, iOf0]; omega⟩
            rw [List.take_add_one, List.getElem?_eq_getElem hlt'] at hr'
            rcases List.mem_append.1 hr' with hr' | hr'
            · exact hr r hr'
            · simp at hr'; subst hr'; exact hm
          · rintro (h | h | h)
            · omega
            · omega
            · exact hm (h.2.1 _ (by simp))
        · have : i = o.runes.length := by omega
          subst this
          rw [List.take_length] at hr
          refine ld1K_i l1 ?_
          rw [eqK_i]
          refine condK_p (fun e3 => ?_) fun e3 => no _ g ?_
          · refine ld1K_i l4 ?_
            rw [lenK_i, eqK_i]
            refine condK_p (fun e4 => ?_) fun e4 => no _ g ?_
            · refine ld1K_i l2 ?_
              rw [lenK_i, geK_i]
              refine condK_p (fun e5 => ?_) fun e5 => no _ g ?_
              · refine ld1K_i l2 ?_
                rw [lenK_i, leK_i]
                refine key _ _ g ?_
                rw [decide_eq_true_eq]
                refine ⟨fun h => .inr (.inr ⟨k2, hr, e3, len0.1 e4, by omega, by omega⟩), fun h => ?_⟩
                rcases h with h | h | h
                · omega
                · omega
                · have := h.2.2.2.2.2; omega
              · rintro (h | h | h)
                · omega
                · omega
                · have := h.2.2.2.2.1; omega
            · rintro (h | h | h)
              · omega
              · omega
              · exact e4 (len0.2 h.2.2.2.1)
          · rintro (h | h | h)
            · omega
            · omega
            · exact e3 h.2.2.1
      · rintro (h | h | h) <;> omega
theorem FormO.form1 {o : Dop} (h : FormO o) : (o.kind = 1 ∧ o.runes = [] ∧ o.set = [] ∧ 1 ≤ o.n ∧ o.n ≤ 536870912) ∨ (o.kind = 3 ∧ o.runes = [] ∧ o.set = [] ∧ o.patch = [] ∧ 1 ≤ o.n ∧ o.n ≤ 536870912) ∨ (o.kind = 2 ∧ o.n = 0 ∧ o.patch = [] ∧ o.runes ≠ []) := by
  rcases h with h | h | h
  · exact .inl h
  · exact .inr (.inl h)
  · refine .inr (.inr ⟨h.1, h.2.2.1, h.2.2.2.1, fun e => ?_⟩)
    have := h.2.2.2.2.1
    rw [e] at this; simp at this

/-- an op's length -/
def lenO (o : Dop) : Int := if o.kind = 2 then o.runes.length else o.n
theorem len_ok {D : Nat → Prop} {r : List Value} {o : Dop} {w : World} (h : RDop D w r o) :
    callK Try.prog 98 [.agg r.toArray] (fun v w' => v = .int .i64 (lenO o) ∧ Grow w w') w := by
  apply S98_ok
  unfold S98
  obtain ⟨rv, sv, pv, rfl, h1, h2, h3⟩ := h
  refine boxn_i fun b w1 _ hz g hc _ => ?_
  obtain ⟨a1, c1, rfl, m1⟩ := h1.shape
  simp only [faK_i]
  refine ld1K_i (hc 0 _ rfl) ?_
  rw [eqK_i]
  refine condK_p (fun k1 => ?_) fun k1 => ?_
  · refine ld1K_i (hc 2 _ rfl) ?_
    rw [lenK_i]
    exact ⟨by rw [lenO, if_pos k1], g⟩
  · refine ld1K_i (hc 1 _ rfl) ?_
    exact ⟨by rw [lenO, if_neg k1], g⟩
/-- sums, as the program reckons them -/
def sumW (f : Dop → Int) (x : List Dop) : Int := x.foldl (fun s o => IntKind.i64.wrap (s + f o)) 0
theorem sumW_take {f : Dop → Int} {x : List Dop} {k : Nat} (h : k < x.length) : sumW f (x.take (k + 1)) = IntKind.i64.wrap (sumW f (x.take k) + f x[k]) := by
  rw [List.take_add_one, List.getElem?_eq_getElem h]
  simp only [sumW, List.foldl_append, Option.toList, List.foldl_cons, List.foldl_nil]
def takesF (o : Dop) : Int := if o.kind = 2 then 0 else o.n
def makesF (o : Dop) : Int := if o.kind = 3 then 0 else lenO o
theorem sumW_small {f : Dop → Int} {m : Int} (hm : 0 ≤ m) (x : List Dop) (h : ∀ o ∈ x, 0 ≤ f o ∧ f o ≤ m) (hb : x.length * m ≤ 4611686018427387904) : sumW f x = (x.map f).sum ∧ 0 ≤ sumW f x ∧ sumW f x ≤ x.length * m := by
  induction x using rev_ind with
  | h0 => exact ⟨rfl, by simp [sumW], by simp [sumW]⟩
  | h1 x o ih =>
    have hx : ∀ o ∈ x, 0 ≤ f o ∧ f o ≤ m := fun o ho => h o (by simp [ho])
    have ho := h o (by simp)
    have e : ((x ++ [o]).length : Int) * m = x.length * m + m := by simp [Int.add_mul]
    rw [e] at hb
    obtain ⟨i1, i2, i3⟩ := ih hx (by omega)
    have e2 : sumW f (x ++ [o]) = IntKind.i64.wrap (sumW f x + f o) := by simp [sumW]
    rw [e2, wrap64 (by omega) (by omega), e]
    refine ⟨by rw [i1]; simp, by omega, by omega⟩
theorem takes_ok {S D : Nat → Prop} {v : Value} {x : List Dop} {w : World} (h : RDops S D w v x) :
    callK Try.prog 83 [v] (fun v' w' => v' = .int .i64 (sumW takesF x) ∧ Grow w w') w := by
  apply S83_ok
  unfold S83
  obtain ⟨a, c, rfl, hm⟩ := h.shape
  simp only [maxLen] at hm
  refine LoopK_i (fun vs w1 => ∃ k : Nat, k ≤ x.length ∧ vs = [.int .i64 (sumW takesF (x.take k)), .int .i64 k] ∧ w1 = w ∧ ∀ q ≤ k, True) (fun vs _ => x.length - iOf vs 1) ⟨0, Nat.zero_le _, rfl, rfl, fun _ _ => trivial⟩ ?_
  rintro vs _ ⟨k, hk, rfl, rfl, _⟩ _
  rename World => w
  rw [lenK_i]
  simp only [nth_s, nth_z, List.headD_cons, List.tail_cons]
  rw [ltK_i]
  refine condK_p (fun hlt => ?_) fun hge => ?_
  · have hlt' : k < x.length := by omega
    obtain ⟨p, r, rfl, hS, hr, hc, rv, sv, pv, rfl, h1, h2, h3⟩ := h.get hlt'
    have wr : ∀ z, sumW takesF (x.take k) = z → -9223372036854775808 ≤ z ∧ z ≤ 9223372036854775807 := by
      rintro z rfl
      by_cases h0 : k = 0
      · subst h0; simp [sumW]
      · obtain ⟨k', rfl⟩ : ∃ k', k = k' + 1 := ⟨k - 1, by omega⟩
        rw [sumW_take (by omega)]
        exact wrap_range _
    refine ixK_n hlt' ?_
    simp only [faK_i, Addr.add_add]
    refine ld1K_i (hc 0 _ rfl) ?_
    rw [neK_i]
    refine condK_neg (fun e => ?_) fun e => ?_
    · rw [addK_i, loop_step (by omega)]
      refine ⟨⟨k + 1, hlt', ?_, rfl, fun _ _ => trivial⟩, by rw [iOf1, iOf1]; omega⟩
      rw [sumW_take hlt', takesF, if_pos e, Int.add_zero, wrap64 (wr _ rfl).1 (wr _ rfl).2]
    · refine ixK_n hlt' ?_
      simp only [faK_i, Addr.add_add]
      refine ld1K_i (hc 1 _ rfl) ?_
      rw [addK_i, addK_i, loop_step (by omega)]
      refine ⟨⟨k + 1, hlt', ?_, rfl, fun _ _ => trivial⟩, by rw [iOf1, iOf1]; omega⟩
      rw [sumW_take hlt', takesF, if_neg e]
  · have : k = x.length := by omega
    subst this
    rw [List.take_length]
    exact ⟨rfl, Mod.refl _ _⟩
theorem makes_ok {S D : Nat → Prop} {v : Value} {x : List Dop} {w : World} (h : RDops S D w v x) :
    callK Try.prog 84 [v] (fun v' w' => v' = .int .i64 (sumW makesF x) ∧ Grow w w') w := by
  apply S84_ok
  unfold S84
  obtain ⟨a, c, rfl, hm⟩ := h.shape
  simp only [maxLen] at hm
  refine LoopK_i (fun vs w1 => ∃ k : Nat, k ≤ x.length ∧ vs = [.int .i64 (sumW makesF (x.take k)), .int .i64 k] ∧ Grow w w1) (fun vs _ => x.length - iOf vs 1) ⟨0, Nat.zero_le _, rfl, Mod.refl _ _⟩ ?_
  rintro vs w1 ⟨k, hk, rfl, hg⟩ _
  rw [lenK_i]
  simp only [nth_s, nth_z, List.headD_cons, List.tail_cons]
  rw [ltK_i]
  refine condK_p (fun hlt => ?_) fun hge => ?_
  · have hlt' : k < x.length := by omega
    obtain ⟨p, r, rfl, hS, hr, hc, ho⟩ := (RDops.grow h hg).get hlt'
    have hc0 : w1.cell? (p.add (k * 5 + 0)) = some (.int .u8 x[k].kind) := by obtain ⟨rv, sv, pv, rfl, _⟩ := ho; exact hc 0 _ rfl
    have wr : ∀ z, sumW makesF (x.take k) = z → -9223372036854775808 ≤ z ∧ z ≤ 9223372036854775807 := by
      rintro z rfl
      by_cases h0 : k = 0
      · subst h0; simp [sumW]
      · obtain ⟨k', rfl⟩ : ∃ k', k = k' + 1 := ⟨k - 1, by omega⟩
        rw [sumW_take (by omega)]
        exact wrap_range _
    refine ixK_n hlt' ?_
    simp only [faK_i, Addr.add_add]
    refine ld1K_i hc0 ?_
    rw [neK_i]
    refine condK_neg (fun e => ?_) fun e => ?_
    · rw [addK_i, loop_step (by omega)]
      refine ⟨⟨k + 1, hlt', ?_, hg⟩, by rw [iOf1, iOf1]; omega⟩
      rw [sumW_take hlt', makesF, if_pos e, Int.add_zero, wrap64 (wr _ rfl).1 (wr _ rfl).2]
    · refine ixK_n hlt' (ldnK_i hr (fun j u hu => by rw [Addr.add_add]; exact hc j u hu) ?_)
      refine callK_mono (len_ok ho) ?_
      rintro v2 w2 ⟨rfl, g2⟩
      rw [addK_i, addK_i, loop_step (by omega)]
      refine ⟨⟨k + 1, hlt', ?_, hg.trans g2⟩, by rw [iOf1, iOf1]; omega⟩
      rw [sumW_take hlt', makesF, if_neg e]
  · have : k = x.length := by omega
    subst this
    rw [List.take_length]
    exact ⟨rfl, hg⟩
end Go.Proofs.Ytmfplfaeibehiaa
