/- Plain laws of blocks: the places that blocks tell. No program in sight. What is tame; the law BlocksPlaces: it answers true, and leaves all memory as it was. No conditions. The law BlocksCuts: it answers true, and leaves all memory as it was. No conditions. Contracts: the document's copy and cut. Conditions: the sizes. Writing over what was told: cells that may be written, and the loops that write them. No conditions. The program's data as Lean data: runes, changes, ops. What the model's comparing says of them. No conditions. -/
import Derived.Test.YtmfplfaeibehiaaZNormalMakesUpto2
namespace Go.Proofs.Ytmfplfaeibehiaa
open Go Go.K

def rep (n : Int) (s : List Attr) : List (List Attr) := List.replicate n.toNat s
/-- the places that blocks tell, one by one -/
def pl (l : List Blk) : List (List Attr) := l.flatMap fun b => rep b.n b.set
def NonNeg (l : List Blk) : Prop := ∀ b ∈ l, 0 ≤ b.n
abbrev big : Nat := 4611686018427387904
theorem pl_nil : pl [] = [] := rfl
theorem pl_append (l m : List Blk) : pl (l ++ m) = pl l ++ pl m := by simp [pl]
theorem pl_one (b : Blk) : pl [b] = rep b.n b.set := by simp [pl]
theorem pl_cons (b : Blk) (l : List Blk) : pl (b :: l) = rep b.n b.set ++ pl l := by simp [pl]
theorem rep_len (n : Int) (s : List Attr) : (rep n s).length = n.toNat := by simp [rep]
theorem pl_take_le (l : List Blk) (k : Nat) : (pl (l.take k)).length ≤ (pl l).length := by
  have : pl l = pl (l.take k) ++ pl (l.drop k) := by rw [← pl_append, List.take_append_drop]
  rw [this, List.length_append]; omega
theorem pl_take_succ {l : List Blk} {k : Nat} (h : k < l.length) : pl (l.take (k + 1)) = pl (l.take k) ++ rep l[k].n l[k].set := by
  rw [List.take_add_one, List.getElem?_eq_getElem h, pl_append]
  simp [pl]
theorem atB_pl {l : List Blk} (hn : NonNeg l) (hb : (pl l).length ≤ big) : ∀ k, k ≤ l.length → atB l k = (pl (l.take k)).length := by
  intro k
  induction k with
  | zero => intro _; simp [atB, pl]
  | succ k ih =>
    intro hk
    have h1 := pl_take_le l (k + 1)
    rw [atB_succ (by omega), ih (by omega)]
    rw [pl_take_succ (by omega), List.length_append, rep_len] at h1 ⊢
    have := hn l[k] (by simp)
    simp only [big] at hb
    rw [wrap64 (by omega) (by omega)]
    omega
theorem addB_pl {acc : List Blk} {n : Int} {s : List Attr} (ha : NonNeg acc) (hb : (pl acc).length + n.toNat ≤ big) : pl (addB acc n s) = pl acc ++ rep n s ∧ NonNeg (addB acc n s) := by
  by_cases hn : n ≤ 0
  · rw [addB_zero hn]
    refine ⟨?_, ha⟩
    have : n.toNat = 0 := by omega
    simp [rep, this]
  have hn' : 0 < n := by omega
  rcases snoc_cases acc with rfl | ⟨i, b, rfl⟩
  · rw [addB_nil hn']
    refine ⟨by simp [pl], fun x hx => ?_⟩
    simp at hx; subst hx; simp only; omega
  · rw [addB_snoc hn']
    have hb0 := ha b (by simp)
    rw [pl_append, List.length_append, pl_one, rep_len] at hb
    simp only [big] at hb
    by_cases hs : b.set = s
    · rw [if_pos hs, wrap64 (by omega) (by omega)]
      refine ⟨?_, fun x hx => ?_⟩
      · rw [pl_append, pl_append, pl_one, pl_one, List.append_assoc]
        congr 1
        simp only [rep, ← hs, List.replicate_append_replicate]
        congr 1; omega
      · simp only [List.mem_append, List.mem_singleton] at hx
        rcases hx with hx | rfl
        · exact ha x (by simp [hx])
        · simp only; omega
    · rw [if_neg hs]
      refine ⟨by rw [pl_append (i ++ [b]), pl_one], fun x hx => ?_⟩
      simp only [List.mem_append, List.mem_singleton] at hx
      rcases hx with (hx | rfl) | rfl
      · exact ha x (by simp [hx])
      · exact hb0
      · simp only; omega
theorem foldJ_pl : ∀ (l acc : List Blk), NonNeg acc → (pl acc).length + (pl l).length ≤ big → pl (foldJ acc l) = pl acc ++ pl l ∧ NonNeg (foldJ acc l) := by
  intro l
  induction l with
  | nil => intro acc ha _; exact ⟨by simp [foldJ, pl], ha⟩
  | cons b l ih =>
    intro acc ha hb
    rw [pl_cons, List.length_append, rep_len] at hb
    obtain ⟨h1, h2⟩ := addB_pl (s := b.set) (n := b.n) ha (by omega)
    obtain ⟨h3, h4⟩ := ih (addB acc b.n b.set) h2 (by rw [h1, List.length_append, rep_len]; omega)
    refine ⟨?_, h4⟩
    show pl (foldJ (addB acc b.n b.set) l) = _
    rw [h3, h1, pl_cons, List.append_assoc]
theorem foldO_pl : ∀ (l : List Cel) (acc : List Blk), NonNeg acc → (pl acc).length + l.length ≤ big → pl (foldO acc l) = pl acc ++ l.map Cel.inl ∧ NonNeg (foldO acc l) := by
  intro l
  induction l with
  | nil => intro acc ha _; exact ⟨by simp [foldO], ha⟩
  | cons c l ih =>
    intro acc ha hb
    rw [List.length_cons] at hb
    obtain ⟨h1, h2⟩ := addB_pl (s := c.inl) (n := 1) ha (by simp only [Int.toNat_one]; omega)
    obtain ⟨h3, h4⟩ := ih (addB acc 1 c.inl) h2 (by rw [h1, List.length_append, rep_len]; simp only [Int.toNat_one]; omega)
    refine ⟨?_, h4⟩
    show pl (foldO (addB acc 1 c.inl) l) = _
    rw [h3, h1]
    simp [rep]
theorem joinB_pl {l : List Blk} (hb : (pl l).length ≤ big) : pl (joinB l) = pl l ∧ NonNeg (joinB l) := by
  have h := foldJ_pl l [] (fun _ h => nomatch h) (by simpa [pl] using hb)
  rw [pl_nil, List.nil_append] at h
  exact h
theorem ofB_pl {l : List Cel} (hb : l.length ≤ big) : pl (ofB l) = l.map Cel.inl ∧ NonNeg (ofB l) := by
  have h := foldO_pl l [] (fun _ h => nomatch h) (by simpa [pl] using hb)
  rw [pl_nil, List.nil_append] at h
  exact h

/-! ### proper blocks are one for what they tell -/
def PropL : List Blk → Prop
  | [] => True
  | b :: r => 0 < b.n ∧ (∀ c, r.head? = some c → b.set ≠ c.set) ∧ PropL r
theorem propL_iff : ∀ (l : List Blk), ProperB l ↔ PropL l := by
  intro l
  induction l with
  | nil => exact ⟨fun _ => trivial, fun _ i b h => by simp at h⟩
  | cons b r ih =>
    constructor
    · intro h
      refine ⟨(h 0 b rfl).1, fun c hc => ?_, ih.1 fun i x hx => ?_⟩
      · have h1 : (b :: r)[1]? = some c := by rw [List.getElem?_cons_succ, ← List.head?_eq_getElem?]; exact hc
        exact (h 1 c h1).2 b (by decide) rfl
      · have h2 := h (i + 1) x (by simpa using hx)
        refine ⟨h2.1, fun c hi hc => h2.2 c (by omega) ?_⟩
        have : i + 1 - 1 = (i - 1) + 1 := by omega
        rw [this, List.getElem?_cons_succ]; exact hc
    · rintro ⟨h1, h2, h3⟩ i x hx
      cases i with
      | zero => cases hx; exact ⟨h1, fun c hc => by omega⟩
      | succ i =>
        rw [List.getElem?_cons_succ] at hx
        have h4 := ih.2 h3 i x hx
        refine ⟨h4.1, fun c _ hc => ?_⟩
        cases i with
        | zero =>
          simp at hc; subst hc
          exact h2 x (by rw [List.head?_eq_getElem?]; exact hx)
        | succ i =>
          have : i + 1 + 1 - 1 = i + 1 := by omega
          rw [this, List.getElem?_cons_succ] at hc
          exact h4.2 c (by omega) (by simpa using hc)
theorem propL_snoc : ∀ (l : List Blk) (b : Blk), PropL (l ++ [b]) ↔ PropL l ∧ 0 < b.n ∧ ∀ c, l.getLast? = some c → c.set ≠ b.set := by
  intro l
  induction l with
  | nil => intro b; simp [PropL]
  | cons a r ih =>
    intro b
    simp only [List.cons_append, PropL, ih]
    cases r with
    | nil =>
      simp only [List.nil_append, List.head?_cons, Option.some.injEq, PropL, List.getLast?_singleton, List.head?_nil]
      constructor
      · rintro ⟨h1, h2, h3, h4, h5⟩; exact ⟨⟨h1, fun c h => (nomatch h), trivial⟩, h4, fun c hc => by subst hc; exact h2 b rfl⟩
      · rintro ⟨⟨h1, _, _⟩, h4, h5⟩; exact ⟨h1, fun c hc => by subst hc; exact h5 a rfl, trivial, h4, fun c h => (nomatch h)⟩
    | cons c r =>
      simp only [List.cons_append, List.head?_cons, List.getLast?_cons_cons]
      constructor
      · rintro ⟨h1, h2, h3, h4, h5⟩; exact ⟨⟨h1, h2, h3⟩, h4, h5⟩
      · rintro ⟨⟨h1, h2, h3⟩, h4, h5⟩; exact ⟨h1, h2, h3, h4, h5⟩
theorem addB_prop {acc : List Blk} {n : Int} {s : List Attr} (h : PropL acc) (hb : (pl acc).length + n.toNat ≤ big) : PropL (addB acc n s) := by
  by_cases hn : n ≤ 0
  · rw [addB_zero hn]; exact h
  have hn' : 0 < n := by omega
  rcases snoc_cases acc with rfl | ⟨i, b, rfl⟩
  · rw [addB_nil hn']; exact ⟨hn', fun c h => (nomatch h), trivial⟩
  · rw [addB_snoc hn']
    have h' := (propL_snoc i b).1 h
    rw [pl_append, List.length_append, pl_one, rep_len] at hb
    simp only [big] at hb
    by_cases hs : b.set = s
    · rw [if_pos hs]
      refine (propL_snoc _ _).2 ⟨h'.1, ?_, h'.2.2⟩
      have := h'.2.1
      show 0 < IntKind.i64.wrap (b.n + n)
      rw [wrap64 (by omega) (by omega)]; omega
    · rw [if_neg hs]
      refine (propL_snoc _ _).2 ⟨h, hn', fun c hc => ?_⟩
      simp at hc; subst hc; exact hs
theorem propL_nonneg : ∀ (l : List Blk), PropL l → NonNeg l := by
  intro l
  induction l with
  | nil => intro _ b hb; simp at hb
  | cons a r ih =>
    rintro ⟨h1, _, h3⟩ b hb
    rcases List.mem_cons.1 hb with rfl | hb
    · omega
    · exact ih h3 b hb
theorem foldJ_prop : ∀ (l acc : List Blk), PropL acc → (pl acc).length + (pl l).length ≤ big → PropL (foldJ acc l) := by
  intro l
  induction l with
  | nil => intro acc ha _; exact ha
  | cons b l ih =>
    intro acc ha hb
    rw [pl_cons, List.length_append, rep_len] at hb
    refine ih _ (addB_prop ha (by omega)) ?_
    rw [(addB_pl (propL_nonneg _ ha) (by omega)).1, List.length_append, rep_len]; omega
theorem foldO_prop : ∀ (l : List Cel) (acc : List Blk), PropL acc → (pl acc).length + l.length ≤ big → PropL (foldO acc l) := by
  intro l
  induction l with
  | nil => intro acc ha _; exact ha
  | cons b l ih =>
    intro acc ha hb
    rw [List.length_cons] at hb
    refine ih _ (addB_prop ha (by simp only [Int.toNat_one]; omega)) ?_
    rw [(addB_pl (propL_nonneg _ ha) (by simp only [Int.toNat_one]; omega)).1, List.length_append, rep_len]; simp only [Int.toNat_one]; omega
theorem joinB_prop {l : List Blk} (hb : (pl l).length ≤ big) : PropL (joinB l) := foldJ_prop l [] trivial (by simpa [pl] using hb)
theorem ofB_prop {l : List Cel} (hb : l.length ≤ big) : PropL (ofB l) := foldO_prop l [] trivial (by simpa [pl] using hb)
theorem pl_head {b : Blk} {r : List Blk} (h : PropL (b :: r)) : (pl (b :: r)).head? = some b.set := by
  rw [pl_cons]
  have h1 := h.1
  have : b.n.toNat = (b.n.toNat - 1) + 1 := by omega
  simp only [rep]
  rw [this, List.replicate_succ]; rfl
theorem uniq : ∀ (l m : List Blk), PropL l → PropL m → pl l = pl m → l = m := by
  intro l
  induction l with
  | nil =>
    intro m _ hm h
    cases m with
    | nil => rfl
    | cons c m => have := pl_head hm; rw [← h] at this; simp [pl] at this
  | cons b l ih =>
    intro m hl hm h
    cases m with
    | nil => have := pl_head hl; rw [h] at this; simp [pl] at this
    | cons c m =>
      have hs : b.set = c.set := by
        have h1 := pl_head hl
        have h2 := pl_head hm
        rw [h, h2] at h1; exact (Option.some.inj h1).symm
      have nohead : ∀ (b : Blk) (r : List Blk), PropL (b :: r) → ∀ n : Nat, (pl r)[0]? ≠ some b.set := by
        intro b r hp _ h
        cases r with
        | nil => simp [pl] at h
        | cons d r =>
          have := pl_head hp.2.2
          rw [← List.head?_eq_getElem?, this] at h
          exact hp.2.1 d rfl (Option.some.inj h).symm
      have hlen : b.n.toNat = c.n.toNat := by
        rw [pl_cons, pl_cons] at h
        rcases Nat.lt_trichotomy b.n.toNat c.n.toNat with hlt | heq | hgt
        · exfalso
          have h1 := congrArg (fun x => x[b.n.toNat]?) h
          rw [List.getElem?_append_right (by simp [rep]), List.getElem?_append_left (by rw [rep_len]; exact hlt)] at h1
          simp only [rep, List.length_replicate, Nat.sub_self, List.getElem?_replicate, hlt, if_true] at h1
          exact nohead b l hl 0 (by rw [h1, hs])
        · exact heq
        · exfalso
          have h1 := congrArg (fun x => x[c.n.toNat]?) h
          rw [List.getElem?_append_left (by rw [rep_len]; exact hgt), List.getElem?_append_right (by simp [rep])] at h1
          simp only [rep, List.length_replicate, Nat.sub_self, List.getElem?_replicate, hgt, if_true] at h1
          exact nohead c m hm 0 (by rw [← h1, hs])
      have hb1 := hl.1
      have hc1 := hm.1
      have hn : b.n = c.n := by omega
      have hbc : b = c := by cases b; cases c; simp only at hn hs; rw [hn, hs]
      subst hbc
      rw [pl_cons, pl_cons] at h
      rw [ih m hl.2.2 hm.2.2 (List.append_cancel_left h)]
/-- what stands at a place -/
theorem hit_pl {l : List Blk} (hn : NonNeg l) (hb : (pl l).length ≤ big) {i : Int} {k : Nat} (hk : k < l.length) (h : hitB l i k) : 0 ≤ i ∧ (pl l)[i.toNat]? = some l[k].set := by
  obtain ⟨h1, h2⟩ := h
  rw [atB_pl hn hb k (by omega)] at h1
  rw [atB_pl hn hb (k + 1) (by omega), pl_take_succ hk, List.length_append, rep_len] at h2
  have e : pl l = pl (l.take (k + 1)) ++ pl (l.drop (k + 1)) := by rw [← pl_append, List.take_append_drop]
  refine ⟨by omega, ?_⟩
  rw [e, pl_take_succ hk, List.append_assoc, List.getElem?_append_right (by omega), List.getElem?_append_left (by rw [rep_len]; omega)]
  simp only [rep, List.getElem?_replicate]
  rw [if_pos (by omega)]
theorem hit_ex {l : List Blk} (hn : NonNeg l) (hb : (pl l).length ≤ big) {i : Int} (h0 : 0 ≤ i) (h1 : i < (pl l).length) : ∃ k, k < l.length ∧ hitB l i k := by
  have : ∀ q, q ≤ l.length → i < (pl (l.take q)).length → ∃ k, k < l.length ∧ hitB l i k := by
    intro q
    induction q with
    | zero => intro _ h; simp [pl] at h; omega
    | succ q ih =>
      intro hq h
      by_cases hlt : i < (pl (l.take q)).length
      · exact ih (by omega) hlt
      · refine ⟨q, by omega, ?_, ?_⟩
        · rw [atB_pl hn hb q (by omega)]; omega
        · rw [atB_pl hn hb (q + 1) (by omega)]; exact h
  exact this l.length (Nat.le_refl _) (by rw [List.take_length]; exact h1)
theorem hit_not {l : List Blk} (hn : NonNeg l) (hb : (pl l).length ≤ big) {i : Int} (h : ¬ (0 ≤ i ∧ i < (pl l).length)) {k : Nat} (hk : k < l.length) : ¬ hitB l i k := by
  intro hh
  obtain ⟨h1, h2⟩ := hit_pl hn hb hk hh
  have := (List.getElem?_eq_some_iff.1 h2).1
  exact h ⟨h1, by omega⟩
/-- a cut's places -/
theorem cutT_pl {l : List Blk} (hn : NonNeg l) (hb : (pl l).length ≤ big) {i j : Int} (hi : 0 ≤ i) (hj : 0 ≤ j) (hi2 : i ≤ 9223372036854775807) : ∀ k, k ≤ l.length → pl (cutT l i j k) = ((pl (l.take k)).take j.toNat).drop i.toNat ∧ PropL (cutT l i j k) := by
  intro k
  induction k with
  | zero => intro _; exact ⟨by simp [cutT, pl], trivial⟩
  | succ k ih =>
    intro hk
    obtain ⟨h1, h2⟩ := ih (by omega)
    rw [cutT_succ (by omega)]
    have ha := atB_pl hn hb k (by omega)
    have hb' := atB_pl hn hb (k + 1) (by omega)
    have h3 := pl_take_le l (k + 1)
    have hnk := hn l[k] (by simp)
    rw [pl_take_succ (by omega), List.length_append, rep_len] at h3 hb'
    simp only [big] at hb
    have hcn : (cutN (atB l (k + 1)) j (atB l k) i).toNat = min l[k].n.toNat (j.toNat - (pl (l.take k)).length) - (i.toNat - (pl (l.take k)).length) ∧ (cutN (atB l (k + 1)) j (atB l k) i).toNat ≤ l[k].n.toNat := by
      unfold cutN minI maxI
      rw [ha, hb']
      split <;> split <;> (rw [wrap64 (by omega) (by omega)]; omega)
    have hlen : (pl (cutT l i j k)).length ≤ (pl (l.take k)).length := by rw [h1]; simp; omega
    obtain ⟨h4, h5⟩ := addB_pl (s := l[k].set) (n := cutN (atB l (k + 1)) j (atB l k) i) (propL_nonneg _ h2) (by simp only [big]; omega)
    refine ⟨?_, addB_prop h2 (by simp only [big]; omega)⟩
    rw [h4, h1, pl_take_succ (by omega), List.take_append, List.drop_append]
    congr 1
    simp only [rep, List.take_replicate, List.drop_replicate]
    congr 1
    rw [hcn.1, List.length_take]
    omega
theorem cutB_pl {l : List Blk} (hn : NonNeg l) (hb : (pl l).length ≤ big) (i j : Int) : pl (cutB l i j) = ((pl l).take j.toNat).drop i.toNat ∧ PropL (cutB l i j) := by
  have hlen := atB_pl hn hb l.length (Nat.le_refl _)
  rw [List.take_length] at hlen
  have e1 : maxI i 0 = i.toNat := by unfold maxI; split <;> omega
  have e2 : (minI (maxI j 0) (atB l l.length)) = min j.toNat (pl l).length := by unfold minI maxI; rw [hlen]; split <;> split <;> omega
  unfold cutB
  rw [e1, e2]
  split
  · rename_i h
    refine ⟨?_, trivial⟩
    have : (((pl l).take j.toNat).drop i.toNat).length = 0 := by simp; omega
    rw [List.eq_nil_of_length_eq_zero this]; rfl
  · obtain ⟨h1, h2⟩ := cutT_pl hn hb (i := (i.toNat : Int)) (j := ((min j.toNat (pl l).length : Nat) : Int)) (by omega) (by omega) (by simp only [big] at hb; omega) l.length (Nat.le_refl _)
    refine ⟨?_, h2⟩
    rw [h1, List.take_length]
    simp only [Int.toNat_natCast]
    congr 1
    rcases Nat.le_total j.toNat (pl l).length with h | h
    · rw [Nat.min_eq_left h]
    · rw [Nat.min_eq_right h, List.take_of_length_le (Nat.le_refl _), List.take_of_length_le h]
end Go.Proofs.Ytmfplfaeibehiaa

namespace Go.Proofs.Ytmfplfaeibehiaa
open Go Go.K

def Tame1 (b : Blk) : Prop := 0 ≤ b.n ∧ b.n ≤ 1099511627776 ∧ b.set.length ≤ 30
instance (b : Blk) : Decidable (Tame1 b) := by unfold Tame1; infer_instance
def TameB (l : List Blk) : Prop := l.length ≤ 200 ∧ ∀ b ∈ l, Tame1 b
instance (l : List Blk) : Decidable (TameB l) := by unfold TameB; infer_instance
theorem tame_ok {S D : Nat → Prop} {w : World} {v : Value} {l : List Blk} (h : RBlks S D w v l) :
    callK Try.prog 18 [v] (fun v' w' => v' = .bool (decide (TameB l)) ∧ Grow w w') w := by
  apply S18_ok
  unfold S18
  obtain ⟨a, c, rfl, hm⟩ := h.shape
  simp only [KS]
  by_cases h200 : (200 : Int) < l.length
  · rw [if_pos h200]
    exact ⟨by rw [decide_eq_false]; rintro ⟨h1, _⟩; omega, Mod.refl _ _⟩
  rw [if_neg h200]
  refine LoopK_i (fun vs w1 => ∃ (k : Nat), k ≤ l.length ∧ vs = [.int .i64 k] ∧ Grow w w1 ∧ ∀ i c, i < k → l[i]? = some c → Tame1 c) (fun vs _ => l.length - iOf vs 0) ⟨0, Nat.zero_le _, rfl, Mod.refl _ _, fun i c h => by omega⟩ ?_
  rintro vs w1 ⟨k, hk, rfl, hg, hset⟩ _
  simp only [KS]
  by_cases hlt : k < l.length
  · rw [if_pos (show (k : Int) < l.length by omega)]
    obtain ⟨p, r, rfl, _, hr, hc, sv, rfl, hs⟩ := h.get hlt
    have no : ¬ Tame1 l[k] → (Value.bool false = .bool (decide (TameB l))) ∧ Grow w w1 := fun hn => ⟨by rw [decide_eq_false]; rintro ⟨_, h2⟩; exact hn (h2 _ (by simp)), hg⟩
    refine ixK_n hlt ?_
    simp only [KS]
    refine ld1K_i (hg.cell (hc 0 _ rfl) fun h => h) ?_
    simp only [KS]
    by_cases h0 : l[k].n < 0
    · rw [if_pos h0]; exact no fun hh => by have := hh.1; omega
    rw [if_neg h0]
    refine ixK_n hlt ?_
    simp only [KS]
    refine ld1K_i (hg.cell (hc 0 _ rfl) fun h => h) ?_
    simp only [KS]
    by_cases h1 : 1099511627776 < l[k].n
    · rw [if_pos h1]; exact no fun hh => by have := hh.2.1; omega
    rw [if_neg h1]
    refine ixK_n hlt ?_
    simp only [KS]
    refine ld1K_i (hg.cell (hc 1 _ rfl) fun h => h) ?_
    obtain ⟨ps, cs, rfl, _⟩ := hs.shape
    simp only [KS]
    by_cases h30 : (30 : Int) < l[k].set.length
    · rw [if_pos h30]; exact no fun hh => by have := hh.2.2; omega
    rw [if_neg h30]
    refine ⟨⟨k + 1, by omega, by rw [wrap64 (by omega) (by omega)]; rfl, hg, fun i c hi hc' => ?_⟩, ?_⟩
    · by_cases e : i = k
      · subst e; rw [List.getElem?_eq_getElem hlt] at hc'; cases hc'; exact ⟨by omega, by omega, by omega⟩
      · exact hset i c (by omega) hc'
    · simp only [iOf, nth, List.headD_cons]; rw [wrap64 (by omega) (by omega)]; omega
  · rw [if_neg (show ¬ (k : Int) < l.length by omega)]
    have : k = l.length := by omega
    subst this
    refine ⟨?_, hg⟩
    rw [decide_eq_true]
    refine ⟨by omega, fun c hc => ?_⟩
    obtain ⟨i, hi⟩ := List.mem_iff_getElem?.1 hc
    exact hset i c (List.getElem?_eq_some_iff.1 hi).1 hi
theorem pl_le : ∀ (l : List Blk), (∀ b ∈ l, Tame1 b) → (pl l).length ≤ l.length * 1099511627776 := by
  intro l
  induction l with
  | nil => intro _; simp [pl]
  | cons b l ih =>
    intro h
    have h1 := ih fun c hc => h c (by simp [hc])
    have h2 := (h b (by simp))
    rw [pl_cons, List.length_append, rep_len, List.length_cons, Nat.add_mul]
    have := h2.1
    have := h2.2.1
    omega
theorem TameB.big {l : List Blk} (h : TameB l) : (pl l).length ≤ 219902325555200 := by
  have h1 := pl_le l h.2
  have h2 : l.length * 1099511627776 ≤ 200 * 1099511627776 := Nat.mul_le_mul_right _ h.1
  omega
theorem TameB.nn {l : List Blk} (h : TameB l) : NonNeg l := fun b hb => (h.2 b hb).1
theorem TameB.le {l : List Blk} (h : TameB l) : (pl l).length ≤ Go.Proofs.Ytmfplfaeibehiaa.big := by have := h.big; simp only [Go.Proofs.Ytmfplfaeibehiaa.big]; omega
theorem TameB.sets {l : List Blk} (h : TameB l) : ∀ b ∈ l, b.set.length ≤ 30 := fun b hb => (h.2 b hb).2.2
theorem atB_len {l : List Blk} (hn : NonNeg l) (hb : (pl l).length ≤ big) : atB l l.length = (pl l).length := by
  rw [atB_pl hn hb _ (Nat.le_refl _), List.take_length]
/-- At, told by places -/
theorem at_pl {S D : Nat → Prop} {w : World} {v : Value} {l : List Blk} {i : Nat} {K : Cont} (h : RBlks S D w v l) (hset : ∀ b ∈ l, b.set.length ≤ 30) (hn : NonNeg l) (hb : (pl l).length ≤ big)
    (h1 : ∀ sv s w', (pl l)[i]? = some s → OSet w.heap.size w' sv s → Grow w w' → K (.tuple #[sv, .bool true]) w') (h2 : ∀ w', (pl l).length ≤ i → Grow w w' → K (.tuple #[.slice none 0 0, .bool false]) w') :
    callK Try.prog 20 [v, .int .i64 i] K w := by
  refine callK_mono (at_blk h fun b hb => by have := hset b hb; omega) ?_
  rintro v' w' ⟨hg, ⟨sv, k, hk, hh, _, rfl, ho⟩ | ⟨hno, rfl⟩⟩
  · have := (hit_pl hn hb hk hh).2
    exact h1 sv _ w' (by simpa using this) ho hg
  · refine h2 w' ?_ hg
    rcases Nat.lt_or_ge i (pl l).length with hlt | hge
    · obtain ⟨k, hk, hh⟩ := hit_ex hn hb (i := (i : Int)) (by omega) (by omega)
      exact (hno k hk hh).elim
    · exact hge
theorem join_same {l m : List Blk} (hl : (pl l).length ≤ big) (hm : (pl m).length ≤ big) : joinB l = joinB m ↔ pl l = pl m := by
  constructor
  · intro h
    rw [← (joinB_pl hl).1, ← (joinB_pl hm).1, h]
  · intro h
    exact uniq _ _ (joinB_prop hl) (joinB_prop hm) (by rw [(joinB_pl hl).1, (joinB_pl hm).1, h])

theorem BlocksPlaces_ok {S D S' D' : Nat → Prop} {w : World} {a b : Value} {l m : List Blk} (ha : RBlks S D w a l) (hb : RBlks S' D' w b m) :
    callK Try.prog 4 [a, b] (fun v w' => v = .bool true ∧ Grow w w') w := by
  apply S4_ok
  unfold S4
  obtain ⟨pa, ca, rfl, hla⟩ := ha.shape
  obtain ⟨pb, cb, rfl, hlb⟩ := hb.shape
  have kn : ∀ {w1}, Grow w w1 → callK Try.prog 14 [] (fun v w' => v = .bool true ∧ Grow w w') w1 := fun hg => callK_mono known_ok fun v w' ⟨e, h⟩ => ⟨e, hg.trans h⟩
  simp only [KS]
  refine JoinK_i (fun vs w1 => Grow w w1 ∧ TameB l ∧ TameB m) ?_ ?_
  · rintro vs w1 ⟨g1, tl, tm⟩ _
    have hl200 := tl.1
    have hm200 := tm.1
    refine LoopK_i (fun vs w2 => ∃ (k : Nat), k ≤ l.length ∧ vs = [.int .i64 k] ∧ Grow w w2) (fun vs _ => l.length - iOf vs 0) ⟨0, Nat.zero_le _, rfl, g1⟩ ?_
    rintro vs w2 ⟨k, hk, rfl, g2⟩ _
    simp only [KS]
    by_cases hlt : k < l.length
    · rw [if_pos (show (k : Int) < l.length by omega)]
      obtain ⟨p, r, rfl, _, hr, hc, sv, rfl, hs⟩ := ha.get hlt
      refine ixK_n hlt ?_
      simp only [KS]
      refine ld1K_i (g2.cell (hc 0 _ rfl) fun h => h) ?_
      simp only [KS]
      by_cases h20 : 20 < l[k].n
      · rw [if_pos h20]; exact kn g2
      · rw [if_neg h20]
        refine ⟨⟨k + 1, by omega, by rw [wrap64 (by omega) (by omega)]; rfl, g2⟩, ?_⟩
        simp only [iOf, nth, List.headD_cons]; rw [wrap64 (by omega) (by omega)]; omega
    rw [if_neg (show ¬ (k : Int) < l.length by omega)]
    refine LoopK_i (fun vs w2 => ∃ (k : Nat), k ≤ m.length ∧ vs = [.int .i64 k] ∧ Grow w w2) (fun vs _ => m.length - iOf vs 0) ⟨0, Nat.zero_le _, rfl, g2⟩ ?_
    rintro vs w3 ⟨k', hk', rfl, g3⟩ _
    simp only [KS]
    by_cases hlt' : k' < m.length
    · rw [if_pos (show (k' : Int) < m.length by omega)]
      obtain ⟨p, r, rfl, _, hr, hc, sv, rfl, hs⟩ := hb.get hlt'
      refine ixK_n hlt' ?_
      simp only [KS]
      refine ld1K_i (g3.cell (hc 0 _ rfl) fun h => h) ?_
      simp only [KS]
      by_cases h20 : 20 < m[k'].n
      · rw [if_pos h20]; exact kn g3
      · rw [if_neg h20]
        refine ⟨⟨k' + 1, by omega, by rw [wrap64 (by omega) (by omega)]; rfl, g3⟩, ?_⟩
        simp only [iOf, nth, List.headD_cons]; rw [wrap64 (by omega) (by omega)]; omega
    rw [if_neg (show ¬ (k' : Int) < m.length by omega)]
    have sl := tl.sets
    have sm := tm.sets
    have jl := joinB_pl tl.le
    have jm := joinB_pl tm.le
    refine callK_mono (join_blk (ha.grow g3) (by omega) fun b hb => by have := sl b hb; omega) ?_
    rintro v4 w4 ⟨o4, g4⟩
    have g04 := g3.trans g4
    refine callK_mono (join_blk (hb.grow g04) (by omega) fun b hb => by have := sm b hb; omega) ?_
    rintro v5 w5 ⟨o5, g5⟩
    have g05 := g04.trans g5
    refine callK_mono (len_blk (ha.grow g05)) ?_
    rintro v6 w6 ⟨rfl, g6⟩
    have g06 := g05.trans g6
    refine callK_mono (len_blk (hb.grow g06)) ?_
    rintro v7 w7 ⟨rfl, g7⟩
    have g07 := g06.trans g7
    rw [atB_len tl.nn tl.le, atB_len tm.nn tm.le]
    simp only [KS]
    have p7 := (((o4.grow g5 fun _ _ _ h => h).grow g6 fun _ _ _ h => h).grow g7 fun _ _ _ h => h)
    have q7 := ((o5.grow g6 fun _ _ _ h => h).grow g7 fun _ _ _ h => h)
    have bl := tl.big
    have bm := tm.big
    refine LoopK_i (fun vs w8 => ∃ (i : Nat), i ≤ (pl l).length ∧ vs = [.bool (decide ((pl l).length = (pl m).length ∧ (pl l).take i = (pl m).take i)), .int .i64 i] ∧ Grow w7 w8) (fun vs _ => (pl l).length - iOf vs 1)
      ⟨0, Nat.zero_le _, by simp only [List.take_zero, and_true, List.cons.injEq, Value.bool.injEq]; exact ⟨by rw [decide_eq_decide]; omega, rfl⟩, Mod.refl _ _⟩ ?_
    rintro vs w8 ⟨i, hi, rfl, g8⟩ _
    simp only [nth, List.headD_cons, List.tail_cons]
    have g08 := g07.trans g8
    refine callK_mono (len_blk (ha.grow g08)) ?_
    rintro v9 w9 ⟨rfl, g9⟩
    rw [atB_len tl.nn tl.le]
    simp only [KS]
    have g89 := g8.trans g9
    have g09 := g07.trans g89
    by_cases hil : i < (pl l).length
    · rw [if_pos (show (i : Int) < (pl l).length by omega)]
      obtain ⟨s, hs⟩ : ∃ s, (pl l)[i]? = some s := ⟨_, List.getElem?_eq_getElem hil⟩
      refine JoinK_i (fun vs w1 => vs = [.bool (decide ((pl l).length = (pl m).length ∧ (pl l).take (i + 1) = (pl m).take (i + 1)))] ∧ Grow w9 w1) ?_ ?_
      · rintro vs wA ⟨rfl, gA⟩ _
        simp only [KS]
        refine ⟨⟨i + 1, by omega, by rw [wrap64 (by omega) (by omega)]; rfl, g89.trans gA⟩, ?_⟩
        simp only [iOf, nth, List.headD_cons, List.tail_cons]; rw [wrap64 (by omega) (by omega)]; omega
      · refine at_pl (ha.grow g09) sl tl.nn tl.le (fun sv s' wA hs' oA gA => ?_) fun wA hge _ => by omega
        rw [hs] at hs'; cases hs'
        refine extK_i rfl (extK_i rfl ?_)
        have g9A := g09.trans gA
        have p9 : RBlks (fun b => w3.heap.size ≤ b ∧ v4.ownBlock = some b) (fun b => w3.heap.size ≤ b ∧ v4.ownBlock ≠ some b) wA v4 (joinB l) := OBlks.sl ((p7.grow g89 fun _ _ _ h => h).grow gA fun _ _ _ h => h)
        refine at_pl p9 (fun b hb => joinB_sets sl b hb) jl.2 (by rw [jl.1]; exact tl.le) (fun sv' s' wB hs' oB gB => ?_) fun wB hge _ => by rw [jl.1] at hge; omega
        rw [jl.1, hs] at hs'; cases hs'
        refine extK_i rfl (extK_i rfl ?_)
        have gAB := g9A.trans gB
        refine JoinK_i (fun vs w1 => Grow wB w1) ?_ ?_
        · rintro vs wC gC _
          have oA' : RSet (fun _ => True) wC sv s := SlR.grow (SlR.grow (SlR.sub (OwnR.sl oA) (fun _ _ _ => trivial) (by decide) fun _ _ h => h) gB (by decide) fun _ _ h => h) gC (by decide) fun _ _ h => h
          have gBC := (gA.trans gB).trans gC
          refine at_pl (hb.grow (gAB.trans gC)) sm tm.nn tm.le (fun sv'' s'' wD hs'' oD gD => ?_) fun wD hge gD => ?_
          · refine extK_i rfl (extK_i rfl ?_)
            simp only [KS]
            have hle : i < (pl m).length := (List.getElem?_eq_some_iff.1 hs'').1
            have e1 : (pl l).take (i + 1) = (pl l).take i ++ [s] := by rw [List.take_add_one, hs]; rfl
            have e2 : (pl m).take (i + 1) = (pl m).take i ++ [s''] := by rw [List.take_add_one, hs'']; rfl
            by_cases hsame : (pl l).length = (pl m).length ∧ (pl l).take i = (pl m).take i
            · rw [if_pos hsame]
              refine callK_mono (rsame_set (oA'.grow gD (by decide) fun _ _ h => h) (OwnR.sl oD)) ?_
              rintro vE wE ⟨rfl, gE⟩
              refine ⟨?_, (gBC.trans gD).trans gE⟩
              congr 2
              rw [decide_eq_decide, e1, e2, hsame.2]
              constructor
              · intro h; exact ⟨hsame.1, by rw [h]⟩
              · rintro ⟨_, h⟩; simpa using h
            · rw [if_neg hsame]
              refine ⟨?_, gBC.trans gD⟩
              congr 2
              symm; rw [decide_eq_false_iff_not]
              rintro ⟨h1, h2⟩
              rw [e1, e2] at h2
              exact hsame ⟨h1, (List.append_inj' h2 rfl).1⟩
          · refine extK_i rfl (extK_i rfl ?_)
            simp only [KS]
            have key : [Value.bool false] = [.bool (decide ((pl l).length = (pl m).length ∧ (pl l).take (i + 1) = (pl m).take (i + 1)))] := by
              congr 2
              symm; rw [decide_eq_false_iff_not]
              rintro ⟨h1, _⟩; omega
            split
            · exact ⟨key, gBC.trans gD⟩
            · exact ⟨key, gBC.trans gD⟩
        · simp only [KS]
          have oA' : RSet (fun _ => True) wB sv s := SlR.grow (SlR.sub (OwnR.sl oA) (fun _ _ _ => trivial) (by decide) fun _ _ h => h) gB (by decide) fun _ _ h => h
          refine callK_mono (rsame_set oA' (OwnR.sl oB)) ?_
          rintro vC wC ⟨rfl, gC⟩
          rw [decide_eq_true rfl]
          simp only [KS]
          exact gC
    · rw [if_neg (show ¬ (i : Int) < (pl l).length by omega)]
      have hie : i = (pl l).length := by omega
      subst hie
      refine callK_mono (rsame_blk (OBlks.sl (p7.grow g89 fun _ _ _ h => h)) (OBlks.sl (q7.grow g89 fun _ _ _ h => h))) ?_
      rintro vA wA ⟨rfl, gA⟩
      have e : decide (joinB l = joinB m) = decide ((pl l).length = (pl m).length ∧ (pl l).take (pl l).length = (pl m).take (pl l).length) := by
        rw [decide_eq_decide, join_same tl.le tm.le]
        constructor
        · intro h; exact ⟨by rw [h], by rw [h]⟩
        · rintro ⟨h1, h2⟩
          rw [List.take_length, h1, List.take_length] at h2
          exact h2
      rw [e]
      simp only [beqK_i, condK_b, beq_self_eq_true, if_true]
      exact kn (g09.trans gA)
  · by_cases h1 : (60 : Int) < l.length
    · rw [if_pos h1]; exact kn (Mod.refl _ _)
    rw [if_neg h1]
    by_cases h2 : (60 : Int) < m.length
    · rw [if_pos h2]; exact kn (Mod.refl _ _)
    rw [if_neg h2]
    refine callK_mono (tame_ok ha) ?_
    rintro v1 w1 ⟨rfl, g1⟩
    simp only [KS]
    by_cases tl : TameB l
    · rw [if_neg (fun h => h tl)]
      refine callK_mono (tame_ok (hb.grow g1)) ?_
      rintro v2 w2 ⟨rfl, g2⟩
      simp only [KS]
      by_cases tm : TameB m
      · rw [if_neg (fun h => h tm)]
        exact ⟨g1.trans g2, tl, tm⟩
      · rw [if_pos tm]; exact kn (g1.trans g2)
    · rw [if_pos tl]; exact kn g1
end Go.Proofs.Ytmfplfaeibehiaa

namespace Go.Proofs.Ytmfplfaeibehiaa
open Go Go.K

theorem cutB_sets {l : List Blk} {i j : Int} {m : Nat} (h : ∀ b ∈ l, b.set.length ≤ m) : ∀ b ∈ cutB l i j, b.set.length ≤ m := by
  have key : ∀ (i j : Int) k, ∀ b ∈ cutT l i j k, b.set.length ≤ m := by
    intro i j k
    induction k with
    | zero => intro b hb; simp [cutT] at hb
    | succ k ih =>
      intro b hb
      simp only [cutT] at hb
      split at hb
      · rename_i c hc
        rcases addB_sets b hb with e | ⟨d, hd, e⟩
        · rw [e]; exact h c (List.mem_of_getElem? hc)
        · rw [e]; exact ih d hd
      · exact ih b hb
  intro b hb
  unfold cutB at hb
  split at hb
  · simp at hb
  · exact key _ _ _ b hb
theorem cutB_len {l : List Blk} {i j : Int} : (cutB l i j).length ≤ l.length := by
  unfold cutB; split
  · simp
  · exact cutT_len _ _ _ _
theorem pl_cut_len {l : List Blk} (hn : NonNeg l) (hb : (pl l).length ≤ big) (i j : Int) : (pl (cutB l i j)).length ≤ (pl l).length := by
  rw [(cutB_pl hn hb i j).1]; simp; omega
theorem OBlks.reads {B : Nat} {w : World} {v : Value} {l : List Blk} (h : OBlks B w v l) : RBlks (fun b => b < w.heap.size) (fun b => b < w.heap.size) w v l :=
  SlR.sub (OBlks.sl h) (fun b hb _ => hb) (by decide) fun r x hx => hx.mod (Mod.refl (fun _ => False) _) (fun _ _ _ h => h) fun b hb _ => hb
theorem RBlks.mod {S D M : Nat → Prop} {w w' : World} {v : Value} {l : List Blk} (h : RBlks S D w v l) (hm : Mod M w w') (hS : ∀ b, b < w.heap.size → S b → ¬ M b) (hD : ∀ b, b < w.heap.size → D b → ¬ M b) : RBlks S D w' v l :=
  SlR.mono h (fun _ _ h => h) (fun b hb hs => hm.same b hb (hS b hb hs)) (by decide) fun _ _ hx => hx.mod hm hD fun _ _ h => h
theorem take_drop_min {α : Type} (l : List α) (i j k : Nat) (hi : i ≤ j) : ((l.take j).drop i).take k = (l.take (min (i + k) j)).drop i := by
  rw [List.drop_take, List.take_take, List.drop_take]
  congr 1
  omega
open Classical in
theorem BlocksCuts_ok {S D : Nat → Prop} {w : World} {a : Value} {l : List Blk} {i j k : Int} (ha : RBlks S D w a l) (wi : (Lit.int .i64 i).wf = true) (wj : (Lit.int .i64 j).wf = true) (wk : (Lit.int .i64 k).wf = true) :
    callK Try.prog 6 [a, .int .i64 i, .int .i64 j, .int .i64 k] (fun v w' => v = .bool true ∧ Grow w w') w := by
  apply S6_ok
  unfold S6
  have kn : ∀ {w1}, Grow w w1 → callK Try.prog 14 [] (fun v w' => v = .bool true ∧ Grow w w') w1 := fun hg => callK_mono known_ok fun v w' ⟨e, h⟩ => ⟨e, hg.trans h⟩
  refine callK_mono (tame_ok ha) ?_
  rintro v1 w1 ⟨rfl, g1⟩
  simp only [KS]
  by_cases tl : TameB l
  · rw [if_neg (fun h => h tl)]
    have hl200 := tl.1
    have sl := tl.sets
    have hnn := tl.nn
    have hle := tl.le
    have hbg := tl.big
    obtain ⟨jpl, jnn⟩ := joinB_pl hle
    have jpr := joinB_prop hle
    have szs : ∀ {m : List Blk}, (∀ b ∈ m, b.set.length ≤ 30) → ∀ b ∈ m, b.set.length * 48 ≤ 140737488355328 := fun h b hb => by have := h b hb; omega
    refine callK_mono (len_blk (ha.grow g1)) ?_
    rintro v2 w2 ⟨rfl, g2⟩
    rw [atB_len hnn hle]
    have g02 := g1.trans g2
    simp only [KS]
    rw [if_neg (show ¬ ((pl l).length : Int) < 0 by omega)]
    obtain ⟨n, hn⟩ : ∃ n, (pl l).length = n := ⟨_, rfl⟩
    have clamp : ∀ x : Int, ∃ y : Nat, y ≤ n ∧ (if (n : Int) < (if (0 : Int) > x then (0 : Int) else x) then (n : Int) else (if (0 : Int) > x then (0 : Int) else x)) = (y : Int) := by
      intro x
      refine ⟨min x.toNat n, by omega, ?_⟩
      split <;> split <;> omega
    rw [hn]
    obtain ⟨i', hi', ei⟩ := clamp i
    obtain ⟨j', hj', ej⟩ := clamp j
    obtain ⟨k', hk', ek⟩ := clamp k
    rw [ei, ej, ek]
    refine callK_mono (join_blk (ha.grow g02) (by omega) (szs sl)) ?_
    rintro v3 w3 ⟨o3, g3⟩
    have g03 := g02.trans g3
    refine callK_mono (cut_blk (ha.grow g03) (by omega) (szs sl)) ?_
    rintro v4 w4 ⟨o4, g4⟩
    have g04 := g03.trans g4
    refine callK_mono (cut_blk (ha.grow g04) (by omega) (szs sl)) ?_
    rintro v5 w5 ⟨o5, g5⟩
    have g05 := g04.trans g5
    obtain ⟨c1, q1⟩ := cutB_pl hnn hle 0 i'
    obtain ⟨c2, q2⟩ := cutB_pl hnn hle i' n
    have len1 := cutB_len (l := l) (i := 0) (j := i')
    have len2 := cutB_len (l := l) (i := i') (j := n)
    have set1 := cutB_sets (i := 0) (j := i') sl
    have set2 := cutB_sets (i := i') (j := n) sl
    have o4' := o4.grow g5 fun _ _ _ h => h
    refine app_blk o4' o5 (by have := g4.size; omega) (fun g hg => by have := (OBlks.ownB o4 g hg).2; omega) (by have := g4.size; have := g5.size; omega) (by omega) fun v6 w6 o6 m6 => ?_
    have g06 : Grow w w6 := g05.next m6 fun b hb e => by have := (OBlks.ownB o4 b e).1; have := g03.size; omega
    have set6 : ∀ b ∈ cutB l 0 i' ++ cutB l i' n, b.set.length ≤ 30 := fun b hb => by
      rcases List.mem_append.1 hb with hb | hb
      · exact set1 b hb
      · exact set2 b hb
    have pl6 : pl (cutB l 0 i' ++ cutB l i' n) = pl l := by
      rw [pl_append, c1, c2]
      simp only [Int.toNat_zero, List.drop_zero, Int.toNat_natCast]
      rw [← hn, List.take_length, List.take_append_drop]
    have r3 : RBlks (fun b => b < w3.heap.size) (fun b => b < w3.heap.size) w6 v3 (joinB l) := ((OBlks.reads o3).grow (g4.trans g5)).mod m6 (fun b _ hb e => by have := (OBlks.ownB o4 b e).1; omega) fun b _ hb e => by have := (OBlks.ownB o4 b e).1; omega
    refine JoinK_i (fun vs w1 => Grow w w1) ?_ ?_
    · rintro vs w7 g7 _
      refine JoinK_i (fun vs w1 => ∃ x y : Nat, x ≤ y ∧ y ≤ n ∧ vs = [.int .i64 x, .int .i64 y] ∧ Grow w w1) ?_ ?_
      · rintro vs w8 ⟨x, y, hxy, hyn, rfl, g8⟩ _
        simp only [KS]
        refine callK_mono (cut_blk (ha.grow g8) (by omega) (szs sl)) ?_
        rintro v9 w9 ⟨o9, g9⟩
        have g09 := g8.trans g9
        obtain ⟨cp, cpr⟩ := cutB_pl hnn hle (x : Int) (y : Int)
        simp only [Int.toNat_natCast] at cp
        have cln : (pl (cutB l x y)).length = y - x := by rw [cp]; simp; omega
        have cle : (pl (cutB l x y)).length ≤ big := by rw [cln]; simp only [big]; omega
        have clen := cutB_len (l := l) (i := x) (j := y)
        have cset := cutB_sets (i := x) (j := y) sl
        have cnn := propL_nonneg _ cpr
        refine callK_mono (len_blk (OBlks.sl o9)) ?_
        rintro v10 w10 ⟨rfl, g10⟩
        rw [atB_len cnn cle, cln]
        simp only [KS]
        rw [wrap64 (x := (y : Int) - x) (by omega) (by omega)]
        rw [if_pos (show ((y - x : Nat) : Int) = (y : Int) - x by omega)]
        have o10 := o9.grow g10 fun _ _ _ h => h
        have g010 := g09.trans g10
        refine callK_mono (cut_blk (OBlks.sl o10) (by omega) (szs cset)) ?_
        rintro v11 w11 ⟨o11, g11⟩
        have g011 := g010.trans g11
        rw [wrap64 (x := (x : Int) + k') (by omega) (by omega)]
        have hmin : (if (y : Int) < (x : Int) + k' then (y : Int) else (x : Int) + k') = ((min (x + k') y : Nat) : Int) := by split <;> omega
        rw [hmin]
        refine callK_mono (cut_blk (ha.grow g011) (by omega) (szs sl)) ?_
        rintro v12 w12 ⟨o12, g12⟩
        refine callK_mono (rsame_blk (RBlks.grow (OBlks.reads o11) g12) (OBlks.sl o12)) ?_
        rintro v13 w13 ⟨rfl, g13⟩
        have e : cutB (cutB l x y) 0 k' = cutB l x ((min (x + k') y : Nat) : Int) := by
          obtain ⟨d1, d2⟩ := cutB_pl cnn cle 0 (k' : Int)
          obtain ⟨d3, d4⟩ := cutB_pl hnn hle (x : Int) ((min (x + k') y : Nat) : Int)
          refine uniq _ _ d2 d4 ?_
          rw [d1, d3, cp]
          simp only [Int.toNat_natCast, Int.toNat_zero, List.drop_zero]
          exact take_drop_min _ _ _ _ hxy
        rw [e, decide_eq_true rfl]
        exact kn ((g011.trans g12).trans g13)
      · by_cases hgt : (j' : Int) < i'
        · rw [if_pos hgt]; exact ⟨j', i', by omega, by omega, rfl, g7⟩
        · rw [if_neg hgt]; exact ⟨i', j', by omega, by omega, rfl, g7⟩
    · refine callK_mono (join_blk o6 (by simp; omega) (szs set6)) ?_
      rintro v7 w7 ⟨o7, g7⟩
      have r3' := RBlks.grow r3 g7
      refine callK_mono (rsame_blk (OBlks.sl o7) r3') ?_
      rintro v8 w8 ⟨rfl, g8⟩
      rw [decide_eq_true ((join_same (by rw [pl6]; exact hle) hle).2 pl6)]
      simp only [KS]
      have r8 := RBlks.grow r3' g8
      have jlen := joinB_len l
      refine callK_mono (join_blk r8 (by omega) (szs (joinB_sets sl))) ?_
      rintro v9 w9 ⟨o9, g9⟩
      have r9 := RBlks.grow r8 g9
      refine callK_mono (rsame_blk (OBlks.sl o9) r9) ?_
      rintro v10 w10 ⟨rfl, g10⟩
      rw [decide_eq_true ((join_same (by rw [jpl]; exact hle) hle).2 jpl)]
      simp only [KS]
      have r10 := RBlks.grow r9 g10
      refine callK_mono (proper_blk r10) ?_
      rintro v11 w11 ⟨rfl, g11⟩
      rw [decide_eq_true ((propL_iff _).2 jpr)]
      simp only [KS]
      exact ((((g06.trans g7).trans g8).trans g9).trans g10).trans g11
  · rw [if_pos tl]; exact kn g1
end Go.Proofs.Ytmfplfaeibehiaa

namespace Go.Proofs.Ytmfplfaeibehiaa
open Go Go.K

/-- a set appended to an empty one of one's own -/
theorem app_set {S : Nat → Prop} {B : Nat} {w : World} {v sv : Value} {set : List Attr} {K : Cont} (ho : OSet B w v []) (hs : RSet S w sv set) (hB : B ≤ w.heap.size) (hset : set.length * 48 ≤ 140737488355328)
    (hK : ∀ v' w', OSet B w' v' set → Mod (fun b => B ≤ b) w w' → K v' w') :
    runK Try.prog (Builtin.append_ #[24, 24] 24 [v, sv].toArray) K w := by
  have hm : set.length ≤ maxLen := by obtain ⟨_, _, _, h⟩ := hs.shape; exact h
  obtain ⟨v', w', h1, h2, h3, h4⟩ := OwnR.append (ty := 24) elem_attr ho hs (fun _ _ => RAttr.one) (by simpa using hset) hB (by simpa using hm) (fun _ _ _ _ h => h)
  exact runK_i h1 (hK v' w' h2 ((Mod.of_grownBy h3).mono fun b _ e => (OwnR.ownB ho b e).1))
/-- rubricref12.Copy -/
theorem rcopy_blk {S D : Nat → Prop} {w : World} {v : Value} {l : List Blk} (h : RBlks S D w v l) (hl : l.length < 4398046511104) (hset : ∀ b ∈ l, b.set.length * 48 ≤ 140737488355328) :
    callK Try.prog 25 [v] (fun v' w' => OBlks w.heap.size w' v' l ∧ Grow w w') w := by
  apply S25_ok
  unfold S25
  obtain ⟨a, c, rfl, hm⟩ := h.shape
  refine LoopK_i (fun vs w1 => ∃ (k : Nat) (out : Value), k ≤ l.length ∧ vs = [out, .int .i64 k] ∧ OBlks w.heap.size w1 out (l.take k) ∧ Grow w w1) (fun vs _ => l.length - iOf vs 1) ⟨0, _, Nat.zero_le _, rfl, OwnR.nil, Mod.refl _ _⟩ ?_
  rintro vs w1 ⟨k, out, hk, rfl, ho, hg⟩ _
  simp only [KS]
  by_cases hlt : k < l.length
  · rw [if_pos (show (k : Int) < l.length by omega)]
    obtain ⟨p, r, rfl, hS, hr, hc, sv, rfl, hs⟩ := ((h.old (by decide)).get hlt)
    have hgd : Grow w w1.drew := hg.trans (Mod.drew _ _)
    have ho1 : OBlks w.heap.size w1.drew out (l.take k) := OBlks.grow ho (Mod.drew (fun _ => False) _) fun _ _ _ h => h
    refine ⟨fun _ b => w.heap.size ≤ b, ?_⟩
    generalize w1.drew = w2 at hgd ho1 ⊢
    have stay : ∀ x, ¬ w.heap.size ≤ (p.add x).block := fun x e => by rw [add_block] at e; omega
    refine ixK_n hlt ?_
    simp only [KS]
    refine ⟨_, _, rfl, ⟨hgd.cell (hc 0 _ rfl) fun h => h, fun j _ => stay _⟩, ?_⟩
    refine rowK_empty ?_
    have gE : Grow w2 (w2.alloc (.cells #[] 46)) := Mod.alloc _ _ _
    have oE : OSet w2.heap.size (w2.alloc (.cells #[] 46)) (.slice (some ⟨w2.heap.size, 0, none⟩) 0 0) [] := OwnR.made (Nat.le_refl _)
    have zE : (w2.alloc (.cells #[] 46)).heap.size = w2.heap.size + 1 := by simp
    generalize w2.alloc (.cells #[] 46) = w3 at gE oE zE ⊢
    refine ⟨Grow.mod gE, ?_⟩
    refine ixK_n hlt ?_
    simp only [KS]
    refine ⟨_, _, rfl, ⟨hgd.cell (hc 1 _ rfl) fun h => h, fun j _ => stay _⟩, ?_⟩
    have hz2 := hgd.size
    refine app_set oE ((hs.grow hgd (by decide) fun _ _ h => h).grow gE (by decide) fun _ _ h => h) (by omega) (hset _ (by simp)) fun v4 w4 o4 m4 => ?_
    refine ⟨m4.mono fun b _ e => by omega, ?_⟩
    have g24 : Grow w2 w4 := gE.next m4 fun b hb e => by omega
    have hz4 := m4.size
    have hv4 : ∃ sa sc, v4 = .slice sa l[k].set.length sc := by obtain ⟨sa, sc, e, _⟩ := OwnR.shape o4; exact ⟨sa, sc, e⟩
    refine ⟨#[.int .i64 l[k].n, v4], ?_, ?_⟩
    · obtain ⟨sa, sc, rfl⟩ := hv4; kernel_rfl
    have ho4 : OBlks w.heap.size w4 out (l.take k) := ho1.grow g24 fun _ _ _ h => h
    refine push_blk2 ho4 (by omega) (OwnR.base o4 fun g _ => Nat.zero_le _) (fun g hg => ?_) (by simp; omega) (fun w5 g5 => Grow.mod g5) fun w5 v' w' g5 k1 k2 k3 _ => ⟨k2.mono fun b _ e => (OBlks.ownB ho4 b e).1, ?_⟩
    · have h1 := OwnR.ownB o4 g hg
      exact ⟨by omega, fun e => by have := (OBlks.ownB ho1 g e).2; omega, h1.2⟩
    refine ⟨⟨k + 1, v', by omega, by rw [wrap64 (by omega) (by simp only [maxLen] at hm; omega)]; rfl, ?_, ?_⟩, ?_⟩
    · rw [List.take_add_one, List.getElem?_eq_getElem hlt]; exact k1
    · exact (hgd.trans g24).next k3 fun b hb e => by have := (OBlks.ownB ho4 b e).1; omega
    · simp only [iOf, nth, List.headD_cons, List.tail_cons]; rw [wrap64 (by omega) (by simp only [maxLen] at hm; omega)]; omega
  · rw [if_neg (show ¬ (k : Int) < l.length by omega)]
    have : k = l.length := by omega
    subst this
    rw [List.take_length] at ho
    exact ⟨ho, hg⟩
/-- the document's cut -/
def rcutB (l : List Blk) (i j : Int) : List Blk := if maxI i 0 < j then cutT l (maxI i 0) j l.length else []
/-- rubricref12.Cut -/
theorem rcut_blk {S D : Nat → Prop} {w : World} {v : Value} {l : List Blk} {i j : Int} (h : RBlks S D w v l) (hl : l.length < 4398046511104) (hset : ∀ b ∈ l, b.set.length * 48 ≤ 140737488355328) :
    callK Try.prog 27 [v, .int .i64 i, .int .i64 j] (fun v' w' => OBlks w.heap.size w' v' (rcutB l i j) ∧ Grow w w') w := by
  apply S27_ok
  unfold S27
  obtain ⟨a, c, rfl, hm⟩ := h.shape
  simp only [maxLen] at hm
  refine JoinK_i (fun vs w1 => vs = [.int .i64 (maxI i 0)] ∧ w1 = w) ?_ ?_
  · rintro vs _ ⟨rfl, rfl⟩ _
    rename World => w
    generalize hi' : maxI i 0 = i'
    refine LoopK_i (fun vs w1 => ∃ (k : Nat) (out : Value), k ≤ l.length ∧ vs = [out, .int .i64 (atB l k), .int .i64 k] ∧ OBlks w.heap.size w1 out (cutT l i' j k) ∧ Grow w w1 ∧ (0 < k → i' < j)) (fun vs _ => l.length - iOf vs 2) ⟨0, _, Nat.zero_le _, rfl, OwnR.nil, Mod.refl _ _, fun h => by omega⟩ ?_
    rintro vs w1 ⟨k, out, hk, rfl, ho, hg, hij⟩ _
    simp only [KS]
    refine JoinK_i (fun vs w2 => w2 = w1 ∧ k < l.length ∧ i' < j) ?_ ?_
    · rintro vs _ ⟨rfl, hlt, hij'⟩ _
      rename World => w1
      obtain ⟨p, r, rfl, hS, hr, hc, sv, rfl, hs⟩ := h.get hlt
      refine ⟨fun w3 => Grow w1 w3, Mod.drew _ _, ?_⟩
      refine ixK_n hlt ?_
      simp only [KS]
      refine qld1K_i (fun w3 h3 => h3.cell (hg.cell (hc 0 _ rfl) fun h => h) fun h => h) ?_
      simp only [KS]
      rw [← atB_succ hlt]
      intro w3 h3
      refine JoinK_i (fun vs w4 => vs = [.int .i64 (maxI (atB l k) i')] ∧ w4 = w3) ?_ ?_
      · rintro vs _ ⟨rfl, rfl⟩ _
        rename World => w3
        refine JoinK_i (fun vs w4 => vs = [.int .i64 (minI (atB l (k + 1)) j)] ∧ w4 = w3) ?_ ?_
        · rintro vs _ ⟨rfl, rfl⟩ _
          rename World => w3
          have hg3 := hg.trans h3
          simp only [KS]
          refine ixK_n hlt ?_
          simp only [KS]
          refine ld1K_i (hg3.cell (hc 1 _ rfl) fun h => h) ?_
          refine callK_mono (radd_next (ho.grow h3 fun _ _ _ h => h) hg3 hs (by have := cutT_len l i' j k; omega) (hset _ (by simp))) ?_
          rintro v' w' ⟨h1, h2, _⟩
          refine ⟨⟨k + 1, v', by omega, by rw [wrap64 (x := (k : Int) + 1) (by omega) (by omega)]; rfl, by rw [cutT_succ hlt]; exact h1, h2, fun _ => hij'⟩, ?_⟩
          simp only [iOf, nth, List.headD_cons, List.tail_cons]; rw [wrap64 (x := (k : Int) + 1) (by omega) (by omega)]; omega
        · simp only [minI]
          split
          · exact ⟨by trivial, by trivial⟩
          · exact ⟨by trivial, by trivial⟩
      · simp only [maxI]
        by_cases hlt' : atB l k < i'
        · rw [if_pos hlt', if_pos hlt']; exact ⟨by trivial, by trivial⟩
        · rw [if_neg hlt', if_neg hlt']; exact ⟨by trivial, by trivial⟩
    · by_cases hlt : k < l.length
      · rw [if_pos (show (k : Int) < l.length by omega)]
        by_cases hij' : i' < j
        · rw [if_pos hij']; exact ⟨rfl, hlt, hij'⟩
        · rw [if_neg hij']
          have hk0 : k = 0 := by
            rcases Nat.eq_zero_or_pos k with h | h
            · exact h
            · exact (hij' (hij h)).elim
          subst hk0
          refine ⟨?_, hg⟩
          unfold rcutB; rw [hi', if_neg hij']; exact ho
      · rw [if_neg (show ¬ (k : Int) < l.length by omega)]
        have hke : k = l.length := by omega
        subst hke
        refine ⟨?_, hg⟩
        unfold rcutB
        rw [hi']
        by_cases hij' : i' < j
        · rw [if_pos hij']; exact ho
        · rw [if_neg hij']
          rcases Nat.eq_zero_or_pos l.length with h0 | h0
          · rw [h0] at ho; exact ho
          · exact (hij' (hij h0)).elim
  · simp only [KS, maxI]
    by_cases h0 : i < 0
    · rw [if_pos h0, if_pos h0]; exact ⟨by trivial, by trivial⟩
    · rw [if_neg h0, if_neg h0]; exact ⟨by trivial, by trivial⟩
end Go.Proofs.Ytmfplfaeibehiaa

namespace Go.K
open Go
theorem condK_p {p : Prop} [Decidable p] {A B : Prop} (h1 : p → A) (h2 : ¬ p → B) : condK (.bool (decide p)) A B := by
  rw [condK_d]; split
  · exact h1 (by assumption)
  · exact h2 (by assumption)
theorem addr0 (g x : Nat) : (⟨g, 0, none⟩ : Addr).add x = ⟨g, x, none⟩ := by unfold Addr.add; split <;> simp_all
/-- a comparison whose both ways go well; the numbers stay closed -/
theorem ltK_ab {q : IntKind} {a b : Int} {A B : Prop} (hA : A) (hB : B) : ltK q (.int q a) (.int q b) fun t => condK t A B := by
  rw [ltK_i]; exact condK_p (fun _ => hA) fun _ => hB
/-- a cell that is there and may be written -/
def Live (w : World) (a : Addr) : Prop := (w.cell? a).isSome = true ∧ w.frozen? a = false
theorem Live.set {w : World} {a : Addr} (h : Live w a) (b : Addr) (u : Value) : Live (w.setCell b u) a := by
  refine ⟨?_, by rw [World.frozen?_setCell]; exact h.2⟩
  obtain ⟨v, hv⟩ := Option.isSome_iff_exists.1 h.1
  by_cases e : b = a
  · subst e; rw [World.cell?_setCell_same w _ u hv]; rfl
  · rw [World.cell?_setCell_other w _ _ u e, hv]; rfl
theorem Live.mod {M : Nat → Prop} {w w' : World} {a : Addr} (h : Live w a) (hm : Mod M w w') (hn : ¬ M a.block) : Live w' a := by
  obtain ⟨v, hv⟩ := Option.isSome_iff_exists.1 h.1
  exact ⟨by rw [hm.cell hv hn]; rfl, (hm.frozen (World.block_lt_of_cell? w a hv) hn).trans h.2⟩
theorem Live.st {w : World} {a : Addr} {u : Value} {K : World → Prop} (h : Live w a) (h1 : u.oneCell' = true) (h2 : u.cells = #[u]) (hK : K (w.setCell a u)) : st1K (.pointer (some a)) u K w := by
  obtain ⟨v, hv⟩ := Option.isSome_iff_exists.1 h.1
  exact st1K_i h1 h2 hv h.2 hK
theorem OwnR.live {α : Type} {B e k : Nat} {R : World → List Value → α → Prop} {w : World} {a : Option Addr} {n c : Nat} {l : List α} (h : OwnR B e k R w (.slice a n c) l) {i j : Nat} (hi : i < l.length) (hj : j < k) :
    ∃ g, a = some ⟨g, 0, none⟩ ∧ n = l.length ∧ Live w ((⟨g, 0, none⟩ : Addr).add (i * k + j)) := by
  obtain ⟨rows, h1, h2, h3, h4⟩ := h
  have hrl : ∀ r ∈ rows, r.length = k := fun r hr => (h3 r hr).1
  have hsh : ∃ g, a = some ⟨g, 0, none⟩ ∧ n = l.length := by
    rcases h1.2 with ⟨h', hn⟩ | ⟨g', cap', cur, h', _⟩
    · omega
    · simp only [Value.slice.injEq] at h'; exact ⟨g', h'.1, h'.2.1⟩
  obtain ⟨g, rfl, rfl⟩ := hsh
  refine ⟨g, rfl, rfl, ?_⟩
  have hadd : (⟨g, 0, none⟩ : Addr).add (i * k + j) = ⟨g, i * k + j, none⟩ := by unfold Addr.add; split <;> simp_all
  have hlt : i * k + j < l.length * k := by
    have : (i + 1) * k ≤ l.length * k := Nat.mul_le_mul_right _ hi
    rw [Nat.add_mul] at this; omega
  rw [hadd]
  refine ⟨?_, h1.frozenAt _⟩
  rw [h1.cellAt _ hlt]
  simp [flat_len rows hrl, h2, hlt]
/-- the loop that writes one cell of each element -/
theorem wr_loop {sz off : Nat} {v u : Value} {n : Nat} {M : Nat → Prop} {w : World} {Rest : World → Prop} (J : World → Prop) (h1 : u.oneCell' = true) (h2 : u.cells = #[u]) (hn : (n : Int) ≤ 9223372036854775806) (hJ : J w)
    (hs : ∀ W, J W → ∀ i, i < n → ∃ p c, v = .slice (some p) n c ∧ Live W (p.add (i * sz + off)) ∧ J (W.setCell (p.add (i * sz + off)) u)) (hR : ∀ W, J W → Rest W) :
    LoopK [.int .i64 0] (fun vs again w17 => ∀ _ : Env, ltK .i64 (nth vs 0) (.int .i64 n) fun t114 => condK t114 (ixK sz v (nth vs 0) fun t118 => faK off t118 fun t119 => st1K t119 u (fun w18 => addK .i64 (nth vs 0) (.int .i64 1) fun t120 => again [t120] w18) w17) (Rest w17)) w := by
  refine LoopK_i (fun vs w1 => ∃ k : Nat, k ≤ n ∧ vs = [.int .i64 k] ∧ J w1) (fun vs _ => n - iOf vs 0) ⟨0, Nat.zero_le _, rfl, hJ⟩ ?_
  rintro vs w1 ⟨k, hk, rfl, hj⟩ _
  simp only [KS]
  by_cases hlt : k < n
  · rw [if_pos (show (k : Int) < n by omega)]
    obtain ⟨p, c, rfl, hl, hj'⟩ := hs w1 hj k hlt
    refine ixK_n hlt ?_
    simp only [KS]
    refine hl.st h1 h2 ?_
    refine ⟨⟨k + 1, by omega, by rw [wrap64 (by omega) (by omega)]; rfl, hj'⟩, ?_⟩
    simp only [iOf, nth, List.headD_cons]; rw [wrap64 (by omega) (by omega)]; omega
  · rw [if_neg (show ¬ (k : Int) < n by omega)]
    exact hR w1 hj
end Go.K

namespace Go.Proofs.Ytmfplfaeibehiaa
open Go Go.K

structure Chg where
  key : Int
  gone : Bool
  val : AVal
  deriving DecidableEq
def Chg.cells (a : Chg) : List Value := .int .i64 a.key :: .bool a.gone :: a.val.cells
theorem Chg.cells_len (a : Chg) : a.cells.length = 6 := rfl
abbrev RChg : World → List Value → Chg → Prop := fun _ r x => r = x.cells
abbrev RRune : World → List Value → Int → Prop := fun _ r x => r = [.int .i32 x]
/-- runes, patches in memory -/
abbrev RRun (S : Nat → Prop) (w : World) (v : Value) (l : List Int) : Prop := SlR S 1 RRune w v l
abbrev RPat (S : Nat → Prop) (w : World) (v : Value) (l : List Chg) : Prop := SlR S 6 RChg w v l
theorem RRune.one {w : World} {r : List Value} {x : Int} (h : RRune w r x) : ∀ u ∈ r, u.oneCell' = true := by
  subst h; intro u hu; simp at hu; subst hu; rfl
theorem RChg.one {w : World} {r : List Value} {x : Chg} (h : RChg w r x) : ∀ u ∈ r, u.oneCell' = true := by
  intro u hu
  subst h
  simp only [Chg.cells, AVal.cells, List.mem_cons, List.not_mem_nil, or_false] at hu
  rcases hu with rfl | rfl | rfl | rfl | rfl | rfl <;> rfl
theorem elem_rune : ElemOK Try.prog 56 21 1 4 := ⟨Try.t21, .int .i32 0, by kernel_rfl, by kernel_rfl, by kernel_rfl, by kernel_rfl, by kernel_rfl, by rfl, by decide⟩
theorem elem_chg : ElemOK Try.prog 57 61 6 56 := ⟨Try.t61, .agg #[.int .i64 0, .bool false, .int .u8 0, .int .i64 0, .int .u64 0, .string ⟨#[]⟩], by kernel_rfl, by kernel_rfl, by kernel_rfl, by kernel_rfl, by kernel_rfl, by rfl, by decide⟩

theorem eqIn_val (n : Nat) (x y : AVal) (w : World) :
    (Op.equalIn (n + 2) 44 (.agg x.cells.toArray) (.agg y.cells.toArray)).run Try.prog w = .ok (decide (x = y)) w := by
  have hV : Try.prog.underlying 44 = some (.struct (Try.prog.fieldsOf 44)) := by kernel_rfl
  have u2 := Try.underlying5
  have u3 := Try.underlying2
  have u4 := Try.underlying42
  have u5 := Try.underlying9
  have a3 := Try.isAgg5
  have a4 := Try.isAgg2
  have a5 := Try.isAgg42
  have a6 := Try.isAgg9
  rw [run_equalIn_agg w (n + 1) _ _ _ hV Try.stoodInHeld44]
  simp only [Program.fieldsOf, Try.underlying44, AVal.cells]
  have e1 : ∀ a b : Int, (Op.equalIn (n + 1) 5 (.int .u8 a) (.int .u8 b)).run Try.prog w = .ok (a == b) w := fun a b => run_equalIn_int w n _ _ _ a b u2
  have e2 : ∀ a b : Int, (Op.equalIn (n + 1) 2 (.int .i64 a) (.int .i64 b)).run Try.prog w = .ok (a == b) w := fun a b => run_equalIn_int w n _ _ _ a b u3
  have e3 : ∀ a b : Int, (Op.equalIn (n + 1) 42 (.int .u64 a) (.int .u64 b)).run Try.prog w = .ok (a == b) w := fun a b => run_equalIn_int w n _ _ _ a b u4
  have e4 : ∀ a b : ByteArray, (Op.equalIn (n + 1) 9 (.string a) (.string b)).run Try.prog w = .ok (a.toList == b.toList) w := fun a b => run_equalIn_string w n _ a b u5
  have q : decide (x = y) = (x.kind == y.kind && (x.n == y.n && (x.f == y.f && decide (x.s = y.s)))) := by
    cases x; cases y
    rw [Bool.eq_iff_iff]
    simp [AVal.mk.injEq]
  rw [q]
  simp [Op.eqFields, part, a3, a4, a5, a6, e1, e2, e3, e4, toList_beq]
  by_cases h1 : x.kind = y.kind <;> by_cases h2 : x.n = y.n <;> by_cases h3 : x.f = y.f <;> by_cases h4 : x.s = y.s <;> simp [h1, h2, h3, h4]
theorem eqIn_chg (a b : Chg) (w : World) :
    (Op.equalIn 10000 61 (.agg a.cells.toArray) (.agg b.cells.toArray)).run Try.prog w = .ok (decide (a = b)) w := by
  have hS : Try.prog.underlying 61 = some (.struct (Try.prog.fieldsOf 61)) := by kernel_rfl
  rw [show (10000 : Nat) = 9999 + 1 from rfl, run_equalIn_agg w 9999 _ _ _ hS Try.stoodInHeld61]
  simp only [Program.fieldsOf, Try.underlying61, Chg.cells, AVal.cells]
  have a1 := Try.isAgg3
  have a2 := Try.isAgg44
  have a3 := Try.isAgg4
  have z2 : ∀ w, (sizeOf 44).run Try.prog w = .ok 4 w := fun w => by simp only [sizeOf, Sem.run_bind, Try.typeInfo44, Result.andThen_ok, Sem.run_pure]; rfl
  have e1 : ∀ a b : Int, (Op.equalIn 9999 3 (.int .i64 a) (.int .i64 b)).run Try.prog w = .ok (a == b) w := fun a b => run_equalIn_int w 9998 _ _ _ a b Try.underlying3
  have e2 : ∀ a b : Bool, (Op.equalIn 9999 4 (.bool a) (.bool b)).run Try.prog w = .ok (a == b) w := fun a b => run_equalIn_bool w 9998 _ a b Try.underlying4
  have e3 : (Op.equalIn 9999 44 (.agg #[.int .u8 a.val.kind, .int .i64 a.val.n, .int .u64 a.val.f, .string a.val.s]) (.agg #[.int .u8 b.val.kind, .int .i64 b.val.n, .int .u64 b.val.f, .string b.val.s])).run Try.prog w = .ok (decide (a.val = b.val)) w := eqIn_val 9997 a.val b.val w
  have x1 : ∀ k l q r s t : Value, (#[k, l, q, r, s, t] : Array Value).extract 2 6 = #[q, r, s, t] := fun _ _ _ _ _ _ => rfl
  have q : decide (a = b) = (a.key == b.key && (a.gone == b.gone && decide (a.val = b.val))) := by
    cases a; cases b
    rw [Bool.eq_iff_iff]
    simp [Chg.mk.injEq]
  rw [q]
  simp [Op.eqFields, part, a1, a2, a3, z2, e1, e2, e3, x1]
  by_cases h1 : a.key = b.key <;> by_cases h2 : a.gone = b.gone <;> by_cases h3 : a.val = b.val <;> simp [h1, h2, h3]
theorem run_ne_chg (xo yo : Operand) (a b : Chg) (w : World) :
    (binS .neq 61 xo yo (.agg a.cells.toArray) (.agg b.cells.toArray)).run Try.prog w = .ok (.bool (!decide (a = b))) w := by
  simp only [binS, Sem.run_bind, run_eqGuard_agg w .neq _ xo yo _ _ Try.eqGuardType61, Result.andThen_ok]
  rw [run_neq_struct, eqIn_chg]; rfl
theorem run_eq_val (xo yo : Operand) (a b : AVal) (w : World) :
    (binS .eql 44 xo yo (.agg a.cells.toArray) (.agg b.cells.toArray)).run Try.prog w = .ok (.bool (decide (a = b))) w := by
  simp only [binS, Sem.run_bind, run_eqGuard_agg w .eql _ xo yo _ _ Try.eqGuardType44, Result.andThen_ok]
  rw [run_eql_struct, eqIn_val 9998]; rfl
theorem run_ne_val (xo yo : Operand) (a b : AVal) (w : World) :
    (binS .neq 44 xo yo (.agg a.cells.toArray) (.agg b.cells.toArray)).run Try.prog w = .ok (.bool (!decide (a = b))) w := by
  simp only [binS, Sem.run_bind, run_eqGuard_agg w .neq _ xo yo _ _ Try.eqGuardType44, Result.andThen_ok]
  rw [run_neq_struct, eqIn_val 9998]; rfl

/-! ### ops -/
structure Dop where
  kind : Int
  n : Int
  runes : List Int
  set : List Attr
  patch : List Chg
  deriving DecidableEq
/-- an op's five cells, its lists in blocks of D -/
def RDop (D : Nat → Prop) (w : World) (r : List Value) (o : Dop) : Prop := ∃ rv sv pv, r = [.int .u8 o.kind, .int .i64 o.n, rv, sv, pv] ∧ RRun D w rv o.runes ∧ RSet D w sv o.set ∧ RPat D w pv o.patch
theorem RDop.one {D : Nat → Prop} {w : World} {r : List Value} {o : Dop} (h : RDop D w r o) : ∀ u ∈ r, u.oneCell' = true := by
  obtain ⟨rv, sv, pv, rfl, h1, h2, h3⟩ := h
  obtain ⟨a1, c1, rfl, _⟩ := h1.shape
  obtain ⟨a2, c2, rfl, _⟩ := h2.shape
  obtain ⟨a3, c3, rfl, _⟩ := h3.shape
  intro u hu
  simp only [List.mem_cons, List.not_mem_nil, or_false] at hu
  rcases hu with rfl | rfl | rfl | rfl | rfl <;> rfl
theorem RDop.mod {D D' M : Nat → Prop} {w w' : World} {r : List Value} {o : Dop} (h : RDop D w r o) (hm : Mod M w w') (hD : ∀ b, b < w.heap.size → D b → ¬ M b) (hD' : ∀ b, b < w.heap.size → D b → D' b) : RDop D' w' r o := by
  obtain ⟨rv, sv, pv, rfl, h1, h2, h3⟩ := h
  exact ⟨rv, sv, pv, rfl, h1.mono hD' (fun b hb hd => hm.same b hb (hD b hb hd)) (by decide) fun _ _ h => h, h2.mono hD' (fun b hb hd => hm.same b hb (hD b hb hd)) (by decide) fun _ _ h => h, h3.mono hD' (fun b hb hd => hm.same b hb (hD b hb hd)) (by decide) fun _ _ h => h⟩
theorem elem_dop : ElemOK Try.prog 50 59 5 88 := ⟨Try.t59, .agg #[.int .u8 0, .int .i64 0, .slice none 0 0, .slice none 0 0, .slice none 0 0], by kernel_rfl, by kernel_rfl, by kernel_rfl, by kernel_rfl, by kernel_rfl, by rfl, by decide⟩
/-- ops in memory: their row in S, what they hold in D -/
abbrev RDops (S D : Nat → Prop) (w : World) (v : Value) (l : List Dop) : Prop := SlR S 5 (RDop D) w v l
theorem RDops.grow {S D : Nat → Prop} {w w' : World} {v : Value} {l : List Dop} (h : RDops S D w v l) (hg : Grow w w') : RDops S D w' v l :=
  SlR.grow h hg (by decide) fun _ _ hx => hx.mod hg (fun _ _ _ h => h) fun _ _ h => h
theorem RDops.mod {S D M : Nat → Prop} {w w' : World} {v : Value} {l : List Dop} (h : RDops S D w v l) (hm : Mod M w w') (hS : ∀ b, b < w.heap.size → S b → ¬ M b) (hD : ∀ b, b < w.heap.size → D b → ¬ M b) : RDops S D w' v l :=
  SlR.mono h (fun _ _ h => h) (fun b hb hs => hm.same b hb (hS b hb hs)) (by decide) fun _ _ hx => hx.mod hm hD fun _ _ h => h
/-- an op's lists in rows of their own, which lie in D -/
def ODop (D : Nat → Prop) (w : World) (r : List Value) (o : Dop) : Prop := ∃ rv sv pv, r = [.int .u8 o.kind, .int .i64 o.n, rv, sv, pv] ∧
  (OwnR 0 21 1 RRune w rv o.runes ∧ ∀ g, rv.ownBlock = some g → D g) ∧ (OSet 0 w sv o.set ∧ ∀ g, sv.ownBlock = some g → D g) ∧ (OwnR 0 61 6 RChg w pv o.patch ∧ ∀ g, pv.ownBlock = some g → D g)
theorem own_rd {α : Type} {e k : Nat} {R : World → List Value → α → Prop} {D : Nat → Prop} {w : World} {v : Value} {l : List α} (hk : 0 < k) (h : OwnR 0 e k R w v l ∧ ∀ g, v.ownBlock = some g → D g) : SlR D k R w v l :=
  SlR.sub (OwnR.sl h.1) (fun g _ hg => h.2 g hg.2) hk fun _ _ h => h
theorem own_mod {α : Type} {e k : Nat} {R : World → List Value → α → Prop} {D D' M : Nat → Prop} {w w' : World} {v : Value} {l : List α} (h : OwnR 0 e k R w v l ∧ ∀ g, v.ownBlock = some g → D g) (hm : Mod M w w') (hD : ∀ b, b < w.heap.size → D b → ¬ M b) (hD' : ∀ b, b < w.heap.size → D b → D' b)
    (hR : ∀ r x, R w r x → R w' r x) : OwnR 0 e k R w' v l ∧ ∀ g, v.ownBlock = some g → D' g :=
  ⟨OwnR.mod h.1 hm (fun g hg => hD g (OwnR.ownB h.1 g hg).2 (h.2 g hg)) fun r x _ hx => hR r x hx, fun g hg => hD' g (OwnR.ownB h.1 g hg).2 (h.2 g hg)⟩
theorem ODop.rd {D : Nat → Prop} {w : World} {r : List Value} {o : Dop} (h : ODop D w r o) : RDop D w r o := by
  obtain ⟨rv, sv, pv, rfl, h1, h2, h3⟩ := h
  exact ⟨rv, sv, pv, rfl, own_rd (by decide) h1, own_rd (by decide) h2, own_rd (by decide) h3⟩
theorem ODop.one {D : Nat → Prop} {w : World} {r : List Value} {o : Dop} (h : ODop D w r o) : ∀ u ∈ r, u.oneCell' = true := h.rd.one
theorem ODop.mod {D D' M : Nat → Prop} {w w' : World} {r : List Value} {o : Dop} (h : ODop D w r o) (hm : Mod M w w') (hD : ∀ b, b < w.heap.size → D b → ¬ M b) (hD' : ∀ b, b < w.heap.size → D b → D' b) : ODop D' w' r o := by
  obtain ⟨rv, sv, pv, rfl, h1, h2, h3⟩ := h
  exact ⟨rv, sv, pv, rfl, own_mod h1 hm hD hD' fun _ _ h => h, own_mod h2 hm hD hD' fun _ _ h => h, own_mod h3 hm hD hD' fun _ _ h => h⟩
/-- ops in memory of their own from B on, what they hold too; none of that lies in the row -/
def ODops (B : Nat) (w : World) (v : Value) (l : List Dop) : Prop := OwnR B 59 5 (ODop fun b => B ≤ b ∧ v.ownBlock ≠ some b) w v l
theorem ODops.sl {B : Nat} {w : World} {v : Value} {l : List Dop} (h : ODops B w v l) : RDops (fun b => B ≤ b ∧ v.ownBlock = some b) (fun b => B ≤ b ∧ v.ownBlock ≠ some b) w v l :=
  SlR.sub (OwnR.sl h) (fun _ _ h => h) (by decide) fun _ _ h => h.rd
theorem ODops.grow {B : Nat} {w w' : World} {v : Value} {l : List Dop} {M : Nat → Prop} (h : ODops B w v l) (hm : Mod M w w') (hM : ∀ b, b < w.heap.size → B ≤ b → ¬ M b) : ODops B w' v l :=
  OwnR.mod h hm (fun g hg => hM g (OwnR.ownB h g hg).2 (OwnR.ownB h g hg).1) fun r x _ hx => hx.mod hm (fun b hb hd => hM b hb hd.1) fun _ _ h => h
theorem ODops.reads {B : Nat} {w : World} {v : Value} {l : List Dop} (h : ODops B w v l) : RDops (fun b => B ≤ b ∧ b < w.heap.size) (fun b => B ≤ b ∧ b < w.heap.size) w v l :=
  SlR.sub (ODops.sl h) (fun b hb h => ⟨h.1, hb⟩) (by decide) fun r x hx => hx.mod (Mod.refl (fun _ => False) _) (fun _ _ _ h => h) fun b hb h => ⟨h.1, hb⟩
/-! ### keys -/
structure DKey where
  id : Int
  block : Bool
  kind : Int
  after : Bool
  before : Bool
  group : Int
  deriving DecidableEq
def DKey.cells (k : DKey) : List Value := [.int .i64 k.id, .bool k.block, .int .u8 k.kind, .bool k.after, .bool k.before, .int .i64 k.group]
abbrev RKey : World → List Value → DKey → Prop := fun _ r x => r = x.cells
abbrev RKeys (S : Nat → Prop) (w : World) (v : Value) (l : List DKey) : Prop := SlR S 6 RKey w v l
theorem RKey.one {w : World} {r : List Value} {x : DKey} (h : RKey w r x) : ∀ u ∈ r, u.oneCell' = true := by
  intro u hu
  subst h
  simp only [DKey.cells, List.mem_cons, List.not_mem_nil, or_false] at hu
  rcases hu with rfl | rfl | rfl | rfl | rfl | rfl <;> rfl
/-- how much there is in an attribute, a change, an op -/
def mAttr (a : Attr) : Nat := a.val.s.size + 1
def mChg (a : Chg) : Nat := a.val.s.size + 1
def mSet (l : List Attr) : Nat := (l.map mAttr).sum
def mPat (l : List Chg) : Nat := (l.map mChg).sum
def mDop (o : Dop) : Nat := 1 + o.runes.length + mSet o.set + mPat o.patch
def mDops (l : List Dop) : Nat := (l.map mDop).sum
end Go.Proofs.Ytmfplfaeibehiaa
