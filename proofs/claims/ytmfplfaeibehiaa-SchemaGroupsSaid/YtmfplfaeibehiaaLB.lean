/- Plain laws of blocks: the places that blocks tell. No program in sight. -/
import Derived.Test.YtmfplfaeibehiaaPK
namespace Go.Proofs.Ytmfplfaeibehiaa
open Go Go.K

def rep (n : Int) (s : List Attr) : List (List Attr) := List.replicate n.toNat s
/-- the places that blocks tell, one by one -/
def pl (l : List Blk) : List (List Attr) := l.flatMap fun b => rep b.n b.set
def NonNeg (l : List Blk) : Prop := ∀ b ∈ l, 0 ≤ b.n
abbrev big : Nat := 4611686018427387904
theorem pl_nil : pl [] = [] := rfl
theorem pl_append (l m : List Blk) : pl (l ++ m) = pl l ++ pl m := by simp [pl]
theorem pl_one (b : Blk) : pl [b] = rep b.n b.set := by simp [pl]
theorem pl_cons (b : Blk) (l : List Blk) : pl (b :: l) = rep b.n b.set ++ pl l := by simp [pl]
theorem rep_len (n : Int) (s : List Attr) : (rep n s).length = n.toNat := by simp [rep]
theorem pl_take_le (l : List Blk) (k : Nat) : (pl (l.take k)).length ≤ (pl l).length := by
  have : pl l = pl (l.take k) ++ pl (l.drop k) := by rw [← pl_append, List.take_append_drop]
  rw [this, List.length_append]; omega
theorem pl_take_succ {l : List Blk} {k : Nat} (h : k < l.length) : pl (l.take (k + 1)) = pl (l.take k) ++ rep l[k].n l[k].set := by
  rw [List.take_add_one, List.getElem?_eq_getElem h, pl_append]
  simp [pl]
theorem atB_pl {l : List Blk} (hn : NonNeg l) (hb : (pl l).length ≤ big) : ∀ k, k ≤ l.length → atB l k = (pl (l.take k)).length := by
  intro k
  induction k with
  | zero => intro _; simp [atB, pl]
  | succ k ih =>
    intro hk
    have h1 := pl_take_le l (k + 1)
    rw [atB_succ (by omega), ih (by omega)]
    rw [pl_take_succ (by omega), List.length_append, rep_len] at h1 ⊢
    have := hn l[k] (by simp)
    simp only [big] at hb
    rw [wrap64 (by omega) (by omega)]
    omega
theorem addB_pl {acc : List Blk} {n : Int} {s : List Attr} (ha : NonNeg acc) (hb : (pl acc).length + n.toNat ≤ big) : pl (addB acc n s) = pl acc ++ rep n s ∧ NonNeg (addB acc n s) := by
  by_cases hn : n ≤ 0
  · rw [addB_zero hn]
    refine ⟨?_, ha⟩
    have : n.toNat = 0 := by omega
    simp [rep, this]
  have hn' : 0 < n := by omega
  rcases snoc_cases acc with rfl | ⟨i, b, rfl⟩
  · rw [addB_nil hn']
    refine ⟨by simp [pl], fun x hx => ?_⟩
    simp at hx; subst hx; simp only; omega
  · rw [addB_snoc hn']
    have hb0 := ha b (by simp)
    rw [pl_append, List.length_append, pl_one, rep_len] at hb
    simp only [big] at hb
    by_cases hs : b.set = s
    · rw [if_pos hs, wrap64 (by omega) (by omega)]
      refine ⟨?_, fun x hx => ?_⟩
      · rw [pl_append, pl_append, pl_one, pl_one, List.append_assoc]
        congr 1
        simp only [rep, ← hs, List.replicate_append_replicate]
        congr 1; omega
      · simp only [List.mem_append, List.mem_singleton] at hx
        rcases hx with hx | rfl
        · exact ha x (by simp [hx])
        · simp only; omega
    · rw [if_neg hs]
      refine ⟨by rw [pl_append (i ++ [b]), pl_one], fun x hx => ?_⟩
      simp only [List.mem_append, List.mem_singleton] at hx
      rcases hx with (hx | rfl) | rfl
      · exact ha x (by simp [hx])
      · exact hb0
      · simp only; omega
theorem foldJ_pl : ∀ (l acc : List Blk), NonNeg acc → (pl acc).length + (pl l).length ≤ big → pl (foldJ acc l) = pl acc ++ pl l ∧ NonNeg (foldJ acc l) := by
  intro l
  induction l with
  | nil => intro acc ha _; exact ⟨by simp [foldJ, pl], ha⟩
  | cons b l ih =>
    intro acc ha hb
    rw [pl_cons, List.length_append, rep_len] at hb
    obtain ⟨h1, h2⟩ := addB_pl (s := b.set) (n := b.n) ha (by omega)
    obtain ⟨h3, h4⟩ := ih (addB acc b.n b.set) h2 (by rw [h1, List.length_append, rep_len]; omega)
    refine ⟨?_, h4⟩
    show pl (foldJ (addB acc b.n b.set) l) = _
    rw [h3, h1, pl_cons, List.append_assoc]
theorem foldO_pl : ∀ (l : List Cel) (acc : List Blk), NonNeg acc → (pl acc).length + l.length ≤ big → pl (foldO acc l) = pl acc ++ l.map Cel.inl ∧ NonNeg (foldO acc l) := by
  intro l
  induction l with
  | nil => intro acc ha _; exact ⟨by simp [foldO], ha⟩
  | cons c l ih =>
    intro acc ha hb
    rw [List.length_cons] at hb
    obtain ⟨h1, h2⟩ := addB_pl (s := c.inl) (n := 1) ha (by simp only [Int.toNat_one]; omega)
    obtain ⟨h3, h4⟩ := ih (addB acc 1 c.inl) h2 (by rw [h1, List.length_append, rep_len]; simp only [Int.toNat_one]; omega)
    refine ⟨?_, h4⟩
    show pl (foldO (addB acc 1 c.inl) l) = _
    rw [h3, h1]
    simp [rep]
theorem joinB_pl {l : List Blk} (hb : (pl l).length ≤ big) : pl (joinB l) = pl l ∧ NonNeg (joinB l) := by
  have h := foldJ_pl l [] (fun _ h => nomatch h) (by simpa [pl] using hb)
  rw [pl_nil, List.nil_append] at h
  exact h
theorem ofB_pl {l : List Cel} (hb : l.length ≤ big) : pl (ofB l) = l.map Cel.inl ∧ NonNeg (ofB l) := by
  have h := foldO_pl l [] (fun _ h => nomatch h) (by simpa [pl] using hb)
  rw [pl_nil, List.nil_append] at h
  exact h

/-! ### proper blocks are one for what they tell -/
def PropL : List Blk → Prop
  | [] => True
  | b :: r => 0 < b.n ∧ (∀ c, r.head? = some c → b.set ≠ c.set) ∧ PropL r
theorem propL_iff : ∀ (l : List Blk), ProperB l ↔ PropL l := by
  intro l
  induction l with
  | nil => exact ⟨fun _ => trivial, fun _ i b h => by simp at h⟩
  | cons b r ih =>
    constructor
    · intro h
      refine ⟨(h 0 b rfl).1, fun c hc => ?_, ih.1 fun i x hx => ?_⟩
      · have h1 : (b :: r)[1]? = some c := by rw [List.getElem?_cons_succ, ← List.head?_eq_getElem?]; exact hc
        exact (h 1 c h1).2 b (by decide) rfl
      · have h2 := h (i + 1) x (by simpa using hx)
        refine ⟨h2.1, fun c hi hc => h2.2 c (by omega) ?_⟩
        have : i + 1 - 1 = (i - 1) + 1 := by omega
        rw [this, List.getElem?_cons_succ]; exact hc
    · rintro ⟨h1, h2, h3⟩ i x hx
      cases i with
      | zero => cases hx; exact ⟨h1, fun c hc => by omega⟩
      | succ i =>
        rw [List.getElem?_cons_succ] at hx
        have h4 := ih.2 h3 i x hx
        refine ⟨h4.1, fun c _ hc => ?_⟩
        cases i with
        | zero =>
          simp at hc; subst hc
          exact h2 x (by rw [List.head?_eq_getElem?]; exact hx)
        | succ i =>
          have : i + 1 + 1 - 1 = i + 1 := by omega
          rw [this, List.getElem?_cons_succ] at hc
          exact h4.2 c (by omega) (by simpa using hc)
theorem propL_snoc : ∀ (l : List Blk) (b : Blk), PropL (l ++ [b]) ↔ PropL l ∧ 0 < b.n ∧ ∀ c, l.getLast? = some c → c.set ≠ b.set := by
  intro l
  induction l with
  | nil => intro b; simp [PropL]
  | cons a r ih =>
    intro b
    simp only [List.cons_append, PropL, ih]
    cases r with
    | nil =>
      simp only [List.nil_append, List.head?_cons, Option.some.injEq, PropL, List.getLast?_singleton, List.head?_nil]
      constructor
      · rintro ⟨h1, h2, h3, h4, h5⟩; exact ⟨⟨h1, fun c h => (nomatch h), trivial⟩, h4, fun c hc => by subst hc; exact h2 b rfl⟩
      · rintro ⟨⟨h1, _, _⟩, h4, h5⟩; exact ⟨h1, fun c hc => by subst hc; exact h5 a rfl, trivial, h4, fun c h => (nomatch h)⟩
    | cons c r =>
      simp only [List.cons_append, List.head?_cons, List.getLast?_cons_cons]
      constructor
      · rintro ⟨h1, h2, h3, h4, h5⟩; exact ⟨⟨h1, h2, h3⟩, h4, h5⟩
      · rintro ⟨⟨h1, h2, h3⟩, h4, h5⟩; exact ⟨h1, h2, h3, h4, h5⟩
theorem addB_prop {acc : List Blk} {n : Int} {s : List Attr} (h : PropL acc) (hb : (pl acc).length + n.toNat ≤ big) : PropL (addB acc n s) := by
  by_cases hn : n ≤ 0
  · rw [addB_zero hn]; exact h
  have hn' : 0 < n := by omega
  rcases snoc_cases acc with rfl | ⟨i, b, rfl⟩
  · rw [addB_nil hn']; exact ⟨hn', fun c h => (nomatch h), trivial⟩
  · rw [addB_snoc hn']
    have h' := (propL_snoc i b).1 h
    rw [pl_append, List.length_append, pl_one, rep_len] at hb
    simp only [big] at hb
    by_cases hs : b.set = s
    · rw [if_pos hs]
      refine (propL_snoc _ _).2 ⟨h'.1, ?_, h'.2.2⟩
      have := h'.2.1
      show 0 < IntKind.i64.wrap (b.n + n)
      rw [wrap64 (by omega) (by omega)]; omega
    · rw [if_neg hs]
      refine (propL_snoc _ _).2 ⟨h, hn', fun c hc => ?_⟩
      simp at hc; subst hc; exact hs
theorem propL_nonneg : ∀ (l : List Blk), PropL l → NonNeg l := by
  intro l
  induction l with
  | nil => intro _ b hb; simp at hb
  | cons a r ih =>
    rintro ⟨h1, _, h3⟩ b hb
    rcases List.mem_cons.1 hb with rfl | hb
    · omega
    · exact ih h3 b hb
theorem foldJ_prop : ∀ (l acc : List Blk), PropL acc → (pl acc).length + (pl l).length ≤ big → PropL (foldJ acc l) := by
  intro l
  induction l with
  | nil => intro acc ha _; exact ha
  | cons b l ih =>
    intro acc ha hb
    rw [pl_cons, List.length_append, rep_len] at hb
    refine ih _ (addB_prop ha (by omega)) ?_
    rw [(addB_pl (propL_nonneg _ ha) (by omega)).1, List.length_append, rep_len]; omega
theorem foldO_prop : ∀ (l : List Cel) (acc : List Blk), PropL acc → (pl acc).length + l.length ≤ big → PropL (foldO acc l) := by
  intro l
  induction l with
  | nil => intro acc ha _; exact ha
  | cons b l ih =>
    intro acc ha hb
    rw [List.length_cons] at hb
    refine ih _ (addB_prop ha (by simp only [Int.toNat_one]; omega)) ?_
    rw [(addB_pl (propL_nonneg _ ha) (by simp only [Int.toNat_one]; omega)).1, List.length_append, rep_len]; simp only [Int.toNat_one]; omega
theorem joinB_prop {l : List Blk} (hb : (pl l).length ≤ big) : PropL (joinB l) := foldJ_prop l [] trivial (by simpa [pl] using hb)
theorem ofB_prop {l : List Cel} (hb : l.length ≤ big) : PropL (ofB l) := foldO_prop l [] trivial (by simpa [pl] using hb)
theorem pl_head {b : Blk} {r : List Blk} (h : PropL (b :: r)) : (pl (b :: r)).head? = some b.set := by
  rw [pl_cons]
  have h1 := h.1
  have : b.n.toNat = (b.n.toNat - 1) + 1 := by omega
  simp only [rep]
  rw [this, List.replicate_succ]; rfl
theorem uniq : ∀ (l m : List Blk), PropL l → PropL m → pl l = pl m → l = m := by
  intro l
  induction l with
  | nil =>
    intro m _ hm h
    cases m with
    | nil => rfl
    | cons c m => have := pl_head hm; rw [← h] at this; simp [pl] at this
  | cons b l ih =>
    intro m hl hm h
    cases m with
    | nil => have := pl_head hl; rw [h] at this; simp [pl] at this
    | cons c m =>
      have hs : b.set = c.set := by
        have h1 := pl_head hl
        have h2 := pl_head hm
        rw [h, h2] at h1; exact (Option.some.inj h1).symm
      have nohead : ∀ (b : Blk) (r : List Blk), PropL (b :: r) → ∀ n : Nat, (pl r)[0]? ≠ some b.set := by
        intro b r hp _ h
        cases r with
        | nil => simp [pl] at h
        | cons d r =>
          have := pl_head hp.2.2
          rw [← List.head?_eq_getElem?, this] at h
          exact hp.2.1 d rfl (Option.some.inj h).symm
      have hlen : b.n.toNat = c.n.toNat := by
        rw [pl_cons, pl_cons] at h
        rcases Nat.lt_trichotomy b.n.toNat c.n.toNat with hlt | heq | hgt
        · exfalso
          have h1 := congrArg (fun x => x[b.n.toNat]?) h
          rw [List.getElem?_append_right (by simp [rep]), List.getElem?_append_left (by rw [rep_len]; exact hlt)] at h1
          simp only [rep, List.length_replicate, Nat.sub_self, List.getElem?_replicate, hlt, if_true] at h1
          exact nohead b l hl 0 (by rw [h1, hs])
        · exact heq
        · exfalso
          have h1 := congrArg (fun x => x[c.n.toNat]?) h
          rw [List.getElem?_append_left (by rw [rep_len]; exact hgt), List.getElem?_append_right (by simp [rep])] at h1
          simp only [rep, List.length_replicate, Nat.sub_self, List.getElem?_replicate, hgt, if_true] at h1
          exact nohead c m hm 0 (by rw [← h1, hs])
      have hb1 := hl.1
      have hc1 := hm.1
      have hn : b.n = c.n := by omega
      have hbc : b = c := by cases b; cases c; simp only at hn hs; rw [hn, hs]
      subst hbc
      rw [pl_cons, pl_cons] at h
      rw [ih m hl.2.2 hm.2.2 (List.append_cancel_left h)]
/-- what stands at a place -/
theorem hit_pl {l : List Blk} (hn : NonNeg l) (hb : (pl l).length ≤ big) {i : Int} {k : Nat} (hk : k < l.length) (h : hitB l i k) : 0 ≤ i ∧ (pl l)[i.toNat]? = some l[k].set := by
  obtain ⟨h1, h2⟩ := h
  rw [atB_pl hn hb k (by omega)] at h1
  rw [atB_pl hn hb (k + 1) (by omega), pl_take_succ hk, List.length_append, rep_len] at h2
  have e : pl l = pl (l.take (k + 1)) ++ pl (l.drop (k + 1)) := by rw [← pl_append, List.take_append_drop]
  refine ⟨by omega, ?_⟩
  rw [e, pl_take_succ hk, List.append_assoc, List.getElem?_append_right (by omega), List.getElem?_append_left (by rw [rep_len]; omega)]
  simp only [rep, List.getElem?_replicate]
  rw [if_pos (by omega)]
theorem hit_ex {l : List Blk} (hn : NonNeg l) (hb : (pl l).length ≤ big) {i : Int} (h0 : 0 ≤ i) (h1 : i < (pl l).length) : ∃ k, k < l.length ∧ hitB l i k := by
  have : ∀ q, q ≤ l.length → i < (pl (l.take q)).length → ∃ k, k < l.length ∧ hitB l i k := by
    intro q
    induction q with
    | zero => intro _ h; simp [pl] at h; omega
    | succ q ih =>
      intro hq h
      by_cases hlt : i < (pl (l.take q)).length
      · exact ih (by omega) hlt
      · refine ⟨q, by omega, ?_, ?_⟩
        · rw [atB_pl hn hb q (by omega)]; omega
        · rw [atB_pl hn hb (q + 1) (by omega)]; exact h
  exact this l.length (Nat.le_refl _) (by rw [List.take_length]; exact h1)
theorem hit_not {l : List Blk} (hn : NonNeg l) (hb : (pl l).length ≤ big) {i : Int} (h : ¬ (0 ≤ i ∧ i < (pl l).length)) {k : Nat} (hk : k < l.length) : ¬ hitB l i k := by
  intro hh
  obtain ⟨h1, h2⟩ := hit_pl hn hb hk hh
  have := (List.getElem?_eq_some_iff.1 h2).1
  exact h ⟨h1, by omega⟩
/-- a cut's places -/
theorem cutT_pl {l : List Blk} (hn : NonNeg l) (hb : (pl l).length ≤ big) {i j : Int} (hi : 0 ≤ i) (hj : 0 ≤ j) (hi2 : i ≤ 9223372036854775807) : ∀ k, k ≤ l.length → pl (cutT l i j k) = ((pl (l.take k)).take j.toNat).drop i.toNat ∧ PropL (cutT l i j k) := by
  intro k
  induction k with
  | zero => intro _; exact ⟨by simp [cutT, pl], trivial⟩
  | succ k ih =>
    intro hk
    obtain ⟨h1, h2⟩ := ih (by omega)
    rw [cutT_succ (by omega)]
    have ha := atB_pl hn hb k (by omega)
    have hb' := atB_pl hn hb (k + 1) (by omega)
    have h3 := pl_take_le l (k + 1)
    have hnk := hn l[k] (by simp)
    rw [pl_take_succ (by omega), List.length_append, rep_len] at h3 hb'
    simp only [big] at hb
    have hcn : (cutN (atB l (k + 1)) j (atB l k) i).toNat = min l[k].n.toNat (j.toNat - (pl (l.take k)).length) - (i.toNat - (pl (l.take k)).length) ∧ (cutN (atB l (k + 1)) j (atB l k) i).toNat ≤ l[k].n.toNat := by
      unfold cutN minI maxI
      rw [ha, hb']
      split <;> split <;> (rw [wrap64 (by omega) (by omega)]; omega)
    have hlen : (pl (cutT l i j k)).length ≤ (pl (l.take k)).length := by rw [h1]; simp; omega
    obtain ⟨h4, h5⟩ := addB_pl (s := l[k].set) (n := cutN (atB l (k + 1)) j (atB l k) i) (propL_nonneg _ h2) (by simp only [big]; omega)
    refine ⟨?_, addB_prop h2 (by simp only [big]; omega)⟩
    rw [h4, h1, pl_take_succ (by omega), List.take_append, List.drop_append]
    congr 1
    simp only [rep, List.take_replicate, List.drop_replicate]
    congr 1
    rw [hcn.1, List.length_take]
    omega
theorem cutB_pl {l : List Blk} (hn : NonNeg l) (hb : (pl l).length ≤ big) (i j : Int) : pl (cutB l i j) = ((pl l).take j.toNat).drop i.toNat ∧ PropL (cutB l i j) := by
  have hlen := atB_pl hn hb l.length (Nat.le_refl _)
  rw [List.take_length] at hlen
  have e1 : maxI i 0 = i.toNat := by unfold maxI; split <;> omega
  have e2 : (minI (maxI j 0) (atB l l.length)) = min j.toNat (pl l).length := by unfold minI maxI; rw [hlen]; split <;> split <;> omega
  unfold cutB
  rw [e1, e2]
  split
  · rename_i h
    refine ⟨?_, trivial⟩
    have : (((pl l).take j.toNat).drop i.toNat).length = 0 := by simp; omega
    rw [List.eq_nil_of_length_eq_zero this]; rfl
  · obtain ⟨h1, h2⟩ := cutT_pl hn hb (i := (i.toNat : Int)) (j := ((min j.toNat (pl l).length : Nat) : Int)) (by omega) (by omega) (by simp only [big] at hb; omega) l.length (Nat.le_refl _)
    refine ⟨?_, h2⟩
    rw [h1, List.take_length]
    simp only [Int.toNat_natCast]
    congr 1
    rcases Nat.le_total j.toNat (pl l).length with h | h
    · rw [Nat.min_eq_left h]
    · rw [Nat.min_eq_right h, List.take_of_length_le (Nat.le_refl _), List.take_of_length_le h]
end Go.Proofs.Ytmfplfaeibehiaa
