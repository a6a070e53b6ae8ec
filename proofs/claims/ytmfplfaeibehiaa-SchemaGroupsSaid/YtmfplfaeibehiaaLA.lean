/- Plain laws of blocks: joining, the blocks of cells. No program in sight. -/
import Derived.Test.YtmfplfaeibehiaaPJ
namespace Go.Proofs.Ytmfplfaeibehiaa
open Go Go.K

theorem wrap_add (x m : Int) : IntKind.i64.wrap (IntKind.i64.wrap x + m) = IntKind.i64.wrap (x + m) := by
  have e1 : (2 : Int) ^ IntKind.i64.bits = 18446744073709551616 := by decide
  have e2 : (2 : Int) ^ (IntKind.i64.bits - 1) = 9223372036854775808 := by decide
  simp only [IntKind.wrap, e1, e2, IntKind.signed, Bool.true_and, decide_eq_true_eq]
  split <;> split <;> split <;> omega
theorem snoc_cases {α : Type} (l : List α) : l = [] ∨ ∃ i b, l = i ++ [b] := by
  rcases List.eq_nil_or_concat l with h | ⟨i, b, h⟩
  · exact .inl h
  · exact .inr ⟨i, b, by simpa using h⟩
theorem addB_nil {n : Int} {s : List Attr} (h : 0 < n) : addB [] n s = [⟨n, s⟩] := by
  simp [addB, show ¬ n ≤ 0 by omega]
theorem addB_snoc {i : List Blk} {b : Blk} {n : Int} {s : List Attr} (h : 0 < n) : addB (i ++ [b]) n s = if b.set = s then i ++ [⟨IntKind.i64.wrap (b.n + n), b.set⟩] else i ++ [b] ++ [⟨n, s⟩] := by
  unfold addB
  rw [if_neg (by omega)]
  simp only [List.getLast?_append, List.getLast?_singleton, Option.some_or]
  split
  · simp
  · rfl
theorem addB_zero {l : List Blk} {n : Int} {s : List Attr} (h : n ≤ 0) : addB l n s = l := by simp [addB, h]
theorem addB_two {acc : List Blk} {n m : Int} {s : List Attr} (h1 : 0 < n) (h2 : 0 < m) (h3 : n + m ≤ 9223372036854775807) : addB (addB acc n s) m s = addB acc (n + m) s := by
  rcases snoc_cases acc with rfl | ⟨i, b, rfl⟩
  · rw [addB_nil h1, addB_nil (by omega), show [(⟨n, s⟩ : Blk)] = [] ++ [⟨n, s⟩] from rfl, addB_snoc h2, if_pos rfl, wrap64 (by simp; omega) (by simpa using h3)]; rfl
  · rw [addB_snoc h1, addB_snoc (by omega)]
    by_cases hs : b.set = s
    · rw [if_pos hs, if_pos hs, addB_snoc h2, if_pos hs]
      simp only
      rw [wrap_add, Int.add_assoc]
    · rw [if_neg hs, if_neg hs, addB_snoc h2, if_pos rfl]
      simp only
      rw [wrap64 (by omega) (by omega)]
def foldJ (acc l : List Blk) : List Blk := l.foldl (fun acc b => addB acc b.n b.set) acc
def foldO (acc : List Blk) (l : List Cel) : List Blk := l.foldl (fun acc c => addB acc 1 c.inl) acc
theorem foldJ_snoc (acc l : List Blk) (b : Blk) : foldJ acc (l ++ [b]) = addB (foldJ acc l) b.n b.set := by simp [foldJ]
theorem foldO_snoc (acc : List Blk) (l : List Cel) (c : Cel) : foldO acc (l ++ [c]) = addB (foldO acc l) 1 c.inl := by simp [foldO]
theorem rev_ind {α : Type} {p : List α → Prop} (h0 : p []) (h1 : ∀ l a, p l → p (l ++ [a])) : ∀ l, p l := by
  intro l
  have : ∀ n, ∀ l : List α, l.length = n → p l := by
    intro n
    induction n with
    | zero => intro l hl; rw [List.eq_nil_of_length_eq_zero hl]; exact h0
    | succ n ih =>
      intro l hl
      rcases snoc_cases l with rfl | ⟨i, b, rfl⟩
      · simp at hl
      · exact h1 i b (ih i (by simp at hl; omega))
  exact this _ l rfl
/-- blocks of cells: each from 1 to as many as there are cells -/
theorem ofB_n (m : List Cel) (hm : (m.length : Int) ≤ 9223372036854775807) : ∀ b ∈ ofB m, 1 ≤ b.n ∧ b.n ≤ m.length := by
  revert hm
  refine rev_ind (p := fun m => (m.length : Int) ≤ 9223372036854775807 → ∀ b ∈ ofB m, 1 ≤ b.n ∧ b.n ≤ m.length) ?_ ?_ m
  · intro _ b hb; simp [ofB] at hb
  · intro m c ih hm
    have hm' : (m.length : Int) + 1 ≤ 9223372036854775807 := by simpa using hm
    have ih := ih (by omega)
    have e : ofB (m ++ [c]) = addB (ofB m) 1 c.inl := foldO_snoc [] m c
    rw [e]
    rcases snoc_cases (ofB m) with h | ⟨i, b, h⟩
    · rw [h, addB_nil (by decide)]
      intro b hb; simp at hb; subst hb; simp; omega
    · rw [h] at ih
      rw [h, addB_snoc (by decide)]
      have hb := ih b (by simp)
      intro x hx
      split at hx
      · simp only [List.mem_append, List.mem_singleton] at hx
        rcases hx with hx | hx
        · have := ih x (by simp [hx]); simp; omega
        · subst hx
          simp only [List.length_append, List.length_singleton]
          rw [wrap64 (by omega) (by omega)]; omega
      · simp only [List.mem_append, List.mem_singleton] at hx
        rcases hx with (hx | hx) | hx
        · have := ih x (by simp [hx]); simp; omega
        · subst hx; simp; omega
        · subst hx; simp; omega
theorem foldJ_of (acc : List Blk) (m : List Cel) (hm : (m.length : Int) ≤ 9223372036854775806) : foldJ acc (ofB m) = foldO acc m := by
  revert hm
  refine rev_ind (p := fun m => (m.length : Int) ≤ 9223372036854775806 → foldJ acc (ofB m) = foldO acc m) ?_ ?_ m
  · intro _; rfl
  · intro m c ih hm
    have hm' : (m.length : Int) + 1 ≤ 9223372036854775806 := by simpa using hm
    have ih := ih (by omega)
    have hn := ofB_n m (by omega)
    have e : ofB (m ++ [c]) = addB (ofB m) 1 c.inl := foldO_snoc [] m c
    rw [e, foldO_snoc, ← ih]
    rcases snoc_cases (ofB m) with h | ⟨i, b, h⟩
    · rw [h, addB_nil (by decide)]; rfl
    · rw [h] at hn ⊢
      have hb := hn b (by simp)
      rw [addB_snoc (by decide)]
      by_cases hs : b.set = c.inl
      · rw [if_pos hs, foldJ_snoc, foldJ_snoc]
        simp only
        rw [hs, wrap64 (by omega) (by omega), addB_two (by omega) (by decide) (by omega)]
      · rw [if_neg hs, foldJ_snoc]
/-- BlocksJoin's law -/
theorem join_of_app (l m : List Cel) (hl : l.length ≤ 1000) (hm : m.length ≤ 1000) : joinB (ofB l ++ ofB m) = ofB (l ++ m) := by
  have h1 : joinB (ofB l ++ ofB m) = foldJ (foldJ [] (ofB l)) (ofB m) := by simp [joinB, foldJ]
  rw [h1, foldJ_of [] l (by omega), foldJ_of _ m (by omega)]
  simp [foldO, ofB]
/-- the sets of what is added to -/
theorem addB_sets {acc : List Blk} {n : Int} {s : List Attr} : ∀ b ∈ addB acc n s, b.set = s ∨ ∃ c ∈ acc, b.set = c.set := by
  intro x hx
  by_cases hn : n ≤ 0
  · rw [addB_zero hn] at hx; exact .inr ⟨x, hx, rfl⟩
  rcases snoc_cases acc with rfl | ⟨i, b, rfl⟩
  · rw [addB_nil (by omega)] at hx; simp at hx; subst hx; exact .inl rfl
  · rw [addB_snoc (by omega)] at hx
    split at hx
    · simp only [List.mem_append, List.mem_singleton] at hx
      rcases hx with hx | hx
      · exact .inr ⟨x, by simp [hx], rfl⟩
      · subst hx; exact .inr ⟨b, by simp, rfl⟩
    · simp only [List.mem_append, List.mem_singleton] at hx
      rcases hx with (hx | hx) | hx
      · exact .inr ⟨x, by simp [hx], rfl⟩
      · exact .inr ⟨x, by simp [hx], rfl⟩
      · subst hx; exact .inl rfl
theorem foldJ_sets {p : List Attr → Prop} : ∀ (l acc : List Blk), (∀ b ∈ acc, p b.set) → (∀ b ∈ l, p b.set) → ∀ b ∈ foldJ acc l, p b.set := by
  intro l
  induction l with
  | nil => intro acc h _; exact h
  | cons c l ih =>
    intro acc h h2
    refine ih (addB acc c.n c.set) (fun b hb => ?_) fun b hb => h2 b (by simp [hb])
    rcases addB_sets b hb with e | ⟨d, hd, e⟩
    · rw [e]; exact h2 c (by simp)
    · rw [e]; exact h d hd
theorem foldO_sets {p : List Attr → Prop} : ∀ (l : List Cel) (acc : List Blk), (∀ b ∈ acc, p b.set) → (∀ c ∈ l, p c.inl) → ∀ b ∈ foldO acc l, p b.set := by
  intro l
  induction l with
  | nil => intro acc h _; exact h
  | cons c l ih =>
    intro acc h h2
    refine ih (addB acc 1 c.inl) (fun b hb => ?_) fun b hb => h2 b (by simp [hb])
    rcases addB_sets b hb with e | ⟨d, hd, e⟩
    · rw [e]; exact h2 c (by simp)
    · rw [e]; exact h d hd
theorem inl_len {c : Cel} {m : Nat} (h : c.set.length ≤ m) : c.inl.length ≤ m := by
  unfold Cel.inl; split
  · simp
  · exact h
theorem ofB_sets {l : List Cel} {m : Nat} (h : ∀ c ∈ l, c.set.length ≤ m) : ∀ b ∈ ofB l, b.set.length ≤ m := foldO_sets (p := fun s => s.length ≤ m) l [] (fun _ h => nomatch h) fun c hc => inl_len (h c hc)
theorem joinB_sets {l : List Blk} {m : Nat} (h : ∀ c ∈ l, c.set.length ≤ m) : ∀ b ∈ joinB l, b.set.length ≤ m := foldJ_sets (p := fun s => s.length ≤ m) l [] (fun _ h => nomatch h) h
end Go.Proofs.Ytmfplfaeibehiaa
