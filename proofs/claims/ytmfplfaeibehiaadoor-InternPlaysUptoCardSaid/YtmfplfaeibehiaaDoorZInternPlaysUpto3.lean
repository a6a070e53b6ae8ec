/- Plain laws of UTF-8: the document's reading, byte by byte, as the library tells a valid text. No conditions but that bytes are bytes. Contracts: the document's values, keys, sets and patches that may be. Conditions: the size of a text. Plain laws: what is no number; eight bytes in one word. No conditions. By a program of ours: of each function below the predicate that its code comes to, and that it is sound. No conditions. Contracts: eight bytes as a word; whether bytes are UTF-8. Conditions: the two tables lie in memory as they are laid. Contracts: the document's sets and patches that may be; keys that may be a schema's. Conditions: the sizes of texts. Contracts: keys that may be a schema's; how much a delta has; deltas that may be; what is tame. Conditions: the sizes. By a program of ours: of each function below the predicate that its code comes to, and that it is sound. No conditions. Maps whose keys are ints, in memory. No conditions. A schema in memory; contracts of what reads it: Find, Len, Keys, Group; of one key by itself; of comparing keys. No conditions. Contract: whether bytes are UTF-8 (utf8.Valid): as the document reads. Conditions: the two tables lie in memory as they are laid. -/
import Derived.Test.YtmfplfaeibehiaaDoorZInternPlaysUpto2
import Derived.MapKept
namespace Go.Proofs.YtmfplfaeibehiaaDoor
open Go Go.K

/-- how many bytes a rune has that begins so (0: none begins so), and the bounds of the second byte -/
def hdSize (b0 : Int) : Nat := if b0 < 194 then 0 else if b0 < 224 then 2 else if b0 < 240 then 3 else if b0 < 245 then 4 else 0
def hdLo (b0 : Int) : Int := if b0 = 224 then 160 else if b0 = 240 then 144 else 128
def hdHi (b0 : Int) : Int := if b0 = 237 then 159 else if b0 = 244 then 143 else 191
theorem wrap32 {x : Int} (h0 : -2147483648 ≤ x) (h1 : x < 2147483648) : IntKind.i32.wrap x = x := by
  have e1 : (2 : Int) ^ IntKind.i32.bits = 4294967296 := by decide
  have e2 : (2 : Int) ^ (IntKind.i32.bits - 1) = 2147483648 := by decide
  simp only [IntKind.wrap, e1, e2, IntKind.signed, Bool.true_and, decide_eq_true_eq]
  split <;> omega
theorem cont_step {b : List Int} {i k : Nat} {c r : Int} (hc : b[i]? = some c) (h0 : 0 ≤ r) (h1 : r < 16777216) (c0 : 0 ≤ c) (c1 : c < 256) : contB b (k + 1) i r = if c < 128 ∨ 191 < c then none else contB b k (i + 1) (r * 64 + c - 128) := by
  simp only [contB, hc]
  rw [wrap32 (x := r * 64) (by omega) (by omega), wrap32 (x := c) (by omega) (by omega), wrap32 (x := r * 64 + c) (by omega) (by omega), wrap32 (x := r * 64 + c - 128) (by omega) (by omega)]
theorem head4 {b0 : Int} (h0 : 240 ≤ b0) (h1 : b0 < 256) : nextHead b0 = some (4, b0 - 240) := by
  unfold nextHead
  rw [if_pos h0, wrap32 (x := b0) (by omega) (by omega), wrap32 (by omega) (by omega)]
theorem head3 {b0 : Int} (h0 : 224 ≤ b0) (h1 : b0 < 240) : nextHead b0 = some (3, b0 - 224) := by
  unfold nextHead
  rw [if_neg (by omega), if_pos h0, wrap32 (x := b0) (by omega) (by omega), wrap32 (by omega) (by omega)]
theorem head2 {b0 : Int} (h0 : 192 ≤ b0) (h1 : b0 < 224) : nextHead b0 = some (2, b0 - 192) := by
  unfold nextHead
  rw [if_neg (by omega), if_neg (by omega), if_pos h0, wrap32 (x := b0) (by omega) (by omega), wrap32 (by omega) (by omega)]
theorem next_ascii {b0 : Int} {t : List Int} (h0 : 0 ≤ b0) (h1 : b0 < 128) : nextB (b0 :: t) = (b0, 1) := by
  have hh : nextHead b0 = some (1, b0) := by
    unfold nextHead
    rw [if_neg (by omega), if_neg (by omega), if_neg (by omega), if_neg (by omega), wrap32 (by omega) (by omega)]
  unfold nextB
  rw [List.headD_cons, hh]
  simp only [List.length_cons, contB, Nat.sub_self]
  rw [if_neg (by omega), if_pos ⟨by unfold MayR; omega, by unfold oneLen; rw [if_pos h1]⟩]
theorem next_short {b0 : Int} {t : List Int} (h1 : b0 < 256) (h : (b0 :: t).length < hdSize b0) : nextB (b0 :: t) = (0, 0) := by
  unfold nextB
  rw [List.headD_cons]
  unfold hdSize at h
  split at h
  · omega
  split at h
  · rw [head2 (by omega) (by omega)]; simp only; rw [if_pos h]
  split at h
  · rw [head3 (by omega) (by omega)]; simp only; rw [if_pos h]
  split at h
  · rw [head4 (by omega) (by omega)]; simp only; rw [if_pos h]
  · omega
theorem cont_lt {b : List Int} : ∀ {k i : Nat} {r x : Int}, contB b k i r = some x → (∀ y ∈ b, 0 ≤ y ∧ y < 256) → 0 ≤ r → r * 64 ^ k < 1073741824 → k ≤ 3 → r * 64 ^ k ≤ x ∧ x ≤ r * 64 ^ k + 64 ^ k - 1 := by
  intro k
  induction k with
  | zero => intro i r x h _ _ _ _; simp only [contB] at h; cases h; simp
  | succ k ih =>
    intro i r x h hb h0 h1 hk
    cases hc : b[i]? with
    | none => simp [contB, hc] at h
    | some c =>
      have hcb := hb c (List.mem_iff_getElem?.2 ⟨i, hc⟩)
      have e : (64 : Int) ^ (k + 1) = 64 * 64 ^ k := by rw [Int.pow_succ]; omega
      rw [e] at h1
      have hp : (1 : Int) ≤ 64 ^ k := by
        rcases (show k = 0 ∨ k = 1 ∨ k = 2 by omega) with rfl | rfl | rfl <;> decide
      have h2 : r * (64 * 64 ^ k) = (r * 64) * 64 ^ k := by rw [Int.mul_assoc]
      rw [h2] at h1
      have hr : r * 64 ≤ r * 64 * 64 ^ k := by
        have := Int.mul_le_mul_of_nonneg_left hp (show 0 ≤ r * 64 by omega)
        omega
      rw [cont_step hc h0 (by omega) hcb.1 hcb.2] at h
      split at h
      · cases h
      · rename_i hcc
        have e3 : (r * 64 + c - 128) * 64 ^ k = r * 64 * 64 ^ k + (c - 128) * 64 ^ k := by rw [show r * 64 + c - 128 = r * 64 + (c - 128) by omega, Int.add_mul]
        have hc2 : (c - 128) * 64 ^ k ≤ 63 * 64 ^ k := Int.mul_le_mul_of_nonneg_right (by omega) (by omega)
        have hc3 : 0 ≤ (c - 128) * 64 ^ k := Int.mul_nonneg (by omega) (by omega)
        have hp3 : (64 : Int) ^ k ≤ 4096 := by
          rcases (show k = 0 ∨ k = 1 ∨ k = 2 by omega) with rfl | rfl | rfl <;> decide
        by_cases hbig : (r * 64 + c - 128) * 64 ^ k < 1073741824
        · have := ih h hb (by omega) hbig (by omega)
          rw [e, h2]
          omega
        · exfalso
          rw [e3] at hbig
          have hdv : r * 64 * 64 ^ k ≤ 1073741824 - 64 * 64 ^ k := by
            rcases (show k = 0 ∨ k = 1 ∨ k = 2 by omega) with rfl | rfl | rfl
            · simp only [Int.pow_zero] at *; omega
            · simp only [Int.pow_one] at *; omega
            · rw [show (64 : Int) ^ 2 = 4096 by decide] at *; omega
          omega
theorem next_bad {b0 : Int} {t : List Int} (hb : ∀ y ∈ b0 :: t, 0 ≤ y ∧ y < 256) (h0 : 128 ≤ b0) (h : hdSize b0 = 0) : nextB (b0 :: t) = (0, 0) := by
  have h1 := (hb b0 List.mem_cons_self).2
  have hc : b0 < 194 ∨ 245 ≤ b0 := by
    unfold hdSize at h
    (repeat' split at h) <;> omega
  unfold nextB
  rw [List.headD_cons]
  by_cases h2 : b0 < 192
  · have hh : nextHead b0 = none := by
      unfold nextHead
      rw [if_neg (by omega), if_neg (by omega), if_neg (by omega), if_pos h0]
    rw [hh]
  by_cases h3 : b0 < 194
  · rw [head2 (by omega) (by omega)]
    simp only
    split
    · rfl
    · split
      · rfl
      · rename_i x hx
        have := cont_lt hx hb (by omega) (by omega) (by omega)
        rw [if_neg]
        rintro ⟨_, ho⟩
        unfold oneLen at ho
        rw [if_pos (by omega)] at ho
        omega
  · rw [head4 (by omega) (by omega)]
    simp only
    split
    · rfl
    · split
      · rfl
      · rename_i x hx
        have := cont_lt hx hb (by omega) (by omega) (by omega)
        rw [if_neg]
        rintro ⟨hm, _⟩
        unfold MayR at hm
        omega
theorem next_2 {b0 c1 : Int} {t : List Int} (h : hdSize b0 = 2) (c0 : 0 ≤ c1) (c2 : c1 < 256) :
    nextB (b0 :: c1 :: t) = if hdLo b0 ≤ c1 ∧ c1 ≤ hdHi b0 then ((b0 - 192) * 64 + (c1 - 128), 2) else (0, 0) := by
  have hb : 194 ≤ b0 ∧ b0 < 224 := by
    unfold hdSize at h
    (repeat' split at h) <;> omega
  have hl : hdLo b0 = 128 := by unfold hdLo; rw [if_neg (by omega), if_neg (by omega)]
  have hh : hdHi b0 = 191 := by unfold hdHi; rw [if_neg (by omega), if_neg (by omega)]
  unfold nextB
  rw [List.headD_cons, head2 (by omega) (by omega)]
  simp only
  rw [if_neg (by simp), cont_step (b := b0 :: c1 :: t) (i := 1) (c := c1) rfl (by omega) (by omega) c0 c2, hl, hh]
  by_cases hc : c1 < 128 ∨ 191 < c1
  · rw [if_pos hc, if_neg (by omega)]
  · rw [if_neg hc, if_pos (by omega)]
    simp only [contB]
    rw [if_pos ⟨by unfold MayR; omega, by unfold oneLen; rw [if_neg (by omega), if_pos (by omega)]⟩]
    congr 1; omega
theorem next_3 {b0 c1 c2 : Int} {t : List Int} (h : hdSize b0 = 3) (c0 : 0 ≤ c1) (c0' : c1 < 256) (d0 : 0 ≤ c2) (d0' : c2 < 256) :
    nextB (b0 :: c1 :: c2 :: t) = if (hdLo b0 ≤ c1 ∧ c1 ≤ hdHi b0) ∧ 128 ≤ c2 ∧ c2 ≤ 191 then ((b0 - 224) * 4096 + (c1 - 128) * 64 + (c2 - 128), 3) else (0, 0) := by
  have hb : 224 ≤ b0 ∧ b0 < 240 := by
    unfold hdSize at h
    (repeat' split at h) <;> omega
  have hl : hdLo b0 = if b0 = 224 then 160 else 128 := by
    unfold hdLo; split
    · rfl
    · rw [if_neg (by omega)]
  have hh : hdHi b0 = if b0 = 237 then 159 else 191 := by
    unfold hdHi; split
    · rfl
    · rw [if_neg (by omega)]
  unfold nextB
  rw [List.headD_cons, head3 (by omega) (by omega)]
  simp only
  rw [if_neg (by simp), cont_step (b := b0 :: c1 :: c2 :: t) (i := 1) (c := c1) rfl (by omega) (by omega) c0 c0', hl, hh]
  by_cases hc : c1 < 128 ∨ 191 < c1
  · rw [if_pos hc, if_neg]
    rintro ⟨⟨h1, h2⟩, _⟩
    split at h1 <;> split at h2 <;> omega
  rw [if_neg hc, cont_step (b := b0 :: c1 :: c2 :: t) (i := 2) (c := c2) rfl (by omega) (by omega) d0 d0']
  by_cases hd : c2 < 128 ∨ 191 < c2
  · rw [if_pos hd, if_neg (by omega)]
  rw [if_neg hd]
  simp only [contB]
  by_cases ha : ((if b0 = 224 then (160 : Int) else 128) ≤ c1 ∧ c1 ≤ (if b0 = 237 then (159 : Int) else 191))
  · have hA := (show (_ ∧ 128 ≤ c2 ∧ c2 ≤ 191) from ⟨ha, by omega⟩)
    rw [if_pos hA, if_pos]
    · congr 1; omega
    · obtain ⟨h1, h2⟩ := ha
      refine ⟨?_, ?_⟩
      · unfold MayR
        split at h1 <;> split at h2 <;> omega
      · unfold oneLen
        rw [if_neg (by split at h1 <;> omega), if_neg (by split at h1 <;> omega), if_pos (by omega)]
  · rw [if_neg (fun x : (_ ∧ 128 ≤ c2 ∧ c2 ≤ 191) => ha x.1), if_neg]
    rintro ⟨hm, ho⟩
    apply ha
    unfold MayR at hm
    have : ¬ (b0 - 224) * 64 * 64 + (c1 - 128) * 64 + c2 - 128 < 2048 := by
      intro hx
      unfold oneLen at ho
      split at ho
      · cases ho
      · split at ho
        · cases ho
        · omega
    constructor
    · split <;> omega
    · split <;> omega
theorem next_4 {b0 c1 c2 c3 : Int} {t : List Int} (h : hdSize b0 = 4) (c0 : 0 ≤ c1) (c0' : c1 < 256) (d0 : 0 ≤ c2) (d0' : c2 < 256) (e0 : 0 ≤ c3) (e0' : c3 < 256) :
    nextB (b0 :: c1 :: c2 :: c3 :: t) = if (hdLo b0 ≤ c1 ∧ c1 ≤ hdHi b0) ∧ (128 ≤ c2 ∧ c2 ≤ 191) ∧ 128 ≤ c3 ∧ c3 ≤ 191 then ((b0 - 240) * 262144 + (c1 - 128) * 4096 + (c2 - 128) * 64 + (c3 - 128), 4) else (0, 0) := by
  have hb : 240 ≤ b0 ∧ b0 < 245 := by
    unfold hdSize at h
    (repeat' split at h) <;> omega
  have hl : hdLo b0 = if b0 = 240 then 144 else 128 := by unfold hdLo; rw [if_neg (by omega)]
  have hh : hdHi b0 = if b0 = 244 then 143 else 191 := by unfold hdHi; rw [if_neg (by omega)]
  unfold nextB
  rw [List.headD_cons, head4 (by omega) (by omega)]
  simp only
  rw [if_neg (by simp), cont_step (b := b0 :: c1 :: c2 :: c3 :: t) (i := 1) (c := c1) rfl (by omega) (by omega) c0 c0', hl, hh]
  by_cases hc : c1 < 128 ∨ 191 < c1
  · rw [if_pos hc, if_neg]
    rintro ⟨⟨h1, h2⟩, _⟩
    split at h1 <;> split at h2 <;> omega
  rw [if_neg hc, cont_step (b := b0 :: c1 :: c2 :: c3 :: t) (i := 2) (c := c2) rfl (by omega) (by omega) d0 d0']
  by_cases hd : c2 < 128 ∨ 191 < c2
  · rw [if_pos hd, if_neg (by omega)]
  rw [if_neg hd, cont_step (b := b0 :: c1 :: c2 :: c3 :: t) (i := 3) (c := c3) rfl (by omega) (by omega) e0 e0']
  by_cases he : c3 < 128 ∨ 191 < c3
  · rw [if_pos he, if_neg (by omega)]
  rw [if_neg he]
  simp only [contB]
  by_cases ha : ((if b0 = 240 then (144 : Int) else 128) ≤ c1 ∧ c1 ≤ (if b0 = 244 then (143 : Int) else 191))
  · have hA := (show (_ ∧ (128 ≤ c2 ∧ c2 ≤ 191) ∧ 128 ≤ c3 ∧ c3 ≤ 191) from ⟨ha, by omega⟩)
    rw [if_pos hA, if_pos]
    · congr 1; omega
    · obtain ⟨h1, h2⟩ := ha
      refine ⟨?_, ?_⟩
      · unfold MayR
        split at h1 <;> split at h2 <;> omega
      · unfold oneLen
        rw [if_neg (by split at h1 <;> omega), if_neg (by split at h1 <;> omega), if_neg (by split at h1 <;> omega)]
  · rw [if_neg (fun x : (_ ∧ (128 ≤ c2 ∧ c2 ≤ 191) ∧ 128 ≤ c3 ∧ c3 ≤ 191) => ha x.1), if_neg]
    rintro ⟨hm, ho⟩
    apply ha
    unfold MayR at hm
    have : ¬ ((b0 - 240) * 64 + (c1 - 128)) * 64 * 64 + (c2 - 128) * 64 + c3 - 128 < 65536 := by
      intro hx
      unfold oneLen at ho
      split at ho
      · cases ho
      · split at ho
        · cases ho
        · split at ho
          · cases ho
          · omega
    constructor
    · split <;> omega
    · split <;> omega
theorem readB_step {b : List Int} (hb : b ≠ []) : (readB b).isSome = (decide ((nextB b).2 ≠ 0) && (readB (b.drop (nextB b).2)).isSome) := by
  rw [readB_cons hb]
  by_cases h : (nextB b).2 = 0
  · simp [h]
  · simp [h]
theorem readB_nil : readB ([] : List Int) = some [] := by simp [readB, readF]
theorem readB_skip : ∀ {k : Nat} {b : List Int}, k ≤ b.length → (∀ j x, j < k → b[j]? = some x → 0 ≤ x ∧ x < 128) → (readB b).isSome = (readB (b.drop k)).isSome := by
  intro k
  induction k with
  | zero => intro b _ _; rw [List.drop_zero]
  | succ k ih =>
    intro b hk h
    cases b with
    | nil => simp at hk
    | cons b0 t =>
      have h0 := h 0 b0 (by omega) rfl
      rw [readB_step (by simp), next_ascii h0.1 h0.2]
      simp only [List.drop_succ_cons]
      simp only [ne_eq, Nat.one_ne_zero, not_false_eq_true, decide_true, Bool.true_and, List.drop_zero]
      exact ih (by simpa using hk) fun j x hj hx => h (j + 1) x (by omega) hx
end Go.Proofs.YtmfplfaeibehiaaDoor

namespace Go.Proofs.YtmfplfaeibehiaaDoor
open Go Go.K

theorem cell_allocF (W : World) (c : Array Value) (t : TypeId) (fr : Nat × Nat) (i : Nat) : (W.alloc (.cells c t fr)).cell? ⟨W.heap.size, i, none⟩ = c[i]? := by
  have h : (W.alloc (.cells c t fr)).heap[W.heap.size]? = some (.cells c t fr) := heap_alloc_new W _
  unfold World.cell?
  simp only [h]
  rfl
theorem strbytes {s : ByteArray} {K : Cont} {w : World} (hs : s.size * 4 ≤ 140737488355328) (hK : ∀ v w', Grow w w' → RBytes (fun _ => True) w' v (bytesL s) → K v w') : runK Tryd.prog (convert 9 54 (.string s)) K w := by
  refine ⟨_, _, run_bytes_of_string w _ _ 5 s (by kernel_rfl) (by kernel_rfl) (by kernel_rfl), hK _ _ ((Mod.drew (fun _ => False) w).trans (Mod.alloc _ _ _)) ?_⟩
  have hl : (bytesL s).length = s.size := by simp [bytesL]
  have hm : s.size ≤ maxLen := by simp only [maxLen]; omega
  refine ⟨_, _, by rw [hl], by rw [hl]; exact grownCap_ge _ _ _ _, grownCap_le_maxLen _ _ _ _ hm, fun i x hx => ⟨_, [.int .u8 x], rfl, trivial, rfl, fun j u hu => ?_, rfl⟩⟩
  have hj : j = 0 := by have := (List.getElem?_eq_some_iff.1 hu).1; simp at this; exact this
  subst hj
  simp at hu; subst hu
  rw [addr0, Nat.mul_one, Nat.add_zero]
  have hi := (List.getElem?_eq_some_iff.1 hx).1
  rw [hl] at hi
  have hx' : x = ((s.data[i]'hi).toNat : Int) := by
    simp only [bytesL, List.getElem?_map, Array.getElem?_toList] at hx
    rw [Array.getElem?_eq_getElem hi] at hx
    simpa using hx.symm
  subst hx'
  have hs2 : i < s.data.size := hi
  refine (cell_allocF w.drew _ _ _ i).trans ?_
  simp [bytesRow, Array.getElem?_append, hi]
/-- bits that say that it is no number -/
def NoNum (f : Int) : Prop := 9218868437227405312 < f.tmod 9223372036854775808
instance (f : Int) : Decidable (NoNum f) := by unfold NoNum; infer_instance
theorem none_ok {f : Int} {w : World} : callK Tryd.prog 65 [.int .u64 f] (fun v w' => v = .bool (decide (NoNum f)) ∧ w' = w) w := by
  apply S65_ok
  unfold S65
  refine rem_i (by decide) ?_
  rw [gtK_i]
  exact ⟨rfl, rfl⟩
def noS : ByteArray := ByteArray.mk #[]
/-- a value that may be -/
def ValOK (v : AVal) : Prop := (v.kind = 1 ∧ v = ⟨1, v.n, 0, noS⟩ ∧ (v.n = 0 ∨ v.n = 1)) ∨ (v.kind = 2 ∧ v = ⟨2, v.n, 0, noS⟩) ∨ (v.kind = 3 ∧ v = ⟨3, 0, v.f, noS⟩ ∧ (¬ NoNum v.f ∨ v.f = 9221120237041090560)) ∨
  (v.kind = 4 ∧ v = ⟨4, 0, 0, v.s⟩ ∧ v.s.size ≤ 64 ∧ (readB (bytesL v.s)).isSome = true)
instance (v : AVal) : Decidable (ValOK v) := by unfold ValOK; infer_instance
theorem AVal.one (v : AVal) : ∀ u ∈ v.cells, u.oneCell' = true := by
  intro u hu
  simp only [AVal.cells, List.mem_cons, List.not_mem_nil, or_false] at hu
  rcases hu with rfl | rfl | rfl | rfl <;> rfl
theorem rval_ok {v : AVal} {w : World} (hs : v.s.size * 4 ≤ 140737488355328) :
    callK Tryd.prog 47 [.agg v.cells.toArray] (fun v' w' => v' = .bool (decide (ValOK v)) ∧ Grow w w') w := by
  apply S47_ok
  unfold S47
  refine boxn_i fun b w1 _ hz g hc _ => ?_
  have l0 := hc 0 _ rfl
  have l1 := hc 1 _ rfl
  have l2 := hc 2 _ rfl
  have l3 := hc 3 _ rfl
  have key : ∀ (b : Bool) w', Grow w w' → (b = true ↔ ValOK v) → Value.bool b = .bool (decide (ValOK v)) ∧ Grow w w' := fun b w' g h => ⟨by congr 1; rw [Bool.eq_iff_iff, h, decide_eq_true_eq], g⟩
  have no : ∀ w', Grow w w' → ¬ ValOK v → Value.bool false = .bool (decide (ValOK v)) ∧ Grow w w' := fun w' g h => key false w' g (by simp only [Bool.false_eq_true, false_iff]; exact h)
  have hall : ∀ j u, v.cells[j]? = some u → w1.cell? ((⟨b, 0, none⟩ : Addr).add j) = some u := hc
  simp only [faK_i]
  refine ld1K_i l0 ?_
  rw [eqK_i]
  refine condK_p (fun k1 => ?_) fun k1 => ?_
  · refine ldnK_i rfl hall (ld1K_i l1 ?_)
    refine ⟨(⟨1, v.n, 0, noS⟩ : AVal).cells.toArray, by kernel_rfl, runK_i (run_eq_val _ _ v ⟨1, v.n, 0, noS⟩ w1) ?_⟩
    refine condK_p (fun e1 => ?_) fun e1 => no _ g ?_
    · refine ld1K_i l1 ?_
      rw [eqK_i]
      refine condK_p (fun e2 => ?_) fun e2 => ?_
      · exact key true _ g (by simp only [true_iff]; exact .inl ⟨k1, e1, .inl e2⟩)
      · refine ld1K_i l1 ?_
        rw [eqK_i]
        refine key _ _ g ?_
        rw [decide_eq_true_eq]
        refine ⟨fun h => .inl ⟨k1, e1, .inr h⟩, fun h => ?_⟩
        rcases h with h | h | h | h
        · exact h.2.2.resolve_left e2
        · omega
        · omega
        · omega
    · rintro (h | h | h | h)
      · exact e1 h.2.1
      · omega
      · omega
      · omega
  rw [eqK_i]
  refine condK_p (fun k2 => ?_) fun k2 => ?_
  · refine ldnK_i rfl hall (ld1K_i l1 ?_)
    refine ⟨(⟨2, v.n, 0, noS⟩ : AVal).cells.toArray, by kernel_rfl, runK_i (run_eq_val _ _ v ⟨2, v.n, 0, noS⟩ w1) ?_⟩
    refine key _ _ g ?_
    rw [decide_eq_true_eq]
    refine ⟨fun h => .inr (.inl ⟨k2, h⟩), fun h => ?_⟩
    rcases h with h | h | h | h
    · omega
    · exact h.2
    · omega
    · omega
  rw [eqK_i]
  refine condK_p (fun k3 => ?_) fun k3 => ?_
  · refine ldnK_i rfl hall (ld1K_i l2 ?_)
    refine ⟨(⟨3, 0, v.f, noS⟩ : AVal).cells.toArray, by kernel_rfl, runK_i (run_eq_val _ _ v ⟨3, 0, v.f, noS⟩ w1) ?_⟩
    refine condK_p (fun e1 => ?_) fun e1 => no _ g ?_
    · refine ld1K_i l2 (callK_mono none_ok ?_)
      rintro v2 w2 ⟨rfl, rfl⟩
      rw [notK_i]
      refine condK_neg (fun e2 => ?_) fun e2 => ?_
      · refine ld1K_i l2 ?_
        rw [eqK_i]
        refine key _ _ g ?_
        rw [decide_eq_true_eq]
        refine ⟨fun h => .inr (.inr (.inl ⟨k3, e1, .inr h⟩)), fun h => ?_⟩
        rcases h with h | h | h | h
        · omega
        · omega
        · exact h.2.2.resolve_left fun h => h e2
        · omega
      · exact key true _ g (by simp only [true_iff]; exact .inr (.inr (.inl ⟨k3, e1, .inl e2⟩)))
    · rintro (h | h | h | h)
      · omega
      · omega
      · exact e1 h.2.1
      · omega
  rw [eqK_i]
  refine condK_p (fun k4 => ?_) fun k4 => no _ g ?_
  · refine ld1K_i l3 (strbytes hs fun v2 w2 g2 hb => callK_mono (read_ok hb ?_) ?_)
    · have : (bytesL v.s).length = v.s.size := by simp [bytesL]
      omega
    rintro v3 w3 ⟨g3, hm⟩
    have g13 := g2.trans g3
    have g03 := g.trans g13
    have sh : ∃ sl, v3 = .tuple #[sl, .int .i64 (if (readB (bytesL v.s)).isSome then 0 else 3)] := by
      cases hr : readB (bytesL v.s) with
      | none => rw [hr] at hm; exact ⟨_, by rw [hm]; rfl⟩
      | some l => rw [hr] at hm; obtain ⟨sl, e, _⟩ := hm; exact ⟨sl, by rw [e]; rfl⟩
    obtain ⟨sl, rfl⟩ := sh
    refine extK_i (vs := [sl, .int .i64 (if (readB (bytesL v.s)).isSome then 0 else 3)]) (by rfl) (extK_i (vs := [sl, .int .i64 (if (readB (bytesL v.s)).isSome then 0 else 3)]) (by rfl) ?_)
    refine ldnK_i rfl (fun j u hu => g13.cell (hall j u hu) fun h => h) (ld1K_i (g13.cell l3 fun h => h) ?_)
    refine ⟨(⟨4, 0, 0, v.s⟩ : AVal).cells.toArray, by kernel_rfl, runK_i (run_eq_val _ _ v ⟨4, 0, 0, v.s⟩ w3) ?_⟩
    refine condK_p (fun e1 => ?_) fun e1 => no _ g03 ?_
    · refine ld1K_i (g13.cell l3 fun h => h) ?_
      rw [slenK_i, leK_i]
      refine condK_p (fun e2 => ?_) fun e2 => no _ g03 ?_
      · rw [eqK_i]
        refine key _ _ g03 ?_
        rw [decide_eq_true_eq]
        constructor
        · intro h
          refine .inr (.inr (.inr ⟨k4, e1, by omega, ?_⟩))
          cases hr : (readB (bytesL v.s)).isSome with
          | true => rfl
          | false => rw [hr] at h; simp at h
        · intro h
          rcases h with h | h | h | h
          · omega
          · omega
          · omega
          · rw [h.2.2.2]; rfl
      · rintro (h | h | h | h)
        · omega
        · omega
        · omega
        · have := h.2.2.1; omega
    · rintro (h | h | h | h)
      · omega
      · omega
      · omega
      · exact e1 h.2.1
  · rintro (h | h | h | h) <;> omega

/-! ### keys -/
def DKey.zero : DKey := ⟨0, false, 0, false, false, 0⟩
def findK (keys : List DKey) (id : Int) : Option DKey := keys.find? fun k => decide (k.id = id)
theorem find_ok {S : Nat → Prop} {v : Value} {keys : List DKey} {id : Int} {w : World} (h : RKeys S w v keys) :
    callK Tryd.prog 20 [v, .int .i64 id] (fun v' w' => v' = .tuple #[.agg ((findK keys id).getD DKey.zero).cells.toArray, .bool (findK keys id).isSome] ∧ Grow w w') w := by
  apply S20_ok
  unfold S20
  obtain ⟨a, c, rfl, hm⟩ := h.shape
  simp only [maxLen] at hm
  refine newz_i fun b w1 hb hz g _ hl => ?_
  have fillBox : ∀ (k : DKey) (K' : Cont), (∀ w2, Grow w w2 → K' (.agg k.cells.toArray) w2) → stnK 6 (.pointer (some ⟨b, 0, none⟩)) (.agg k.cells.toArray) (fun w5 => ldnK 6 (.pointer (some ⟨b, 0, none⟩)) K' w5) w1 := by
    intro k K' hK'
    refine stn_over rfl (RKey.one (w := w) (x := k) rfl) hl fun w2 m2 hc2 _ => ?_
    exact ldnK_i (vs := k.cells) rfl hc2 (hK' _ (g.next m2 fun x hx e => by omega))
  refine LoopK_i (fun vs w2 => ∃ i : Nat, i ≤ keys.length ∧ vs = [.int .i64 i] ∧ w2 = w1 ∧ ∀ k ∈ keys.take i, ¬ k.id = id) (fun vs _ => keys.length - iOf vs 0) ⟨0, Nat.zero_le _, rfl, rfl, by simp⟩ ?_
  rintro vs _ ⟨i, hi, rfl, rfl, hno⟩ _
  rename World => w1
  rw [lenK_i, nth_z, List.headD_cons, ltK_i]
  refine condK_p (fun hlt => ?_) fun hge => ?_
  · have hlt' : i < keys.length := by omega
    obtain ⟨p, r, rfl, _, hr, hc, rfl⟩ := (h.grow g (by decide) fun _ _ h => h).get hlt'
    refine ixK_n hlt' ?_
    rw [faK_i, Addr.add_add]
    refine ld1K_i (hc 0 _ rfl) ?_
    rw [eqK_i]
    refine condK_p (fun he => ?_) fun he => ?_
    · refine ixK_n hlt' (ldnK_i hr (fun j u hu => by rw [Addr.add_add]; exact hc j u hu) ?_)
      have hf : findK keys id = some keys[i] := by
        unfold findK
        rw [List.find?_eq_some_iff_append]
        refine ⟨by simpa using he, keys.take i, keys.drop (i + 1), ?_, fun k hk => by simpa using hno k hk⟩
        rw [← List.drop_eq_getElem_cons hlt', List.take_append_drop]
      rw [hf]
      exact fillBox keys[i] _ fun w2 g2 => ⟨rfl, g2⟩
    · rw [addK_i, loop_step (by omega)]
      refine ⟨⟨i + 1, hlt', rfl, rfl, fun k hk => ?_⟩, by rw [iOf0, iOf0]; omega⟩
      rw [List.take_add_one, List.getElem?_eq_getElem hlt'] at hk
      rcases List.mem_append.1 hk with hk | hk
      · exact hno k hk
      · simp at hk; subst hk; exact he
  · have : i = keys.length := by omega
    subst this
    rw [List.take_length] at hno
    have hf : findK keys id = none := by
      unfold findK
      rw [List.find?_eq_none]
      intro k hk; simpa using hno k hk
    rw [hf]
    refine ⟨DKey.zero.cells.toArray, by kernel_rfl, ?_⟩
    exact fillBox DKey.zero _ fun w2 g2 => ⟨rfl, g2⟩
def FitsK (keys : List DKey) (id : Int) (v : AVal) : Prop := ∃ k, findK keys id = some k ∧ ValOK v ∧ v.kind = k.kind
open Classical in
theorem rfits_ok {S : Nat → Prop} {kv : Value} {keys : List DKey} {id : Int} {v : AVal} {w : World} (h : RKeys S w kv keys) (hs : v.s.size * 4 ≤ 140737488355328) :
    callK Tryd.prog 23 [kv, .int .i64 id, .agg v.cells.toArray] (fun v' w' => v' = .bool (decide (FitsK keys id v)) ∧ Grow w w') w := by
  apply S23_ok
  unfold S23
  have no : ∀ w', Grow w w' → ¬ FitsK keys id v → Value.bool false = .bool (decide (FitsK keys id v)) ∧ Grow w w' := fun w' g h => ⟨by rw [decide_eq_false h], g⟩
  refine boxn_i fun b w1 _ hz g hc _ => ?_
  refine callK_mono (find_ok (h.grow g (by decide) fun _ _ h => h)) ?_
  rintro v2 w2 ⟨rfl, g2⟩
  refine extK_i (vs := [_, _]) (by rfl) (extK_i (vs := [_, _]) (by rfl) ?_)
  generalize hk : (findK keys id).getD DKey.zero = k
  refine newst_i (vs := k.cells) rfl (RKey.one (w := w) (x := k) rfl) fun b2 w3 _ hz3 g3 hc3 _ => ?_
  have g13 := g2.trans g3
  have g03 := g.trans g13
  cases hf : findK keys id with
  | none =>
    rw [Option.isSome_none]
    exact no _ g03 (by rintro ⟨k, e, _⟩; rw [hf] at e; cases e)
  | some k' =>
    rw [hf] at hk
    simp only [Option.getD_some] at hk
    subst hk
    rw [Option.isSome_some, condK_b, if_pos rfl]
    refine ldnK_i rfl (fun j u hu => g13.cell (hc j u hu) fun h => h) (callK_mono (rval_ok hs) ?_)
    rintro v4 w4 ⟨rfl, g4⟩
    have g04 := g03.trans g4
    refine condK_p (fun ho => ?_) fun ho => no _ g04 (by rintro ⟨_, _, h, _⟩; exact ho h)
    rw [faK_i]
    refine ld1K_i ((g13.trans g4).cell (hc 0 _ rfl) fun h => h) ?_
    rw [faK_i]
    refine ld1K_i (g4.cell (hc3 2 _ rfl) fun h => h) ?_
    rw [eqK_i]
    refine ⟨?_, g04⟩
    congr 1
    rw [decide_eq_decide]
    constructor
    · intro h; exact ⟨k', hf, ho, h⟩
    · rintro ⟨k, e, _, h⟩; rw [hf] at e; cases e; exact h
end Go.Proofs.YtmfplfaeibehiaaDoor

namespace Go.Proofs.YtmfplfaeibehiaaDoor
open Go Go.K
theorem order_self (n : Nat) : (FloatKind.f64.format.order n n != some .eq) = decide (NoNum (n : Int)) := by
  have h1 : Ieee.double.signWeight = 9223372036854775808 := by decide
  have h2 : Ieee.double.infRung = 9218868437227405312 := by decide
  have h3 : Ieee.double.binade = 4503599627370496 := by decide
  have hN : NoNum (n : Int) ↔ 9218868437227405312 < n % 9223372036854775808 := by
    unfold NoNum
    rw [Int.tmod_eq_emod_of_nonneg (by omega)]
    omega
  have hs : ∀ x : Int, compare x x = .eq := fun x => by simp [compare, compareOfLessAndEq]
  have hn : ∀ x : Nat, compare x x = .eq := fun x => by simp [compare, compareOfLessAndEq]
  rw [show decide (NoNum (n : Int)) = decide (9218868437227405312 < n % 9223372036854775808) from decide_eq_decide.2 hN]
  show ((Ieee.double.read n).order (Ieee.double.read n) != some .eq) = _
  unfold Ieee.Format.read
  simp only [h1, h2, h3]
  split
  · rename_i hh
    have : ¬ 9218868437227405312 < n % 9223372036854775808 := by omega
    simp only [Ieee.Datum.order, hs, decide_eq_false this]; rfl
  · split
    · have : ¬ 9218868437227405312 < n % 9223372036854775808 := by omega
      simp only [Ieee.Datum.order, hs, decide_eq_false this]; rfl
    · split
      · have : ¬ 9218868437227405312 < n % 9223372036854775808 := by omega
        simp only [Ieee.Datum.order, hn, decide_eq_false this]; rfl
      · have : 9218868437227405312 < n % 9223372036854775808 := by omega
        simp only [Ieee.Datum.order, decide_eq_true this]; rfl
/-- what a word of eight bytes is, as far as the test of the eighth bits goes -/
def U64 (x : Int) : Prop := 0 ≤ x ∧ x < 18446744073709551616
def orN (a b : Int) : Int := ((a.toNat ||| b.toNat : Nat) : Int)
theorem wrapu64 {x : Int} (h : U64 x) : IntKind.u64.wrap x = x := by
  have e1 : (2 : Int) ^ IntKind.u64.bits = 18446744073709551616 := by decide
  unfold U64 at h
  simp only [IntKind.wrap, e1, IntKind.signed, Bool.false_and]
  rw [if_neg (by decide)]
  omega
theorem bv_or {a b : Int} (ha : U64 a) (hb : U64 b) : ((BitVec.ofInt 64 a ||| BitVec.ofInt 64 b).toNat : Int) = orN a b := by
  unfold U64 at ha hb
  unfold orN
  rw [BitVec.toNat_or, BitVec.toNat_ofInt, BitVec.toNat_ofInt]
  have e : ((2 ^ 64 : Nat) : Int) = 18446744073709551616 := by decide
  rw [e, Int.emod_eq_of_lt ha.1 ha.2, Int.emod_eq_of_lt hb.1 hb.2]
theorem bv_and {a b : Int} (ha : U64 a) (hb : U64 b) : ((BitVec.ofInt 64 a &&& BitVec.ofInt 64 b).toNat : Int) = ((a.toNat &&& b.toNat : Nat) : Int) := by
  unfold U64 at ha hb
  rw [BitVec.toNat_and, BitVec.toNat_ofInt, BitVec.toNat_ofInt]
  have e : ((2 ^ 64 : Nat) : Int) = 18446744073709551616 := by decide
  rw [e, Int.emod_eq_of_lt ha.1 ha.2, Int.emod_eq_of_lt hb.1 hb.2]
theorem orN_U {a b : Int} (ha : U64 a) (hb : U64 b) : U64 (orN a b) := by
  unfold U64 at *
  unfold orN
  have : a.toNat ||| b.toNat < 2 ^ 64 := Nat.or_lt_two_pow (by omega) (by omega)
  omega
def HiB (x : Int) (j : Nat) : Prop := x.toNat.testBit (8 * j + 7) = true
theorem HiB.l {a b : Int} {j : Nat} (h : HiB a j) : HiB (orN a b) j := by
  unfold HiB orN at *
  rw [Int.toNat_natCast, Nat.testBit_or, h, Bool.true_or]
theorem HiB.r {a b : Int} {j : Nat} (h : HiB b j) : HiB (orN a b) j := by
  unfold HiB orN at *
  rw [Int.toNat_natCast, Nat.testBit_or, h, Bool.or_true]
theorem hib_byte {x : Int} {j : Nat} (hj : j < 8) (h0 : 128 ≤ x) (h1 : x < 256) : U64 (x * 2 ^ (8 * j)) ∧ HiB (x * 2 ^ (8 * j)) j := by
  obtain ⟨n, rfl⟩ : ∃ n : Nat, x = n := ⟨x.toNat, by omega⟩
  have e : ((n : Int) * 2 ^ (8 * j)) = ((n * 2 ^ (8 * j) : Nat) : Int) := by rw [Int.natCast_mul, Int.natCast_pow]; rfl
  have hp : n * 2 ^ (8 * j) < 2 ^ (8 + 8 * j) := by
    rw [Nat.pow_add]
    exact Nat.mul_lt_mul_of_pos_right (by omega) (Nat.pow_pos (by decide))
  have hq : 2 ^ (8 + 8 * j) ≤ 2 ^ 64 := Nat.pow_le_pow_right (by decide) (by omega)
  refine ⟨?_, ?_⟩
  · rw [e]; unfold U64; omega
  · rw [e]; unfold HiB
    rw [Int.toNat_natCast, Nat.testBit_mul_two_pow]
    simp only [show 8 * j ≤ 8 * j + 7 by omega, decide_true, Bool.true_and, show 8 * j + 7 - 8 * j = 7 by omega]
    rw [Nat.testBit_eq_decide_div_mod_eq]
    rw [decide_eq_true_eq]
    omega
theorem hib_u {x : Int} {j : Nat} (hj : j < 8) (h0 : 0 ≤ x) (h1 : x < 256) : U64 (x * 2 ^ (8 * j)) := by
  obtain ⟨n, rfl⟩ : ∃ n : Nat, x = n := ⟨x.toNat, by omega⟩
  have e : ((n : Int) * 2 ^ (8 * j)) = ((n * 2 ^ (8 * j) : Nat) : Int) := by rw [Int.natCast_mul, Int.natCast_pow]; rfl
  have hp : n * 2 ^ (8 * j) < 2 ^ (8 + 8 * j) := by
    rw [Nat.pow_add]
    exact Nat.mul_lt_mul_of_pos_right (by omega) (Nat.pow_pos (by decide))
  have hq : 2 ^ (8 + 8 * j) ≤ 2 ^ 64 := Nat.pow_le_pow_right (by decide) (by omega)
  rw [e]; unfold U64; omega
theorem hib_none {x : Int} (h : x.toNat &&& 9259542123273814144 = 0) {j : Nat} (hj : j < 8) : ¬ HiB x j := by
  intro hx
  unfold HiB at hx
  have : (x.toNat &&& 9259542123273814144).testBit (8 * j + 7) = true := by
    rw [Nat.testBit_and, hx, Bool.true_and]
    rcases (show j = 0 ∨ j = 1 ∨ j = 2 ∨ j = 3 ∨ j = 4 ∨ j = 5 ∨ j = 6 ∨ j = 7 by omega) with rfl | rfl | rfl | rfl | rfl | rfl | rfl | rfl <;> decide
  rw [h, Nat.zero_testBit] at this
  cases this
end Go.Proofs.YtmfplfaeibehiaaDoor

namespace Go.Proofs.YtmfplfaeibehiaaDoor
open Go Go.K
/-- rubric/rubriclaw04.SchemaFits -/
def S3 (v0 v1 : Value) (K : Cont) (w : World) : Prop :=
  callK Tryd.prog 12 [v0] (fun t14 w1 =>
  extK 0 t14 fun t15 =>
  extK 1 t14 fun t16 =>
  JoinK (fun _vs w2 => ∀ _h : Env,
  buildK [(0, 1), (1, 1), (2, 1), (3, 1)] [(.int .u8 0), (.int .i64 0), (.int .u64 0), (.string (ByteArray.mk #[]))] [(0, (.int .u8 1))] fun t25 =>
  buildK [(0, 1), (1, 1), (2, 1), (3, 1)] [(.int .u8 0), (.int .i64 0), (.int .u64 0), (.string (ByteArray.mk #[]))] [(0, (.int .u8 2)), (1, (.int .i64 (-5)))] fun t26 =>
  buildK [(0, 1), (1, 1), (2, 1), (3, 1)] [(.int .u8 0), (.int .i64 0), (.int .u64 0), (.string (ByteArray.mk #[]))] [(0, (.int .u8 3)), (2, (.int .u64 9221120237041090560))] fun t27 =>
  buildK [(0, 1), (1, 1), (2, 1), (3, 1)] [(.int .u8 0), (.int .i64 0), (.int .u64 0), (.string (ByteArray.mk #[]))] [(0, (.int .u8 4)), (3, (.string (ByteArray.mk #[97])))] fun t28 =>
  runK Tryd.prog (Instr.build 31 [(0, t25), (1, t26), (2, t27), (3, t28)].toArray) (fun t29 w3 =>
  newK 31 [(.int .u8 0), (.int .i64 0), (.int .u64 0), (.string (ByteArray.mk #[])), (.int .u8 0), (.int .i64 0), (.int .u64 0), (.string (ByteArray.mk #[])), (.int .u8 0), (.int .i64 0), (.int .u64 0), (.string (ByteArray.mk #[])), (.int .u8 0), (.int .i64 0), (.int .u64 0), (.string (ByteArray.mk #[]))] (fun t7 w4 =>
  stnK 16 t7 t29 (fun w5 =>
  LoopK [(.int .i64 0), (.int .i64 0)] (fun vs_1 again w6 => ∀ _h_1 : Env,
  ltK .i64 (nth vs_1 1) (.int .i64 4) fun t31 =>
  condK t31
  (runK Tryd.prog (Instr.indexAt 31 t7 (nth vs_1 1)) (fun t36 w7 =>
  ldnK 4 t36 (fun t37 w8 =>
  callK Tryd.prog 14 [t15, v1, t37] (fun t38 w9 =>
  condK t38
  (addK .i64 (nth vs_1 0) (.int .i64 1) fun t40 =>
  addK .i64 (nth vs_1 1) (.int .i64 1) fun t41 =>
  again [t40, t41] w9)
  (addK .i64 (nth vs_1 1) (.int .i64 1) fun t41_1 =>
  again [(nth vs_1 0), t41_1] w9)) w8) w7) w6)
  (callK Tryd.prog 15 [t15, v1] (fun t45 w10 =>
  extK 0 t45 fun t46 =>
  extK 1 t45 fun t47 =>
  newK 34 [(.int .i64 0), (.bool false), (.int .u8 0), (.bool false), (.bool false), (.int .i64 0)] (fun t10 w11 =>
  stnK 6 t10 t46 (fun w12 =>
  eqK .i64 (nth vs_1 0) (.int .i64 1) fun t49 =>
  beqK t49 t47 fun t51 =>
  condK t51
  (eqK .i64 (nth vs_1 0) (.int .i64 0) fun t54 =>
  condK t54
  (notK t47 fun t62 =>
  condK t62
  (buildK [(0, 1), (1, 1), (2, 1), (3, 1)] [(.int .u8 0), (.int .i64 0), (.int .u64 0), (.string (ByteArray.mk #[]))] [] fun t73 =>
  callK Tryd.prog 14 [t15, v1, t73] (fun t74 w13 =>
  notK t74 fun t75 =>
  condK t75
  (buildK [(0, 1), (1, 1), (2, 1), (3, 1)] [(.int .u8 0), (.int .i64 0), (.int .u64 0), (.string (ByteArray.mk #[]))] [(0, (.int .u8 3)), (2, (.int .u64 9221120237041090561))] fun t80 =>
  callK Tryd.prog 14 [t15, v1, t80] (fun t81 w14 =>
  notK t81 fun t82 =>
  condK t82
  (callK Tryd.prog 13 [] (fun t85 w15 =>
  K t85 w15) w14)
  (K (.bool false) w14)) w13)
  (K (.bool false) w13)) w12)
  (faK 0 t10 fun t64 =>
  ld1K t64 (fun t65 w16 =>
  eqK .i64 t65 v1 fun t67 =>
  condK t67
  (buildK [(0, 1), (1, 1), (2, 1), (3, 1)] [(.int .u8 0), (.int .i64 0), (.int .u64 0), (.string (ByteArray.mk #[]))] [] fun t73_1 =>
  callK Tryd.prog 14 [t15, v1, t73_1] (fun t74_1 w17 =>
  notK t74_1 fun t75_1 =>
  condK t75_1
  (buildK [(0, 1), (1, 1), (2, 1), (3, 1)] [(.int .u8 0), (.int .i64 0), (.int .u64 0), (.string (ByteArray.mk #[]))] [(0, (.int .u8 3)), (2, (.int .u64 9221120237041090561))] fun t80_1 =>
  callK Tryd.prog 14 [t15, v1, t80_1] (fun t81_1 w18 =>
  notK t81_1 fun t82_1 =>
  condK t82_1
  (callK Tryd.prog 13 [] (fun t85_1 w19 =>
  K t85_1 w19) w18)
  (K (.bool false) w18)) w17)
  (K (.bool false) w17)) w16)
  (K (.bool false) w16)) w12))
  (eqK .i64 (nth vs_1 0) (.int .i64 1) fun t57 =>
  condK t57
  (notK t47 fun t62_1 =>
  condK t62_1
  (buildK [(0, 1), (1, 1), (2, 1), (3, 1)] [(.int .u8 0), (.int .i64 0), (.int .u64 0), (.string (ByteArray.mk #[]))] [] fun t73_2 =>
  callK Tryd.prog 14 [t15, v1, t73_2] (fun t74_2 w20 =>
  notK t74_2 fun t75_2 =>
  condK t75_2
  (buildK [(0, 1), (1, 1), (2, 1), (3, 1)] [(.int .u8 0), (.int .i64 0), (.int .u64 0), (.string (ByteArray.mk #[]))] [(0, (.int .u8 3)), (2, (.int .u64 9221120237041090561))] fun t80_2 =>
  callK Tryd.prog 14 [t15, v1, t80_2] (fun t81_2 w21 =>
  notK t81_2 fun t82_2 =>
  condK t82_2
  (callK Tryd.prog 13 [] (fun t85_2 w22 =>
  K t85_2 w22) w21)
  (K (.bool false) w21)) w20)
  (K (.bool false) w20)) w12)
  (faK 0 t10 fun t64_1 =>
  ld1K t64_1 (fun t65_1 w23 =>
  eqK .i64 t65_1 v1 fun t67_1 =>
  condK t67_1
  (buildK [(0, 1), (1, 1), (2, 1), (3, 1)] [(.int .u8 0), (.int .i64 0), (.int .u64 0), (.string (ByteArray.mk #[]))] [] fun t73_3 =>
  callK Tryd.prog 14 [t15, v1, t73_3] (fun t74_3 w24 =>
  notK t74_3 fun t75_3 =>
  condK t75_3
  (buildK [(0, 1), (1, 1), (2, 1), (3, 1)] [(.int .u8 0), (.int .i64 0), (.int .u64 0), (.string (ByteArray.mk #[]))] [(0, (.int .u8 3)), (2, (.int .u64 9221120237041090561))] fun t80_3 =>
  callK Tryd.prog 14 [t15, v1, t80_3] (fun t81_3 w25 =>
  notK t81_3 fun t82_3 =>
  condK t82_3
  (callK Tryd.prog 13 [] (fun t85_3 w26 =>
  K t85_3 w26) w25)
  (K (.bool false) w25)) w24)
  (K (.bool false) w24)) w23)
  (K (.bool false) w23)) w12))
  (K (.bool false) w12)))
  (K (.bool false) w12)) w11) w10) w6)) w5) w4) w3) w2) (fun J =>
  neK .i64 t16 (.int .i64 0) fun t18 =>
  condK t18
  (callK Tryd.prog 13 [] (fun t24 w27 =>
  K t24 w27) w1)
  (lenK v0 fun t21 =>
  gtK .i64 t21 (.int .i64 64) fun t22 =>
  condK t22
  (callK Tryd.prog 13 [] (fun t24_1 w28 =>
  K t24_1 w28) w1)
  (J [] w1)))) w
theorem S3_eq (v0 v1 : Value) (K : Cont) (w : World) : S3 v0 v1 K w = D Tryd.prog okf 87 (bodyOf Tryd.f3) (.node [] [] .nil (.node [] [] .nil (.cut [] [(4, 4), (17, 24)] (.node [] [] .nil (.node [] [] (.node [] [] .nil .nil) .nil)) (.node [] [] .nil (.node [] [] .nil (.node [] [] (.node [] [] .nil (.node [8, 30] [(8, 9), (30, 41)] (.node [] [] .nil (.node [] [] (.node [] [] .nil .nil) (.node [] [] (.node [] [] .nil (.node [] [] .nil (.node [] [] .nil .nil))) .nil))) .nil)) (.node [] [] .nil (.node [] [] .nil .nil)))))))) (retK Tryd.prog [.tmp 4] K) (nth [v0, v1]) w := by kernel_rfl
theorem S3_ok {v0 v1 : Value} {K : Cont} {w : World} (h : S3 v0 v1 K w) : callK Tryd.prog 3 [v0, v1] K w :=
  callK_of (P := Tryd.prog) (ok := okf) (n := 87) (fn := Tryd.f3) (c := bodyOf Tryd.f3) (rs := [.tmp 4]) (an := (.node [] [] .nil (.node [] [] .nil (.cut [] [(4, 4), (17, 24)] (.node [] [] .nil (.node [] [] (.node [] [] .nil .nil) .nil)) (.node [] [] .nil (.node [] [] .nil (.node [] [] (.node [] [] .nil (.node [8, 30] [(8, 9), (30, 41)] (.node [] [] .nil (.node [] [] (.node [] [] .nil .nil) (.node [] [] (.node [] [] .nil (.node [] [] .nil (.node [] [] .nil .nil))) .nil))) .nil)) (.node [] [] .nil (.node [] [] .nil .nil))))))))) good mixed Tryd.func3 (by kernel_rfl) (by kernel_rfl) (by kernel_rfl) (by kernel_rfl) (Eq.mp (S3_eq v0 v1 K w) h)

/-- rubric/rubriclaw04.SchemaKeys -/
def S4 (v0 v1 v2 : Value) (K : Cont) (w : World) : Prop :=
  boxnK 30 v2 (fun t5 w1 =>
  JoinK (fun _vs w2 => ∀ _h : Env,
  rowK 34 6 0 [] [] (fun t32 w3 =>
  runK Tryd.prog (Builtin.append_ #[22, 22] 22 [t32, v0].toArray) (fun t34 w4 =>
  callK Tryd.prog 12 [t34] (fun t37 w5 =>
  extK 0 t37 fun t38 =>
  extK 1 t37 fun t39 =>
  lenK t34 fun t41 =>
  LoopK [(.int .i64 0)] (fun vs_1 again w6 => ∀ _h_1 : Env,
  ltK .i64 (nth vs_1 0) t41 fun t43 =>
  condK t43
  (ixK 6 t34 (nth vs_1 0) fun t47 =>
  faK 0 t47 fun t48 =>
  ld1K t48 (fun t49 w7 =>
  addK .i64 t49 (.int .i64 1) fun t50 =>
  ixK 6 t34 (nth vs_1 0) fun t51 =>
  faK 0 t51 fun t52 =>
  st1K t52 t50 (fun w8 =>
  addK .i64 (nth vs_1 0) (.int .i64 1) fun t53 =>
  again [t53] w8) w7) w6)
  (callK Tryd.prog 16 [v0] (fun t55 w9 =>
  notK t55 fun t56 =>
  condK t56
  (pnilK t38 fun b58 =>
  condK (.bool b58)
  (eqK .i64 t39 (.int .i64 3) fun t61 =>
  condK t61
  (callK Tryd.prog 13 [] (fun t64 w10 =>
  K t64 w10) w9)
  (K (.bool false) w9))
  (K (.bool false) w9))
  (JoinK (fun _vs_2 w11 => ∀ _h_2 : Env,
  callK Tryd.prog 18 [v0] (fun t76 w12 =>
  LoopK [(.int .i64 0)] (fun vs_3 again_1 w13 => ∀ _h_3 : Env,
  ltK .i64 (nth vs_3 0) (.int .i64 2) fun t78 =>
  condK t78
  (callK Tryd.prog 19 [t38] (fun t82 w14 =>
  lenK t82 fun t84 =>
  lenK t76 fun t86 =>
  neK .i64 t84 t86 fun t87 =>
  condK t87
  (K (.bool false) w14)
  (lenK t82 fun t89 =>
  LoopK [(.int .i64 0)] (fun vs_4 again_2 w15 => ∀ _h_4 : Env,
  ltK .i64 (nth vs_4 0) t89 fun t91 =>
  condK t91
  (DrawK w15 (fun C =>
  ixK 6 t82 (nth vs_4 0) fun t95 =>
  qldnK C 6 t95 fun t96 =>
  ixK 6 t76 (nth vs_4 0) fun t99 =>
  qldnK C 6 t99 fun t100 =>
  qrunK Tryd.prog C (binS .neq 34 (.tmp 96) (.tmp 100) t96 t100) fun t101 =>
  ∀ w16 : World, C w16 →
  condK t101
  (K (.bool false) w16)
  (ixK 6 t82 (nth vs_4 0) fun t104 =>
  faK 2 t104 fun t105 =>
  st1K t105 (.int .u8 0) (fun w17 =>
  addK .i64 (nth vs_4 0) (.int .i64 1) fun t106 =>
  again_2 [t106] w17) w16)))
  (callK Tryd.prog 15 [t38, v1] (fun t110 w18 =>
  extK 0 t110 fun t111 =>
  extK 1 t110 fun t112 =>
  newK 34 [(.int .i64 0), (.bool false), (.int .u8 0), (.bool false), (.bool false), (.int .i64 0)] (fun t15 w19 =>
  stnK 6 t15 t111 (fun w20 =>
  callK Tryd.prog 20 [v0, v1] (fun t116 w21 =>
  extK 0 t116 fun t117 =>
  extK 1 t116 fun t118 =>
  newK 34 [(.int .i64 0), (.bool false), (.int .u8 0), (.bool false), (.bool false), (.int .i64 0)] (fun t17 w22 =>
  stnK 6 t17 t117 (fun w23 =>
  callK Tryd.prog 21 [t38, v1] (fun t121 w24 =>
  callK Tryd.prog 22 [v0, v1] (fun t124 w25 =>
  JoinK (fun _vs_5 w26 => ∀ _h_5 : Env,
  lenK t121 fun t152 =>
  LoopK [(.int .i64 0)] (fun vs_6 again_3 w27 => ∀ _h_6 : Env,
  ltK .i64 (nth vs_6 0) t152 fun t154 =>
  condK t154
  (DrawK w27 (fun C_1 =>
  ixK 1 t121 (nth vs_6 0) fun t158 =>
  qld1K C_1 t158 fun t159 =>
  ixK 1 t124 (nth vs_6 0) fun t162 =>
  qld1K C_1 t162 fun t163 =>
  neK .i64 t159 t163 fun t164 =>
  ∀ w28 : World, C_1 w28 →
  condK t164
  (K (.bool false) w28)
  (ixK 1 t121 (nth vs_6 0) fun t167 =>
  st1K t167 (.int .i64 (-1)) (fun w29 =>
  addK .i64 (nth vs_6 0) (.int .i64 1) fun t168 =>
  again_3 [t168] w29) w28)))
  (addK .i64 (nth vs_3 0) (.int .i64 1) fun t80 =>
  again_1 [t80] w27)) w26) (fun J_2 =>
  DrawC [12, 16] [[], [], [0, 1], [0, 1, 2], [0, 1, 2, 3], [0, 1, 2, 3], [0, 1, 2, 3, 4, 5], [0, 1, 2, 3, 4, 5, 6], [0, 1, 2, 3, 4, 5, 6, 7], [0, 1, 2, 3, 4, 5, 6, 7, 8], [0, 1, 2, 3, 4, 5, 6, 7, 8], [0, 1, 2, 3, 4, 5, 6, 7, 8], [0, 1, 2, 3, 4, 5, 6, 7, 8, 9, 10, 11], [0, 1, 2, 3, 4, 5, 6, 7, 8], [0, 1, 2, 3, 4, 5, 6, 7, 8], [0, 1, 2, 3, 4, 5, 6, 7, 8], [0, 1, 2, 3, 4, 5, 6, 7, 8, 9, 10, 11, 12, 13, 14, 15], [0, 1, 2, 3, 4, 5, 6, 7, 8, 9, 10, 11, 12, 13, 14, 15, 16], [0, 1, 2, 3, 4, 5, 6, 7, 8, 9, 10, 11, 12, 13, 14, 15, 16, 17], [0, 1, 2, 3, 4, 5, 6, 7, 8, 9, 10, 11, 12, 13, 14, 15, 16, 17, 18], [0, 1, 2, 3, 4, 5, 6, 7, 8, 9, 10, 11, 12, 13, 14, 15, 16, 17, 18, 19], [0, 1, 2, 3, 4, 5, 6, 7, 8, 9, 10, 11, 12, 13, 14, 15, 16, 17, 18, 19, 20], [0, 1, 2, 3, 4, 5, 6, 7, 8, 9, 10, 11, 12, 13, 14, 15, 16, 17, 18, 19], [0, 1, 2, 3, 4, 5, 6, 7, 8, 9, 10, 11, 12, 13, 14, 15, 16, 17, 18, 19, 22], [0, 1, 2, 3, 4, 5, 6, 7, 8, 9, 10, 11, 12, 13, 14, 15, 16, 17, 18, 19, 20, 21, 22, 23], [0, 1, 2, 3, 4, 5, 6, 7, 8, 9, 10, 11, 12, 13, 14, 15, 16, 17, 18, 19, 20, 21, 22, 23, 24]] w25.drew (fun M St =>
  sldn (St 0) 6 t15 fun t125 =>
  sldn (St 1) 6 t17 fun t126 =>
  prunK Tryd.prog (binS .neq 34 (.tmp 125) (.tmp 126) t125 t126) fun t127 =>
  condK t127
  (K (.bool false) w25.drew)
  (bneK t112 t118 fun t131 =>
  condK t131
  (K (.bool false) w25.drew)
  (sldn (St 11) 4 t5 fun t136 =>
  callK Tryd.prog 14 [t38, v1, t136] (fun t137 w30 =>
  Mod (M 12) w25.drew w30 ∧
  sldn (St 15) 4 t5 fun t140 =>
  callK Tryd.prog 23 [v0, v1, t140] (fun t141 w31 =>
  Mod (M 16) w30 w31 ∧
  bneK t137 t141 fun t142 =>
  condK t142
  (K (.bool false) w31)
  (lenK t121 fun t146 =>
  lenK t124 fun t148 =>
  neK .i64 t146 t148 fun t149 =>
  condK t149
  (K (.bool false) w31)
  (J_2 [] w31))) w30) w25.drew))))) w24) w23) w22) w21) w20) w19) w18) w15)) w14)) w13)
  (callK Tryd.prog 13 [] (fun t169 w32 =>
  K t169 w32) w13)) w12) w11) (fun J_1 =>
  neK .i64 t39 (.int .i64 0) fun t67 =>
  condK t67
  (K (.bool false) w9)
  (callK Tryd.prog 17 [t38] (fun t70 w33 =>
  lenK v0 fun t72 =>
  neK .i64 t70 t72 fun t73 =>
  condK t73
  (K (.bool false) w33)
  (J_1 [] w33)) w9)))) w6)) w5) w4) w3) w2) (fun J =>
  lenK v0 fun t23 =>
  gtK .i64 t23 (.int .i64 200) fun t24 =>
  condK t24
  (callK Tryd.prog 13 [] (fun t31 w34 =>
  K t31 w34) w1)
  (faK 3 t5 fun t26 =>
  ld1K t26 (fun t27 w35 =>
  slenK t27 fun t28 =>
  gtK .i64 t28 (.int .i64 1000) fun t29 =>
  condK t29
  (callK Tryd.prog 13 [] (fun t31_1 w36 =>
  K t31_1 w36) w35)
  (J [] w35)) w1))) w
theorem S4_eq (v0 v1 v2 : Value) (K : Cont) (w : World) : S4 v0 v1 v2 K w = D Tryd.prog okf 170 (bodyOf Tryd.f4) (.node [] [] .nil (.cut [] [(6, 6), (22, 31)] (.node [] [] .nil (.node [] [] (.node [] [] .nil .nil) .nil)) (.node [] [] .nil (.node [] [] .nil (.node [] [] (.node [] [] .nil (.node [42] [(10, 10), (42, 53)] (.node [] [] .nil (.node [] [] (.node [] [] .nil .nil) (.node [] [] (.node [] [] .nil .nil) .nil))) .nil)) (.node [] [] (.node [] [] .nil (.node [] [] (.node [] [] .nil .nil) .nil)) (.cut [] [(6, 6), (66, 74)] (.node [] [] .nil (.node [] [] (.node [] [] .nil .nil) .nil)) (.node [] [] .nil (.node [] [] (.node [] [] .nil (.node [12] [(6, 6), (12, 21), (77, 168)] (.node [] [] (.node [] [] .nil (.node [] [] .nil .nil)) (.node [] [] (.node [] [] .nil (.node [] [] (.node [] [] .nil (.node [] [] (.node [] [] .nil .nil) .nil)) (.node [] [] (.node [] [] .nil (.node [90] [(6, 6), (14, 14), (90, 106)] (.node [] [] .nil (.node [] [] (.node [] [] .nil .nil) (.node [] [] (.node [] [] .nil (.node [] [] (.node [] [] .draw (.node [] [] (.node [] [] .nil .nil) .nil)) .nil)) .nil))) .nil)) (.node [] [] .nil (.node [] [] .nil (.node [] [] .nil (.cut [] [(6, 6), (125, 150)] (.node [] [] (.dc [12, 16] [[], [], [0, 1], [0, 1, 2], [0, 1, 2, 3], [0, 1, 2, 3], [0, 1, 2, 3, 4, 5], [0, 1, 2, 3, 4, 5, 6], [0, 1, 2, 3, 4, 5, 6, 7], [0, 1, 2, 3, 4, 5, 6, 7, 8], [0, 1, 2, 3, 4, 5, 6, 7, 8], [0, 1, 2, 3, 4, 5, 6, 7, 8], [0, 1, 2, 3, 4, 5, 6, 7, 8, 9, 10, 11], [0, 1, 2, 3, 4, 5, 6, 7, 8], [0, 1, 2, 3, 4, 5, 6, 7, 8], [0, 1, 2, 3, 4, 5, 6, 7, 8], [0, 1, 2, 3, 4, 5, 6, 7, 8, 9, 10, 11, 12, 13, 14, 15], [0, 1, 2, 3, 4, 5, 6, 7, 8, 9, 10, 11, 12, 13, 14, 15, 16], [0, 1, 2, 3, 4, 5, 6, 7, 8, 9, 10, 11, 12, 13, 14, 15, 16, 17], [0, 1, 2, 3, 4, 5, 6, 7, 8, 9, 10, 11, 12, 13, 14, 15, 16, 17, 18], [0, 1, 2, 3, 4, 5, 6, 7, 8, 9, 10, 11, 12, 13, 14, 15, 16, 17, 18, 19], [0, 1, 2, 3, 4, 5, 6, 7, 8, 9, 10, 11, 12, 13, 14, 15, 16, 17, 18, 19, 20], [0, 1, 2, 3, 4, 5, 6, 7, 8, 9, 10, 11, 12, 13, 14, 15, 16, 17, 18, 19], [0, 1, 2, 3, 4, 5, 6, 7, 8, 9, 10, 11, 12, 13, 14, 15, 16, 17, 18, 19, 22], [0, 1, 2, 3, 4, 5, 6, 7, 8, 9, 10, 11, 12, 13, 14, 15, 16, 17, 18, 19, 20, 21, 22, 23], [0, 1, 2, 3, 4, 5, 6, 7, 8, 9, 10, 11, 12, 13, 14, 15, 16, 17, 18, 19, 20, 21, 22, 23, 24]] []) (.node [] [] (.node [] [] .nil .nil) .nil)) (.node [] [] .nil (.node [153] [(6, 6), (21, 21), (153, 168)] (.node [] [] .nil (.node [] [] (.node [] [] .nil .nil) (.node [] [] (.node [] [] .nil (.node [] [] (.node [] [] .draw (.node [] [] (.node [] [] .nil .nil) .nil)) .nil)) .nil))) .nil))))))))) .nil)) .nil)) (.node [] [] .nil .nil)))))))))) (retK Tryd.prog [.tmp 6] K) (nth [v0, v1, v2]) w := by kernel_rfl
theorem S4_ok {v0 v1 v2 : Value} {K : Cont} {w : World} (h : S4 v0 v1 v2 K w) : callK Tryd.prog 4 [v0, v1, v2] K w :=
  callK_of (P := Tryd.prog) (ok := okf) (n := 170) (fn := Tryd.f4) (c := bodyOf Tryd.f4) (rs := [.tmp 6]) (an := (.node [] [] .nil (.cut [] [(6, 6), (22, 31)] (.node [] [] .nil (.node [] [] (.node [] [] .nil .nil) .nil)) (.node [] [] .nil (.node [] [] .nil (.node [] [] (.node [] [] .nil (.node [42] [(10, 10), (42, 53)] (.node [] [] .nil (.node [] [] (.node [] [] .nil .nil) (.node [] [] (.node [] [] .nil .nil) .nil))) .nil)) (.node [] [] (.node [] [] .nil (.node [] [] (.node [] [] .nil .nil) .nil)) (.cut [] [(6, 6), (66, 74)] (.node [] [] .nil (.node [] [] (.node [] [] .nil .nil) .nil)) (.node [] [] .nil (.node [] [] (.node [] [] .nil (.node [12] [(6, 6), (12, 21), (77, 168)] (.node [] [] (.node [] [] .nil (.node [] [] .nil .nil)) (.node [] [] (.node [] [] .nil (.node [] [] (.node [] [] .nil (.node [] [] (.node [] [] .nil .nil) .nil)) (.node [] [] (.node [] [] .nil (.node [90] [(6, 6), (14, 14), (90, 106)] (.node [] [] .nil (.node [] [] (.node [] [] .nil .nil) (.node [] [] (.node [] [] .nil (.node [] [] (.node [] [] .draw (.node [] [] (.node [] [] .nil .nil) .nil)) .nil)) .nil))) .nil)) (.node [] [] .nil (.node [] [] .nil (.node [] [] .nil (.cut [] [(6, 6), (125, 150)] (.node [] [] (.dc [12, 16] [[], [], [0, 1], [0, 1, 2], [0, 1, 2, 3], [0, 1, 2, 3], [0, 1, 2, 3, 4, 5], [0, 1, 2, 3, 4, 5, 6], [0, 1, 2, 3, 4, 5, 6, 7], [0, 1, 2, 3, 4, 5, 6, 7, 8], [0, 1, 2, 3, 4, 5, 6, 7, 8], [0, 1, 2, 3, 4, 5, 6, 7, 8], [0, 1, 2, 3, 4, 5, 6, 7, 8, 9, 10, 11], [0, 1, 2, 3, 4, 5, 6, 7, 8], [0, 1, 2, 3, 4, 5, 6, 7, 8], [0, 1, 2, 3, 4, 5, 6, 7, 8], [0, 1, 2, 3, 4, 5, 6, 7, 8, 9, 10, 11, 12, 13, 14, 15], [0, 1, 2, 3, 4, 5, 6, 7, 8, 9, 10, 11, 12, 13, 14, 15, 16], [0, 1, 2, 3, 4, 5, 6, 7, 8, 9, 10, 11, 12, 13, 14, 15, 16, 17], [0, 1, 2, 3, 4, 5, 6, 7, 8, 9, 10, 11, 12, 13, 14, 15, 16, 17, 18], [0, 1, 2, 3, 4, 5, 6, 7, 8, 9, 10, 11, 12, 13, 14, 15, 16, 17, 18, 19], [0, 1, 2, 3, 4, 5, 6, 7, 8, 9, 10, 11, 12, 13, 14, 15, 16, 17, 18, 19, 20], [0, 1, 2, 3, 4, 5, 6, 7, 8, 9, 10, 11, 12, 13, 14, 15, 16, 17, 18, 19], [0, 1, 2, 3, 4, 5, 6, 7, 8, 9, 10, 11, 12, 13, 14, 15, 16, 17, 18, 19, 22], [0, 1, 2, 3, 4, 5, 6, 7, 8, 9, 10, 11, 12, 13, 14, 15, 16, 17, 18, 19, 20, 21, 22, 23], [0, 1, 2, 3, 4, 5, 6, 7, 8, 9, 10, 11, 12, 13, 14, 15, 16, 17, 18, 19, 20, 21, 22, 23, 24]] []) (.node [] [] (.node [] [] .nil .nil) .nil)) (.node [] [] .nil (.node [153] [(6, 6), (21, 21), (153, 168)] (.node [] [] .nil (.node [] [] (.node [] [] .nil .nil) (.node [] [] (.node [] [] .nil (.node [] [] (.node [] [] .draw (.node [] [] (.node [] [] .nil .nil) .nil)) .nil)) .nil))) .nil))))))))) .nil)) .nil)) (.node [] [] .nil .nil))))))))))) good mixed Tryd.func4 (by kernel_rfl) (by kernel_rfl) (by kernel_rfl) (by kernel_rfl) (Eq.mp (S4_eq v0 v1 v2 K w) h)

/-- rubric/rubriclaw04.SchemaNone -/
def S5 (v0 v1 : Value) (K : Cont) (w : World) : Prop :=
  boxnK 30 v1 (fun t3 w1 =>
  newK 49 [(.slice none 0 0), (.map none)] (fun t5 w2 =>
  rowK 23 1 2 [(.pointer none)] [(0, (.pointer none)), (1, t5)] (fun t11 w3 =>
  lenK t11 fun t13 =>
  LoopK [(.int .i64 0)] (fun vs again w4 => ∀ _h : Env,
  ltK .i64 (nth vs 0) t13 fun t15 =>
  condK t15
  (JoinK (fun _vs_1 w5 => ∀ _h_1 : Env,
  addK .i64 (nth vs 0) (.int .i64 1) fun t50 =>
  again [t50] w5) (fun J =>
  ixK 1 t11 (nth vs 0) fun t19 =>
  ld1K t19 (fun t20 w6 =>
  callK Tryd.prog 15 [t20, v0] (fun t24 w7 =>
  extK 0 t24 fun t25 =>
  extK 1 t24 fun t26 =>
  newK 34 [(.int .i64 0), (.bool false), (.int .u8 0), (.bool false), (.bool false), (.int .i64 0)] (fun t9 w8 =>
  stnK 6 t9 t25 (fun w9 =>
  condK t26
  (K (.bool false) w9)
  (callK Tryd.prog 17 [t20] (fun t30 w10 =>
  neK .i64 t30 (.int .i64 0) fun t31 =>
  condK t31
  (K (.bool false) w10)
  (callK Tryd.prog 19 [t20] (fun t35 w11 =>
  lenK t35 fun t36 =>
  callK Tryd.prog 21 [t20, v0] (fun t39 w12 =>
  lenK t39 fun t40 =>
  addK .i64 t36 t40 fun t41 =>
  neK .i64 t41 (.int .i64 0) fun t42 =>
  condK t42
  (K (.bool false) w12)
  (ldnK 4 t3 (fun t47 w13 =>
  callK Tryd.prog 14 [t20, v0, t47] (fun t48 w14 =>
  condK t48
  (K (.bool false) w14)
  (J [] w14)) w13) w12)) w11) w10)) w9)) w8) w7) w6) w4))
  (callK Tryd.prog 13 [] (fun t51 w15 =>
  K t51 w15) w4)) w3) w2) w1) w
theorem S5_eq (v0 v1 : Value) (K : Cont) (w : World) : S5 v0 v1 K w = D Tryd.prog okf 52 (bodyOf Tryd.f5) (.node [] [] .nil (.node [] [] .nil (.node [] [] .nil (.node [] [] (.node [] [] .nil (.node [14] [(4, 4), (7, 10), (14, 50)] (.node [] [] .nil (.node [] [] (.node [] [] .nil .nil) (.cut [] [(4, 4), (7, 10), (16, 49)] (.node [] [] .nil (.node [] [] .nil (.node [] [] .nil (.node [] [] .nil (.node [] [] (.node [] [] .nil .nil) .nil))))) .nil))) .nil)) (.node [] [] .nil .nil))))) (retK Tryd.prog [.tmp 4] K) (nth [v0, v1]) w := by kernel_rfl
theorem S5_ok {v0 v1 : Value} {K : Cont} {w : World} (h : S5 v0 v1 K w) : callK Tryd.prog 5 [v0, v1] K w :=
  callK_of (P := Tryd.prog) (ok := okf) (n := 52) (fn := Tryd.f5) (c := bodyOf Tryd.f5) (rs := [.tmp 4]) (an := (.node [] [] .nil (.node [] [] .nil (.node [] [] .nil (.node [] [] (.node [] [] .nil (.node [14] [(4, 4), (7, 10), (14, 50)] (.node [] [] .nil (.node [] [] (.node [] [] .nil .nil) (.cut [] [(4, 4), (7, 10), (16, 49)] (.node [] [] .nil (.node [] [] .nil (.node [] [] .nil (.node [] [] .nil (.node [] [] (.node [] [] .nil .nil) .nil))))) .nil))) .nil)) (.node [] [] .nil .nil)))))) good mixed Tryd.func5 (by kernel_rfl) (by kernel_rfl) (by kernel_rfl) (by kernel_rfl) (Eq.mp (S5_eq v0 v1 K w) h)

/-- (*rubric/schema.Schema).Fits -/
def S14 (v0 v1 v2 : Value) (K : Cont) (w : World) : Prop :=
  boxnK 30 v2 (fun t5 w1 =>
  callK Tryd.prog 15 [v0, v1] (fun t12 w2 =>
  extK 0 t12 fun t13 =>
  extK 1 t12 fun t14 =>
  newK 34 [(.int .i64 0), (.bool false), (.int .u8 0), (.bool false), (.bool false), (.int .i64 0)] (fun t7 w3 =>
  stnK 6 t7 t13 (fun w4 =>
  condK t14
  (faK 2 t7 fun t17 =>
  ld1K t17 (fun t18 w5 =>
  faK 0 t5 fun t19 =>
  ld1K t19 (fun t20 w6 =>
  eqK .u8 t18 t20 fun t21 =>
  condK t21
  (ldnK 4 t5 (fun t24 w7 =>
  callK Tryd.prog 46 [t24] (fun t25 w8 =>
  K t25 w8) w7) w6)
  (K (.bool false) w6)) w5) w4)
  (K (.bool false) w4)) w3) w2) w1) w
theorem S14_eq (v0 v1 v2 : Value) (K : Cont) (w : World) : S14 v0 v1 v2 K w = D Tryd.prog okf 27 (bodyOf Tryd.f14) (.node [] [] .nil (.node [] [] .nil (.node [] [] .nil .nil))) (retK Tryd.prog [.tmp 6] K) (nth [v0, v1, v2]) w := by kernel_rfl
theorem S14_ok {v0 v1 v2 : Value} {K : Cont} {w : World} (h : S14 v0 v1 v2 K w) : callK Tryd.prog 14 [v0, v1, v2] K w :=
  callK_of (P := Tryd.prog) (ok := okf) (n := 27) (fn := Tryd.f14) (c := bodyOf Tryd.f14) (rs := [.tmp 6]) (an := (.node [] [] .nil (.node [] [] .nil (.node [] [] .nil .nil)))) good mixed Tryd.func14 (by kernel_rfl) (by kernel_rfl) (by kernel_rfl) (by kernel_rfl) (Eq.mp (S14_eq v0 v1 v2 K w) h)

/-- rubric/rubricref04.Keys -/
def S18 (v0 : Value) (K : Cont) (w : World) : Prop :=
  LoopK [(.slice none 0 0), (.int .i64 1)] (fun vs again w1 => ∀ _h : Env,
  leK .i64 (nth vs 1) (.int .i64 1000) fun t8 =>
  condK t8
  (callK Tryd.prog 20 [v0, (nth vs 1)] (fun t14 w2 =>
  extK 0 t14 fun t15 =>
  extK 1 t14 fun t16 =>
  newK 34 [(.int .i64 0), (.bool false), (.int .u8 0), (.bool false), (.bool false), (.int .i64 0)] (fun t5 w3 =>
  stnK 6 t5 t15 (fun w4 =>
  condK t16
  (ldnK 6 t5 (fun t19 w5 =>
  rowK 34 6 1 [(.int .i64 0), (.bool false), (.int .u8 0), (.bool false), (.bool false), (.int .i64 0)] [(0, t19)] (fun t20 w6 =>
  runK Tryd.prog (Builtin.append_ #[22, 22] 22 [(nth vs 0), t20].toArray) (fun t21 w7 =>
  addK .i64 (nth vs 1) (.int .i64 1) fun t10 =>
  again [t21, t10] w7) w6) w5) w4)
  (addK .i64 (nth vs 1) (.int .i64 1) fun t10_1 =>
  again [(nth vs 0), t10_1] w4)) w3) w2) w1)
  (K (nth vs 0) w1)) w
theorem S18_eq (v0 : Value) (K : Cont) (w : World) : S18 v0 K w = D Tryd.prog okf 23 (bodyOf Tryd.f18) (.node [] [] .nil (.node [] [] .nil (.node [] [] (.node [] [] .nil (.node [3, 4] [(3, 21)] (.node [] [] (.node [] [] .nil (.node [] [] .nil .nil)) (.node [] [] (.node [] [] .nil (.node [] [] .nil (.node [] [] .nil .nil))) .nil)) .nil)) (.node [] [] .nil .nil)))) (retK Tryd.prog [.tmp 2] K) (nth [v0]) w := by kernel_rfl
theorem S18_ok {v0 : Value} {K : Cont} {w : World} (h : S18 v0 K w) : callK Tryd.prog 18 [v0] K w :=
  callK_of (P := Tryd.prog) (ok := okf) (n := 23) (fn := Tryd.f18) (c := bodyOf Tryd.f18) (rs := [.tmp 2]) (an := (.node [] [] .nil (.node [] [] .nil (.node [] [] (.node [] [] .nil (.node [3, 4] [(3, 21)] (.node [] [] (.node [] [] .nil (.node [] [] .nil .nil)) (.node [] [] (.node [] [] .nil (.node [] [] .nil (.node [] [] .nil .nil))) .nil)) .nil)) (.node [] [] .nil .nil))))) good mixed Tryd.func18 (by kernel_rfl) (by kernel_rfl) (by kernel_rfl) (by kernel_rfl) (Eq.mp (S18_eq v0 K w) h)

/-- rubric/rubricref04.Group -/
def S22 (v0 v1 : Value) (K : Cont) (w : World) : Prop :=
  callK Tryd.prog 20 [v0, v1] (fun t13 w1 =>
  extK 0 t13 fun t14 =>
  extK 1 t13 fun t15 =>
  newK 34 [(.int .i64 0), (.bool false), (.int .u8 0), (.bool false), (.bool false), (.int .i64 0)] (fun t6 w2 =>
  stnK 6 t6 t14 (fun w3 =>
  callK Tryd.prog 18 [v0] (fun t17 w4 =>
  LoopK [(.slice none 0 0), (.int .i64 0)] (fun vs again w5 => ∀ _h : Env,
  JoinK (fun _vs_1 w6 => ∀ _h_1 : Env,
  JoinK (fun vs_2 w7 => ∀ _h_2 : Env,
  addK .i64 (nth vs 1) (.int .i64 1) fun t31 =>
  again [(nth vs_2 0), t31] w7) (fun J_1 =>
  DrawK w6 (fun C =>
  ixK 6 t17 (nth vs 1) fun t34 =>
  faK 5 t34 fun t35 =>
  qld1K C t35 fun t36 =>
  faK 5 t6 fun t37 =>
  qld1K C t37 fun t38 =>
  eqK .i64 t36 t38 fun t39 =>
  condK t39
  (ixK 6 t17 (nth vs 1) fun t43 =>
  faK 0 t43 fun t44 =>
  qld1K C t44 fun t45 =>
  neK .i64 t45 v1 fun t47 =>
  ∀ w8 : World, C w8 →
  condK t47
  (ixK 6 t17 (nth vs 1) fun t52 =>
  faK 0 t52 fun t53 =>
  ld1K t53 (fun t54 w9 =>
  rowK 3 1 1 [(.int .i64 0)] [(0, t54)] (fun t55 w10 =>
  runK Tryd.prog (Builtin.append_ #[43, 43] 43 [(nth vs 0), t55].toArray) (fun t56 w11 =>
  J_1 [t56] w11) w10) w9) w8)
  (J_1 [(nth vs 0)] w8))
  (∀ w12 : World, C w12 →
  J_1 [(nth vs 0)] w12)))) (fun J =>
  condK t15
  (faK 5 t6 fun t20 =>
  ld1K t20 (fun t21 w16 =>
  neK .i64 t21 (.int .i64 0) fun t22 =>
  condK t22
  (lenK t17 fun t27 =>
  ltK .i64 (nth vs 1) t27 fun t28 =>
  condK t28
  (J [] w16)
  (K (nth vs 0) w16))
  (K (nth vs 0) w16)) w5)
  (K (nth vs 0) w5))) w4) w3) w2) w1) w
theorem S22_eq (v0 v1 : Value) (K : Cont) (w : World) : S22 v0 v1 K w = D Tryd.prog okf 58 (bodyOf Tryd.f22) (.node [] [] .nil (.node [] [] .nil (.node [] [] .nil (.node [] [] .nil (.node [] [] (.node [] [] .nil (.node [5, 9] [(5, 5), (9, 9), (18, 56)] (.cut [] [(18, 29)] (.node [] [] .nil (.node [] [] .nil .nil)) (.cut [5] [(5, 5), (32, 56)] (.node [] [] .draw (.node [] [] .nil .nil)) .nil)) .nil)) (.node [] [] .nil .nil)))))) (retK Tryd.prog [.tmp 4] K) (nth [v0, v1]) w := by kernel_rfl
theorem S22_ok {v0 v1 : Value} {K : Cont} {w : World} (h : S22 v0 v1 K w) : callK Tryd.prog 22 [v0, v1] K w :=
  callK_of (P := Tryd.prog) (ok := okf) (n := 58) (fn := Tryd.f22) (c := bodyOf Tryd.f22) (rs := [.tmp 4]) (an := (.node [] [] .nil (.node [] [] .nil (.node [] [] .nil (.node [] [] .nil (.node [] [] (.node [] [] .nil (.node [5, 9] [(5, 5), (9, 9), (18, 56)] (.cut [] [(18, 29)] (.node [] [] .nil (.node [] [] .nil .nil)) (.cut [5] [(5, 5), (32, 56)] (.node [] [] .draw (.node [] [] .nil .nil)) .nil)) .nil)) (.node [] [] .nil .nil))))))) good mixed Tryd.func22 (by kernel_rfl) (by kernel_rfl) (by kernel_rfl) (by kernel_rfl) (Eq.mp (S22_eq v0 v1 K w) h)

/-- rubric/value.May -/
def S46 (v0 : Value) (K : Cont) (w : World) : Prop :=
  boxnK 30 v0 (fun t1 w1 =>
  faK 0 t1 fun t5 =>
  ld1K t5 (fun t6 w2 =>
  eqK .u8 t6 (.int .u8 1) fun t8 =>
  condK t8
  (DrawK w2 (fun C =>
  qldnK C 4 t1 fun t9 =>
  faK 1 t1 fun t10 =>
  qld1K C t10 fun t11 =>
  eqK .i64 t11 (.int .i64 1) fun t12 =>
  qcallK Tryd.prog C 60 [t12] fun t13 =>
  qrunK Tryd.prog C (binS .eql 30 (.tmp 9) (.tmp 13) t9 t13) fun t14 =>
  ∀ w3 : World, C w3 →
  K t14 w3))
  (eqK .u8 t6 (.int .u8 2) fun t16 =>
  condK t16
  (DrawK w2 (fun C_1 =>
  qldnK C_1 4 t1 fun t17 =>
  faK 1 t1 fun t18 =>
  qld1K C_1 t18 fun t19 =>
  qcallK Tryd.prog C_1 61 [t19] fun t20 =>
  qrunK Tryd.prog C_1 (binS .eql 30 (.tmp 17) (.tmp 20) t17 t20) fun t21 =>
  ∀ w4 : World, C_1 w4 →
  K t21 w4))
  (eqK .u8 t6 (.int .u8 3) fun t23 =>
  condK t23
  (DrawK w2 (fun C_2 =>
  qldnK C_2 4 t1 fun t24 =>
  faK 2 t1 fun t25 =>
  qld1K C_2 t25 fun t26 =>
  qextK Tryd.prog C_2 63 [t26] fun t27 =>
  qcallK Tryd.prog C_2 62 [t27] fun t28 =>
  qrunK Tryd.prog C_2 (binS .eql 30 (.tmp 24) (.tmp 28) t24 t28) fun t29 =>
  ∀ w5 : World, C_2 w5 →
  K t29 w5))
  (eqK .u8 t6 (.int .u8 4) fun t31 =>
  condK t31
  (faK 3 t1 fun t33 =>
  ld1K t33 (fun t34 w6 =>
  callK Tryd.prog 64 [t34] (fun t35 w7 =>
  extK 0 t35 fun t36 =>
  extK 1 t35 fun t37 =>
  newK 30 [(.int .u8 0), (.int .i64 0), (.int .u64 0), (.string (ByteArray.mk #[]))] (fun t3 w8 =>
  stnK 4 t3 t36 (fun w9 =>
  eqK .i64 t37 (.int .i64 0) fun t39 =>
  condK t39
  (ldnK 4 t1 (fun t41 w10 =>
  ldnK 4 t3 (fun t42 w11 =>
  runK Tryd.prog (binS .eql 30 (.tmp 41) (.tmp 42) t41 t42) (fun t43 w12 =>
  K t43 w12) w11) w10) w9)
  (K (.bool false) w9)) w8) w7) w6) w2)
  (K (.bool false) w2))))) w1) w
theorem S46_eq (v0 : Value) (K : Cont) (w : World) : S46 v0 K w = D Tryd.prog okf 45 (bodyOf Tryd.f46) (.node [] [] .nil (.node [] [] (.node [] [] .nil (.node [] [] .nil (.node [] [] (.node [] [] .draw .nil) (.node [] [] .nil (.node [] [] (.node [] [] .draw .nil) (.node [] [] .nil (.node [] [] (.node [] [] .draw .nil) (.node [] [] .nil (.node [] [] (.node [] [] .nil (.node [] [] .nil .nil)) .nil))))))))) (.node [] [] .nil .nil))) (retK Tryd.prog [.tmp 2] K) (nth [v0]) w := by kernel_rfl
theorem S46_ok {v0 : Value} {K : Cont} {w : World} (h : S46 v0 K w) : callK Tryd.prog 46 [v0] K w :=
  callK_of (P := Tryd.prog) (ok := okf) (n := 45) (fn := Tryd.f46) (c := bodyOf Tryd.f46) (rs := [.tmp 2]) (an := (.node [] [] .nil (.node [] [] (.node [] [] .nil (.node [] [] .nil (.node [] [] (.node [] [] .draw .nil) (.node [] [] .nil (.node [] [] (.node [] [] .draw .nil) (.node [] [] .nil (.node [] [] (.node [] [] .draw .nil) (.node [] [] .nil (.node [] [] (.node [] [] .nil (.node [] [] .nil .nil)) .nil))))))))) (.node [] [] .nil .nil)))) good mixed Tryd.func46 (by kernel_rfl) (by kernel_rfl) (by kernel_rfl) (by kernel_rfl) (Eq.mp (S46_eq v0 K w) h)

/-- rubric/value.Flag -/
def S60 (v0 : Value) (K : Cont) (w : World) : Prop :=
  newK 30 [(.int .u8 0), (.int .i64 0), (.int .u64 0), (.string (ByteArray.mk #[]))] (fun t2 w1 =>
  buildK [(0, 1), (1, 1), (2, 1), (3, 1)] [(.int .u8 0), (.int .i64 0), (.int .u64 0), (.string (ByteArray.mk #[]))] [(0, (.int .u8 1))] fun t4 =>
  newK 30 [(.int .u8 0), (.int .i64 0), (.int .u64 0), (.string (ByteArray.mk #[]))] (fun t3 w2 =>
  stnK 4 t3 t4 (fun w3 =>
  condK v0
  (faK 1 t3 fun t6 =>
  st1K t6 (.int .i64 1) (fun w4 =>
  ldnK 4 t3 (fun t7 w5 =>
  stnK 4 t2 t7 (fun w6 =>
  ldnK 4 t2 (fun r0 w7 =>
  K r0 w7) w6) w5) w4) w3)
  (ldnK 4 t3 (fun t7_1 w8 =>
  stnK 4 t2 t7_1 (fun w9 =>
  ldnK 4 t2 (fun r0_1 w10 =>
  K r0_1 w10) w9) w8) w3)) w2) w1) w
theorem S60_eq (v0 : Value) (K : Cont) (w : World) : S60 v0 K w = D Tryd.prog okf 8 (bodyOf Tryd.f60) (.node [] [] .nil (.node [] [] .nil (.node [] [] (.node [] [] .nil (.node [] [] .nil .nil)) (.node [] [] .nil .nil)))) (retK Tryd.prog [.cell 2 30] K) (nth [v0]) w := by kernel_rfl
theorem S60_ok {v0 : Value} {K : Cont} {w : World} (h : S60 v0 K w) : callK Tryd.prog 60 [v0] K w :=
  callK_of (P := Tryd.prog) (ok := okf) (n := 8) (fn := Tryd.f60) (c := bodyOf Tryd.f60) (rs := [.cell 2 30]) (an := (.node [] [] .nil (.node [] [] .nil (.node [] [] (.node [] [] .nil (.node [] [] .nil .nil)) (.node [] [] .nil .nil))))) good mixed Tryd.func60 (by kernel_rfl) (by kernel_rfl) (by kernel_rfl) (by kernel_rfl) (Eq.mp (S60_eq v0 K w) h)

/-- rubric/value.Int -/
def S61 (v0 : Value) (K : Cont) (w : World) : Prop :=
  newK 30 [(.int .u8 0), (.int .i64 0), (.int .u64 0), (.string (ByteArray.mk #[]))] (fun t2 w1 =>
  buildK [(0, 1), (1, 1), (2, 1), (3, 1)] [(.int .u8 0), (.int .i64 0), (.int .u64 0), (.string (ByteArray.mk #[]))] [(0, (.int .u8 2)), (1, v0)] fun t4 =>
  stnK 4 t2 t4 (fun w2 =>
  ldnK 4 t2 (fun r0 w3 =>
  K r0 w3) w2) w1) w
theorem S61_eq (v0 : Value) (K : Cont) (w : World) : S61 v0 K w = D Tryd.prog okf 5 (bodyOf Tryd.f61) (.node [] [] .nil (.node [] [] .nil .nil)) (retK Tryd.prog [.cell 2 30] K) (nth [v0]) w := by kernel_rfl
theorem S61_ok {v0 : Value} {K : Cont} {w : World} (h : S61 v0 K w) : callK Tryd.prog 61 [v0] K w :=
  callK_of (P := Tryd.prog) (ok := okf) (n := 5) (fn := Tryd.f61) (c := bodyOf Tryd.f61) (rs := [.cell 2 30]) (an := (.node [] [] .nil (.node [] [] .nil .nil))) good mixed Tryd.func61 (by kernel_rfl) (by kernel_rfl) (by kernel_rfl) (by kernel_rfl) (Eq.mp (S61_eq v0 K w) h)

/-- rubric/value.Float -/
def S62 (v0 : Value) (K : Cont) (w : World) : Prop :=
  newK 30 [(.int .u8 0), (.int .i64 0), (.int .u64 0), (.string (ByteArray.mk #[]))] (fun t2 w1 =>
  callK Tryd.prog 82 [v0] (fun t4 w2 =>
  condK t4
  (buildK [(0, 1), (1, 1), (2, 1), (3, 1)] [(.int .u8 0), (.int .i64 0), (.int .u64 0), (.string (ByteArray.mk #[]))] [(0, (.int .u8 3)), (2, (.int .u64 9221120237041090560))] fun t5 =>
  stnK 4 t2 t5 (fun w3 =>
  ldnK 4 t2 (fun r0 w4 =>
  K r0 w4) w3) w2)
  (extcK Tryd.prog 83 [v0] (fun t7 w5 =>
  buildK [(0, 1), (1, 1), (2, 1), (3, 1)] [(.int .u8 0), (.int .i64 0), (.int .u64 0), (.string (ByteArray.mk #[]))] [(0, (.int .u8 3)), (2, t7)] fun t8 =>
  stnK 4 t2 t8 (fun w6 =>
  ldnK 4 t2 (fun r0_1 w7 =>
  K r0_1 w7) w6) w5) w2)) w1) w
theorem S62_eq (v0 : Value) (K : Cont) (w : World) : S62 v0 K w = D Tryd.prog okf 9 (bodyOf Tryd.f62) (.node [] [] .nil (.node [] [] (.node [] [] .nil (.node [] [] (.node [] [] .nil .nil) .nil)) (.node [] [] .nil .nil))) (retK Tryd.prog [.cell 2 30] K) (nth [v0]) w := by kernel_rfl
theorem S62_ok {v0 : Value} {K : Cont} {w : World} (h : S62 v0 K w) : callK Tryd.prog 62 [v0] K w :=
  callK_of (P := Tryd.prog) (ok := okf) (n := 9) (fn := Tryd.f62) (c := bodyOf Tryd.f62) (rs := [.cell 2 30]) (an := (.node [] [] .nil (.node [] [] (.node [] [] .nil (.node [] [] (.node [] [] .nil .nil) .nil)) (.node [] [] .nil .nil)))) good mixed Tryd.func62 (by kernel_rfl) (by kernel_rfl) (by kernel_rfl) (by kernel_rfl) (Eq.mp (S62_eq v0 K w) h)

/-- rubric/value.Text -/
def S64 (v0 : Value) (K : Cont) (w : World) : Prop :=
  newK 30 [(.int .u8 0), (.int .i64 0), (.int .u64 0), (.string (ByteArray.mk #[]))] (fun t2 w1 =>
  slenK v0 fun t7 =>
  gtK .i64 t7 (.int .i64 64) fun t8 =>
  condK t8
  (buildK [(0, 1), (1, 1), (2, 1), (3, 1)] [(.int .u8 0), (.int .i64 0), (.int .u64 0), (.string (ByteArray.mk #[]))] [] fun t9 =>
  stnK 4 t2 t9 (fun w2 =>
  ldnK 4 t2 (fun r0 w3 =>
  K (.tuple #[r0, (.int .i64 3)]) w3) w2) w1)
  (runK Tryd.prog (convert 9 54 v0) (fun t12 w4 =>
  callK Tryd.prog 84 [t12] (fun t13 w5 =>
  extK 0 t13 fun _t14 =>
  extK 1 t13 fun t15 =>
  neK .i64 t15 (.int .i64 0) fun t17 =>
  condK t17
  (buildK [(0, 1), (1, 1), (2, 1), (3, 1)] [(.int .u8 0), (.int .i64 0), (.int .u64 0), (.string (ByteArray.mk #[]))] [] fun t18 =>
  stnK 4 t2 t18 (fun w6 =>
  ldnK 4 t2 (fun r0_1 w7 =>
  K (.tuple #[r0_1, t15]) w7) w6) w5)
  (buildK [(0, 1), (1, 1), (2, 1), (3, 1)] [(.int .u8 0), (.int .i64 0), (.int .u64 0), (.string (ByteArray.mk #[]))] [(0, (.int .u8 4)), (3, v0)] fun t21 =>
  stnK 4 t2 t21 (fun w8 =>
  ldnK 4 t2 (fun r0_2 w9 =>
  K (.tuple #[r0_2, (.int .i64 0)]) w9) w8) w5)) w4) w1)) w
theorem S64_eq (v0 : Value) (K : Cont) (w : World) : S64 v0 K w = D Tryd.prog okf 22 (bodyOf Tryd.f64) (.node [] [] .nil (.node [] [] (.node [] [] .nil (.node [] [] (.node [] [] .nil .nil) .nil)) (.node [] [] (.node [] [] .nil (.node [] [] .nil (.node [] [] (.node [] [] .nil .nil) .nil))) (.node [] [] .nil .nil)))) (retK Tryd.prog [.cell 2 30, .tmp 3] K) (nth [v0]) w := by kernel_rfl
theorem S64_ok {v0 : Value} {K : Cont} {w : World} (h : S64 v0 K w) : callK Tryd.prog 64 [v0] K w :=
  callK_of (P := Tryd.prog) (ok := okf) (n := 22) (fn := Tryd.f64) (c := bodyOf Tryd.f64) (rs := [.cell 2 30, .tmp 3]) (an := (.node [] [] .nil (.node [] [] (.node [] [] .nil (.node [] [] (.node [] [] .nil .nil) .nil)) (.node [] [] (.node [] [] .nil (.node [] [] .nil (.node [] [] (.node [] [] .nil .nil) .nil))) (.node [] [] .nil .nil))))) good mixed Tryd.func64 (by kernel_rfl) (by kernel_rfl) (by kernel_rfl) (by kernel_rfl) (Eq.mp (S64_eq v0 K w) h)

/-- math.IsNaN -/
def S82 (v0 : Value) (K : Cont) (w : World) : Prop :=
  runK Tryd.prog (binS .neq 111 (.tmp 3) (.tmp 4) v0 v0) (fun t5 w1 =>
  K t5 w1) w
theorem S82_eq (v0 : Value) (K : Cont) (w : World) : S82 v0 K w = D Tryd.prog okf 6 (bodyOf Tryd.f82) (.node [] [] .nil (.node [] [] .nil .nil)) (retK Tryd.prog [.tmp 2] K) (nth [v0]) w := by kernel_rfl
theorem S82_ok {v0 : Value} {K : Cont} {w : World} (h : S82 v0 K w) : callK Tryd.prog 82 [v0] K w :=
  callK_of (P := Tryd.prog) (ok := okf) (n := 6) (fn := Tryd.f82) (c := bodyOf Tryd.f82) (rs := [.tmp 2]) (an := (.node [] [] .nil (.node [] [] .nil .nil))) good mixed Tryd.func82 (by kernel_rfl) (by kernel_rfl) (by kernel_rfl) (by kernel_rfl) (Eq.mp (S82_eq v0 K w) h)

/-- rubric/runes.Read -/
def S84 (v0 : Value) (K : Cont) (w : World) : Prop :=
  callK Tryd.prog 93 [v0] (fun t8 w1 =>
  notK t8 fun t9 =>
  condK t9
  (K (.tuple #[(.slice none 0 0), (.int .i64 3)]) w1)
  (runK Tryd.prog (convert 54 9 v0) (fun t11 w2 =>
  runK Tryd.prog (Instr.range 9 t11) (fun t12 w3 =>
  LoopK [(.slice none 0 0)] (fun vs again w4 => ∀ _h : Env,
  runK Tryd.prog (Instr.next t12 true 0) (fun t13 w5 =>
  extK 0 t13 fun t14 =>
  condK t14
  (extK 2 t13 fun t15 =>
  rowK 21 1 1 [(.int .i32 0)] [(0, t15)] (fun t18 w6 =>
  runK Tryd.prog (Builtin.append_ #[116, 116] 116 [(nth vs 0), t18].toArray) (fun t19 w7 =>
  again [t19] w7) w6) w5)
  (K (.tuple #[(nth vs 0), (.int .i64 0)]) w5)) w4) w3) w2) w1)) w
theorem S84_eq (v0 : Value) (K : Cont) (w : World) : S84 v0 K w = D Tryd.prog okf 21 (bodyOf Tryd.f84) (.node [] [] .nil (.node [] [] (.node [] [] .nil (.node [] [] (.node [] [] .nil .nil) .nil)) (.node [] [] .nil (.node [] [] (.node [] [] .nil (.node [4] [(4, 4), (6, 6), (13, 19)] (.node [] [] .nil (.node [] [] (.node [] [] .nil .nil) (.node [] [] .nil .nil))) .nil)) (.node [] [] .nil .nil))))) (retK Tryd.prog [.tmp 2, .tmp 3] K) (nth [v0]) w := by kernel_rfl
theorem S84_ok {v0 : Value} {K : Cont} {w : World} (h : S84 v0 K w) : callK Tryd.prog 84 [v0] K w :=
  callK_of (P := Tryd.prog) (ok := okf) (n := 21) (fn := Tryd.f84) (c := bodyOf Tryd.f84) (rs := [.tmp 2, .tmp 3]) (an := (.node [] [] .nil (.node [] [] (.node [] [] .nil (.node [] [] (.node [] [] .nil .nil) .nil)) (.node [] [] .nil (.node [] [] (.node [] [] .nil (.node [4] [(4, 4), (6, 6), (13, 19)] (.node [] [] .nil (.node [] [] (.node [] [] .nil .nil) (.node [] [] .nil .nil))) .nil)) (.node [] [] .nil .nil)))))) good mixed Tryd.func84 (by kernel_rfl) (by kernel_rfl) (by kernel_rfl) (by kernel_rfl) (Eq.mp (S84_eq v0 K w) h)

/-- unicode/utf8.Valid -/
def S93 (v0 : Value) (K : Cont) (w : World) : Prop :=
  lenK v0 fun t9 =>
  lenK v0 fun t11 =>
  runK Tryd.prog (Instr.sliceAt 54 v0 none (some t9) (some t11)) (fun t12 w1 =>
  LoopK [t12] (fun vs again w2 => ∀ _h : Env,
  lenK (nth vs 0) fun t14 =>
  gtK .i64 t14 (.int .i64 0) fun t15 =>
  condK t15
  (ixK 1 (nth vs 0) (.int .i64 0) fun t17 =>
  ld1K t17 (fun t18 w3 =>
  ltK .u8 t18 (.int .u8 128) fun t20 =>
  condK t20
  (runK Tryd.prog (Instr.sliceAt 54 (nth vs 0) (some (.int .i64 1)) none none) (fun t22 w4 =>
  JoinK (fun vs_1 w5 => ∀ _h_1 : Env,
  condK (nth vs_1 0)
  (runK Tryd.prog (Instr.sliceAt 54 t22 (some (.int .i64 8)) none none) (fun t33 w6 =>
  JoinK (fun vs_2 w7 => ∀ _h_2 : Env,
  condK (nth vs_2 0)
  (runK Tryd.prog (Instr.sliceAt 54 t33 (some (.int .i64 16)) none none) (fun t48 w8 =>
  LoopK [t48] (fun vs_3 again_1 w9 => ∀ _h_3 : Env,
  DrawK w9 (fun C =>
  lenK (nth vs_3 0) fun t50 =>
  gtK .i64 t50 (.int .i64 32) fun t51 =>
  condK t51
  (qcallK Tryd.prog C 97 [(nth vs_3 0)] fun t54 =>
  qrunK Tryd.prog C (Instr.sliceAt 54 (nth vs_3 0) (some (.int .i64 8)) none none) fun t56 =>
  qcallK Tryd.prog C 97 [t56] fun t57 =>
  qrunK Tryd.prog C (binS .or 12 (.tmp 54) (.tmp 57) t54 t57) fun t58 =>
  qrunK Tryd.prog C (Instr.sliceAt 54 (nth vs_3 0) (some (.int .i64 16)) none none) fun t60 =>
  qcallK Tryd.prog C 97 [t60] fun t61 =>
  qrunK Tryd.prog C (Instr.sliceAt 54 (nth vs_3 0) (some (.int .i64 24)) none none) fun t63 =>
  qcallK Tryd.prog C 97 [t63] fun t64 =>
  qrunK Tryd.prog C (binS .or 12 (.tmp 61) (.tmp 64) t61 t64) fun t65 =>
  qrunK Tryd.prog C (binS .or 12 (.tmp 58) (.tmp 65) t58 t65) fun t66 =>
  qrunK Tryd.prog C (binS .and 12 (.tmp 66) (.const (.int .u64 9259542123273814144)) t66 (.int .u64 9259542123273814144)) fun t67 =>
  eqK .u64 t67 (.int .u64 0) fun t68 =>
  ∀ w10 : World, C w10 →
  condK t68
  (runK Tryd.prog (Instr.sliceAt 54 (nth vs_3 0) (some (.int .i64 32)) none none) (fun t71 w11 =>
  again_1 [t71] w11) w10)
  (again [(nth vs_3 0)] w10))
  (∀ w12 : World, C w12 →
  again [(nth vs_3 0)] w12))) w8) w7)
  (again [t33] w7)) (fun J_1 =>
  DrawK w6 (fun C_1 =>
  lenK t33 fun t35 =>
  gtK .i64 t35 (.int .i64 16) fun t36 =>
  condK t36
  (qcallK Tryd.prog C_1 97 [t33] fun t39 =>
  qrunK Tryd.prog C_1 (Instr.sliceAt 54 t33 (some (.int .i64 8)) none none) fun t41 =>
  qcallK Tryd.prog C_1 97 [t41] fun t42 =>
  qrunK Tryd.prog C_1 (binS .or 12 (.tmp 39) (.tmp 42) t39 t42) fun t43 =>
  qrunK Tryd.prog C_1 (binS .and 12 (.tmp 43) (.const (.int .u64 9259542123273814144)) t43 (.int .u64 9259542123273814144)) fun t44 =>
  eqK .u64 t44 (.int .u64 0) fun t45 =>
  ∀ w14 : World, C_1 w14 →
  J_1 [t45] w14)
  (∀ w15 : World, C_1 w15 →
  J_1 [(.bool false)] w15)))) w5)
  (again [t22] w5)) (fun J =>
  lenK t22 fun t24 =>
  gtK .i64 t24 (.int .i64 8) fun t25 =>
  condK t25
  (callK Tryd.prog 97 [t22] (fun t28 w16 =>
  runK Tryd.prog (binS .and 12 (.tmp 28) (.const (.int .u64 9259542123273814144)) t28 (.int .u64 9259542123273814144)) (fun t29 w17 =>
  eqK .u64 t29 (.int .u64 0) fun t30 =>
  J [t30] w17) w16) w4)
  (J [(.bool false)] w4))) w3)
  (runK Tryd.prog (Instr.indexAt 152 (.pointer (some ⟨1, 0, none⟩)) t18) (fun t73 w18 =>
  ld1K t73 (fun t74 w19 =>
  runK Tryd.prog (binS .and 5 (.tmp 75) (.const (.int .u8 7)) t74 (.int .u8 7)) (fun t76 w20 =>
  runK Tryd.prog (convert 5 3 t76) (fun t77 w21 =>
  runK Tryd.prog (binS .shr 5 (.tmp 78) (.const (.int .u64 4)) t74 (.int .u64 4)) (fun t79 w22 =>
  runK Tryd.prog (Instr.indexAt 155 (.pointer (some ⟨2, 0, none⟩)) t79) (fun t80 w23 =>
  ldnK 2 t80 (fun t81 w24 =>
  newK 154 [(.int .u8 0), (.int .u8 0)] (fun t6 w25 =>
  stnK 2 t6 t81 (fun w26 =>
  eqK .i64 t77 (.int .i64 2) fun t84 =>
  condK t84
  (JoinK (fun _vs_4 w27 => ∀ _h_4 : Env,
  runK Tryd.prog (Instr.sliceAt 54 (nth vs 0) (some (.int .i64 2)) none none) (fun t105 w28 =>
  again [t105] w28) w27) (fun J_2 =>
  DrawK w26 (fun C_2 =>
  lenK (nth vs 0) fun t86 =>
  ltK .i64 t86 (.int .i64 2) fun t87 =>
  condK t87
  (∀ w29 : World, C_2 w29 →
  K (.bool false) w29)
  (ixK 1 (nth vs 0) (.int .i64 1) fun t90 =>
  qld1K C_2 t90 fun t91 =>
  faK 0 t6 fun t92 =>
  qld1K C_2 t92 fun t93 =>
  ltK .u8 t91 t93 fun t94 =>
  condK t94
  (∀ w30 : World, C_2 w30 →
  K (.bool false) w30)
  (faK 1 t6 fun t97 =>
  qld1K C_2 t97 fun t98 =>
  ixK 1 (nth vs 0) (.int .i64 1) fun t100 =>
  qld1K C_2 t100 fun t101 =>
  ltK .u8 t98 t101 fun t102 =>
  ∀ w31 : World, C_2 w31 →
  condK t102
  (K (.bool false) w31)
  (J_2 [] w31))))))
  (eqK .i64 t77 (.int .i64 3) fun t107 =>
  condK t107
  (JoinK (fun _vs_5 w32 => ∀ _h_5 : Env,
  runK Tryd.prog (Instr.sliceAt 54 (nth vs 0) (some (.int .i64 3)) none none) (fun t140 w33 =>
  again [t140] w33) w32) (fun J_3 =>
  DrawK w26 (fun C_3 =>
  lenK (nth vs 0) fun t109 =>
  ltK .i64 t109 (.int .i64 3) fun t110 =>
  condK t110
  (∀ w34 : World, C_3 w34 →
  K (.bool false) w34)
  (ixK 1 (nth vs 0) (.int .i64 1) fun t113 =>
  qld1K C_3 t113 fun t114 =>
  faK 0 t6 fun t115 =>
  qld1K C_3 t115 fun t116 =>
  ltK .u8 t114 t116 fun t117 =>
  condK t117
  (∀ w35 : World, C_3 w35 →
  K (.bool false) w35)
  (faK 1 t6 fun t120 =>
  qld1K C_3 t120 fun t121 =>
  ixK 1 (nth vs 0) (.int .i64 1) fun t123 =>
  qld1K C_3 t123 fun t124 =>
  ltK .u8 t121 t124 fun t125 =>
  condK t125
  (∀ w36 : World, C_3 w36 →
  K (.bool false) w36)
  (ixK 1 (nth vs 0) (.int .i64 2) fun t129 =>
  qld1K C_3 t129 fun t130 =>
  ltK .u8 t130 (.int .u8 128) fun t131 =>
  condK t131
  (∀ w37 : World, C_3 w37 →
  K (.bool false) w37)
  (ixK 1 (nth vs 0) (.int .i64 2) fun t135 =>
  qld1K C_3 t135 fun t136 =>
  ltK .u8 (.int .u8 191) t136 fun t137 =>
  ∀ w38 : World, C_3 w38 →
  condK t137
  (K (.bool false) w38)
  (J_3 [] w38))))))))
  (eqK .i64 t77 (.int .i64 4) fun t142 =>
  condK t142
  (JoinK (fun _vs_6 w39 => ∀ _h_6 : Env,
  runK Tryd.prog (Instr.sliceAt 54 (nth vs 0) (some (.int .i64 4)) none none) (fun t187 w40 =>
  again [t187] w40) w39) (fun J_4 =>
  DrawK w26 (fun C_4 =>
  lenK (nth vs 0) fun t144 =>
  ltK .i64 t144 (.int .i64 4) fun t145 =>
  condK t145
  (∀ w41 : World, C_4 w41 →
  K (.bool false) w41)
  (ixK 1 (nth vs 0) (.int .i64 1) fun t148 =>
  qld1K C_4 t148 fun t149 =>
  faK 0 t6 fun t150 =>
  qld1K C_4 t150 fun t151 =>
  ltK .u8 t149 t151 fun t152 =>
  condK t152
  (∀ w42 : World, C_4 w42 →
  K (.bool false) w42)
  (faK 1 t6 fun t155 =>
  qld1K C_4 t155 fun t156 =>
  ixK 1 (nth vs 0) (.int .i64 1) fun t158 =>
  qld1K C_4 t158 fun t159 =>
  ltK .u8 t156 t159 fun t160 =>
  condK t160
  (∀ w43 : World, C_4 w43 →
  K (.bool false) w43)
  (ixK 1 (nth vs 0) (.int .i64 2) fun t164 =>
  qld1K C_4 t164 fun t165 =>
  ltK .u8 t165 (.int .u8 128) fun t166 =>
  condK t166
  (∀ w44 : World, C_4 w44 →
  K (.bool false) w44)
  (ixK 1 (nth vs 0) (.int .i64 2) fun t170 =>
  qld1K C_4 t170 fun t171 =>
  ltK .u8 (.int .u8 191) t171 fun t172 =>
  condK t172
  (∀ w45 : World, C_4 w45 →
  K (.bool false) w45)
  (ixK 1 (nth vs 0) (.int .i64 3) fun t176 =>
  qld1K C_4 t176 fun t177 =>
  ltK .u8 t177 (.int .u8 128) fun t178 =>
  condK t178
  (∀ w46 : World, C_4 w46 →
  K (.bool false) w46)
  (ixK 1 (nth vs 0) (.int .i64 3) fun t182 =>
  qld1K C_4 t182 fun t183 =>
  ltK .u8 (.int .u8 191) t183 fun t184 =>
  ∀ w47 : World, C_4 w47 →
  condK t184
  (K (.bool false) w47)
  (J_4 [] w47))))))))))
  (K (.bool false) w26)))) w25) w24) w23) w22) w21) w20) w19) w18) w3)) w2)
  (K (.bool true) w2)) w1) w
theorem S93_eq (v0 : Value) (K : Cont) (w : World) : S93 v0 K w = D Tryd.prog okf 188 (bodyOf Tryd.f93) (.node [] [] .nil (.node [] [] .nil (.node [] [] (.node [0] [(0, 0), (2, 6), (13, 187)] (.node [] [] (.node [] [] .nil (.node [] [] .nil .nil)) (.node [] [] .nil (.node [] [] (.node [] [] .nil (.node [] [] (.node [] [] .nil (.node [] [] (.cut [31] [(23, 31)] .nil (.node [] [] (.node [] [] .nil (.cut [46] [(34, 46)] .draw (.node [] [] (.node [] [] .nil (.node [0] [(0, 0), (49, 71)] (.node [] [] (.node [] [] .draw (.node [] [] .nil .nil)) .nil) .nil)) .nil))) .nil)) .nil)) .nil)) (.node [] [] .nil (.node [] [] .nil (.node [] [] .nil (.node [] [] .nil (.node [] [] .nil (.node [] [] (.cut [] [(2, 2), (85, 103)] (.node [] [] .draw (.node [] [] (.node [] [] .nil .nil) .nil)) .nil) (.node [] [] .nil (.node [] [] (.cut [] [(2, 2), (108, 138)] (.node [] [] .draw (.node [] [] (.node [] [] .nil .nil) .nil)) .nil) (.node [] [] .nil (.node [] [] (.cut [] [(2, 2), (143, 185)] (.node [] [] .draw (.node [] [] (.node [] [] .nil .nil) .nil)) .nil) (.node [] [] .nil .nil)))))))))))))) .nil) (.node [] [] .nil .nil)))) (retK Tryd.prog [.tmp 2] K) (nth [v0]) w := by kernel_rfl
theorem S93_ok {v0 : Value} {K : Cont} {w : World} (h : S93 v0 K w) : callK Tryd.prog 93 [v0] K w :=
  callK_of (P := Tryd.prog) (ok := okf) (n := 188) (fn := Tryd.f93) (c := bodyOf Tryd.f93) (rs := [.tmp 2]) (an := (.node [] [] .nil (.node [] [] .nil (.node [] [] (.node [0] [(0, 0), (2, 6), (13, 187)] (.node [] [] (.node [] [] .nil (.node [] [] .nil .nil)) (.node [] [] .nil (.node [] [] (.node [] [] .nil (.node [] [] (.node [] [] .nil (.node [] [] (.cut [31] [(23, 31)] .nil (.node [] [] (.node [] [] .nil (.cut [46] [(34, 46)] .draw (.node [] [] (.node [] [] .nil (.node [0] [(0, 0), (49, 71)] (.node [] [] (.node [] [] .draw (.node [] [] .nil .nil)) .nil) .nil)) .nil))) .nil)) .nil)) .nil)) (.node [] [] .nil (.node [] [] .nil (.node [] [] .nil (.node [] [] .nil (.node [] [] .nil (.node [] [] (.cut [] [(2, 2), (85, 103)] (.node [] [] .draw (.node [] [] (.node [] [] .nil .nil) .nil)) .nil) (.node [] [] .nil (.node [] [] (.cut [] [(2, 2), (108, 138)] (.node [] [] .draw (.node [] [] (.node [] [] .nil .nil) .nil)) .nil) (.node [] [] .nil (.node [] [] (.cut [] [(2, 2), (143, 185)] (.node [] [] .draw (.node [] [] (.node [] [] .nil .nil) .nil)) .nil) (.node [] [] .nil .nil)))))))))))))) .nil) (.node [] [] .nil .nil))))) good mixed Tryd.func93 (by kernel_rfl) (by kernel_rfl) (by kernel_rfl) (by kernel_rfl) (Eq.mp (S93_eq v0 K w) h)

/-- unicode/utf8.word[[]byte] -/
def S97 (v0 : Value) (K : Cont) (w : World) : Prop :=
  DrawK w (fun C_1 =>
  ixK 1 v0 (.int .i64 0) fun t26 =>
  qld1K C_1 t26 fun t27 =>
  qrunK Tryd.prog C_1 (convert 5 28 t27) fun t28 =>
  ixK 1 v0 (.int .i64 1) fun t30 =>
  qld1K C_1 t30 fun t31 =>
  qrunK Tryd.prog C_1 (convert 5 28 t31) fun t32 =>
  qrunK Tryd.prog C_1 (binS .shl 28 (.tmp 32) (.const (.int .u64 8)) t32 (.int .u64 8)) fun t33 =>
  qrunK Tryd.prog C_1 (binS .or 28 (.tmp 28) (.tmp 33) t28 t33) fun t34 =>
  ixK 1 v0 (.int .i64 2) fun t36 =>
  qld1K C_1 t36 fun t37 =>
  qrunK Tryd.prog C_1 (convert 5 28 t37) fun t38 =>
  qrunK Tryd.prog C_1 (binS .shl 28 (.tmp 38) (.const (.int .u64 16)) t38 (.int .u64 16)) fun t39 =>
  qrunK Tryd.prog C_1 (binS .or 28 (.tmp 34) (.tmp 39) t34 t39) fun t40 =>
  ixK 1 v0 (.int .i64 3) fun t42 =>
  qld1K C_1 t42 fun t43 =>
  qrunK Tryd.prog C_1 (convert 5 28 t43) fun t44 =>
  qrunK Tryd.prog C_1 (binS .shl 28 (.tmp 44) (.const (.int .u64 24)) t44 (.int .u64 24)) fun t45 =>
  qrunK Tryd.prog C_1 (binS .or 28 (.tmp 40) (.tmp 45) t40 t45) fun t46 =>
  ixK 1 v0 (.int .i64 4) fun t48 =>
  qld1K C_1 t48 fun t49 =>
  qrunK Tryd.prog C_1 (convert 5 28 t49) fun t50 =>
  qrunK Tryd.prog C_1 (binS .shl 28 (.tmp 50) (.const (.int .u64 32)) t50 (.int .u64 32)) fun t51 =>
  qrunK Tryd.prog C_1 (binS .or 28 (.tmp 46) (.tmp 51) t46 t51) fun t52 =>
  ixK 1 v0 (.int .i64 5) fun t54 =>
  qld1K C_1 t54 fun t55 =>
  qrunK Tryd.prog C_1 (convert 5 28 t55) fun t56 =>
  qrunK Tryd.prog C_1 (binS .shl 28 (.tmp 56) (.const (.int .u64 40)) t56 (.int .u64 40)) fun t57 =>
  qrunK Tryd.prog C_1 (binS .or 28 (.tmp 52) (.tmp 57) t52 t57) fun t58 =>
  ixK 1 v0 (.int .i64 6) fun t60 =>
  qld1K C_1 t60 fun t61 =>
  qrunK Tryd.prog C_1 (convert 5 28 t61) fun t62 =>
  qrunK Tryd.prog C_1 (binS .shl 28 (.tmp 62) (.const (.int .u64 48)) t62 (.int .u64 48)) fun t63 =>
  qrunK Tryd.prog C_1 (binS .or 28 (.tmp 58) (.tmp 63) t58 t63) fun t64 =>
  ixK 1 v0 (.int .i64 7) fun t66 =>
  qld1K C_1 t66 fun t67 =>
  qrunK Tryd.prog C_1 (convert 5 28 t67) fun t68 =>
  qrunK Tryd.prog C_1 (binS .shl 28 (.tmp 68) (.const (.int .u64 56)) t68 (.int .u64 56)) fun t69 =>
  qrunK Tryd.prog C_1 (binS .or 28 (.tmp 64) (.tmp 69) t64 t69) fun t70 =>
  ∀ w2 : World, C_1 w2 →
  K t70 w2)
theorem S97_eq (v0 : Value) (K : Cont) (w : World) : S97 v0 K w = D Tryd.prog okf 71 (bodyOf Tryd.f97) (.node [] [] .nil (.node [] [] (.node [] [] (.node [] [] .draw .nil) .nil) (.node [] [] .draw .nil))) (retK Tryd.prog [.tmp 2] K) (nth [v0]) w := by kernel_rfl
theorem S97_ok {v0 : Value} {K : Cont} {w : World} (h : S97 v0 K w) : callK Tryd.prog 97 [v0] K w :=
  callK_of (P := Tryd.prog) (ok := okf) (n := 71) (fn := Tryd.f97) (c := bodyOf Tryd.f97) (rs := [.tmp 2]) (an := (.node [] [] .nil (.node [] [] (.node [] [] (.node [] [] .draw .nil) .nil) (.node [] [] .draw .nil)))) good mixed Tryd.func97 (by kernel_rfl) (by kernel_rfl) (by kernel_rfl) (by kernel_rfl) (Eq.mp (S97_eq v0 K w) h)

end Go.Proofs.YtmfplfaeibehiaaDoor

namespace Go.K
open Go
theorem slice_lo_run {P : Program} {t e k : Nat} {i : TypeInfo} {a : Option Addr} {n c j : Nat} (ht : P.underlying t = some (.slice e)) (hi : P.info? e = some i) (hk : i.size = k) (hj : j ≤ n) (w : World) : (Instr.sliceAt t (.slice a n c) (some (.int .i64 j)) none none).run P w = .ok (sliced a j n c k) w := by
  have hel : P.elem t = e := by simp [Program.elem, ht]
  rw [run_sliceAt_slice _ _ _ _ _ _ (by rw [hel]; exact ht), run_slice_l _ _ _ _ _ (by rw [hel]; exact ht) _ _ (by omega) (by omega), hel]
  simp [sizeOf, typeInfo, hi, hk]
theorem slice_lo_sl {α : Type} {k : Nat} {R : World → List Value → α → Prop} {S : Nat → Prop} {w : World} {a : Option Addr} {n c : Nat} {l : List α} {j : Nat} (h : SlR S k R w (.slice a n c) l) (hj : j ≤ l.length) : SlR S k R w (sliced a j n c k) (l.drop j) := by
  obtain ⟨a', c', e1, h1, h2, h3⟩ := h
  cases e1
  unfold sliced
  refine ⟨_, _, by rw [List.length_drop], by rw [List.length_drop]; omega, by omega, fun q x hx => ?_⟩
  rw [List.getElem?_drop] at hx
  obtain ⟨p, r, rfl, hS, hr, hc, hR⟩ := h3 _ x hx
  have hlt := (List.getElem?_eq_some_iff.1 hx).1
  rw [if_neg (by omega)]
  refine ⟨p.add (j * k), r, rfl, by rw [add_block]; exact hS, hr, fun m u hu => ?_, hR⟩
  rw [Addr.add_add, ← Nat.add_assoc, ← Nat.add_mul]
  exact hc m u hu
theorem slice_all_run {P : Program} {t e k : Nat} {i : TypeInfo} {a : Option Addr} {n c : Nat} (ht : P.underlying t = some (.slice e)) (hi : P.info? e = some i) (hk : i.size = k) (hc : n ≤ c) (w : World) : ∃ a', (Instr.sliceAt t (.slice a n c) none (some (.int .i64 n)) (some (.int .i64 n))).run P w = .ok (.slice a' n n) w ∧ (0 < n → a' = a) := by
  have hel : P.elem t = e := by simp [Program.elem, ht]
  refine ⟨if n = 0 then a else a.map (·.add (0 * k)), ?_, fun h => ?_⟩
  · rw [run_sliceAt_slice _ _ _ _ _ _ (by rw [hel]; exact ht)]
    simp [Instr.slice, run_underlying ht, Instr.sliceBounds, run_sliceBound, hc, sizeOf, typeInfo, hi, hk, Result.andThen]
  · rw [if_neg (by omega)]
    cases a with
    | none => rfl
    | some a => simp [Addr.add]
theorem run_indexAt_arr {P : Program} {t e n s : Nat} {i : TypeInfo} {k : IntKind} {a : Addr} {j : Int} {w : World} (ht : P.underlying t = some (.array n e)) (hi : P.info? e = some i) (hs : i.size = s) (h0 : 0 ≤ j) (h1 : j < n) : (Instr.indexAt t (.pointer (some a)) (.int k j)).run P w = .ok (.pointer (some (a.add (j.toNat * s)))) w := by
  simp [Instr.indexAt, Instr.sureAddr, run_underlying ht, asIntOf, sizeOf, typeInfo, hi, hs, h0, h1, Result.andThen]
theorem run_conv {P : Program} {s d : TypeId} {q k : IntKind} {n : Int} (w : World) (hs : (P.underlying s).isSome = true) (hd : P.underlying d = some (.int k)) : (convert s d (.int q n)).run P w = .ok (.int k (k.wrap n)) w := by
  obtain ⟨e, he⟩ := Option.isSome_iff_exists.mp hs
  simp [convert, run_underlying he, run_underlying hd, Conv.intToInt]
theorem run_shl {P : Program} {t : TypeId} {xo yo : Operand} {k q : IntKind} {a : Int} {n : Nat} (w : World) (hn : n ≤ k.bits) : (binS .shl t xo yo (.int k a) (.int q n)).run P w = .ok (.int k (k.wrap (a * 2 ^ n))) w := by
  have h0 : ¬ ((n : Int) < 0) := by omega
  simp [binS, eqGuard, binOp, Op.shift, Nat.min_eq_left hn, h0]
theorem run_shr {P : Program} {t : TypeId} {xo yo : Operand} {k q : IntKind} {a : Int} {n : Nat} (w : World) (hn : n ≤ k.bits) : (binS .shr t xo yo (.int k a) (.int q n)).run P w = .ok (.int k (a.fdiv (2 ^ n))) w := by
  have h0 : ¬ ((n : Int) < 0) := by omega
  simp [binS, eqGuard, binOp, Op.shift, Nat.min_eq_left hn, h0]
theorem run_bits {P : Program} {t : TypeId} {xo yo : Operand} {k : IntKind} {a b : Int} (w : World) : (binS .or t xo yo (.int k a) (.int k b)).run P w = .ok (.int k (k.wrap (BitVec.ofInt k.bits a ||| BitVec.ofInt k.bits b).toNat)) w ∧ (binS .and t xo yo (.int k a) (.int k b)).run P w = .ok (.int k (k.wrap (BitVec.ofInt k.bits a &&& BitVec.ofInt k.bits b).toNat)) w := by
  constructor <;> simp [binS, eqGuard, binOp, Op.intBits]
end Go.K
namespace Go.Proofs.YtmfplfaeibehiaaDoor
open Go Go.K

theorem run_or64 {t : TypeId} {xo yo : Operand} {a b : Int} (w : World) (ha : U64 a) (hb : U64 b) : (binS .or t xo yo (.int .u64 a) (.int .u64 b)).run Tryd.prog w = .ok (.int .u64 (orN a b)) w := by
  rw [(run_bits w).1]
  have e : ((BitVec.ofInt IntKind.u64.bits a ||| BitVec.ofInt IntKind.u64.bits b).toNat : Int) = orN a b := bv_or ha hb
  rw [e, wrapu64 (orN_U ha hb)]
theorem run_and64 {t : TypeId} {xo yo : Operand} {a b : Int} (w : World) (ha : U64 a) (hb : U64 b) : (binS .and t xo yo (.int .u64 a) (.int .u64 b)).run Tryd.prog w = .ok (.int .u64 ((a.toNat &&& b.toNat : Nat) : Int)) w := by
  rw [(run_bits w).2]
  have e : ((BitVec.ofInt IntKind.u64.bits a &&& BitVec.ofInt IntKind.u64.bits b).toNat : Int) = ((a.toNat &&& b.toNat : Nat) : Int) := bv_and ha hb
  rw [e, wrapu64 ⟨by omega, ?_⟩]
  have := Nat.and_le_left (n := a.toNat) (m := b.toNat)
  have := ha.2
  have := ha.1
  omega
def shB (x : Int) (j : Nat) : Int := x * 2 ^ (8 * j)
/-- eight bytes as a word -/
def wordN (b : List Int) : Int := orN (orN (orN (orN (orN (orN (orN (b.getD 0 0) (shB (b.getD 1 0) 1)) (shB (b.getD 2 0) 2)) (shB (b.getD 3 0) 3)) (shB (b.getD 4 0) 4)) (shB (b.getD 5 0) 5)) (shB (b.getD 6 0) 6)) (shB (b.getD 7 0) 7)
abbrev ByteL (b : List Int) : Prop := ∀ x ∈ b, 0 ≤ x ∧ x < 256
theorem ByteL.getD {b : List Int} (h : ByteL b) (j : Nat) : 0 ≤ b.getD j 0 ∧ b.getD j 0 < 256 := by
  rw [List.getD_eq_getElem?_getD]
  cases e : b[j]? with
  | none => simp
  | some x => exact h x (List.mem_iff_getElem?.2 ⟨j, e⟩)
theorem ByteL.drop {b : List Int} (h : ByteL b) (j : Nat) : ByteL (b.drop j) := fun x hx => h x (List.mem_of_mem_drop hx)
theorem byte_U {x : Int} (h : 0 ≤ x ∧ x < 256) : U64 x := ⟨h.1, by omega⟩
theorem wordN_U {b : List Int} (h : ByteL b) : U64 (wordN b) := by
  have u : ∀ j, j < 8 → U64 (shB (b.getD j 0) j) := fun j hj => hib_u hj (h.getD j).1 (h.getD j).2
  unfold wordN
  exact orN_U (orN_U (orN_U (orN_U (orN_U (orN_U (orN_U (byte_U (h.getD 0)) (u 1 (by decide))) (u 2 (by decide))) (u 3 (by decide))) (u 4 (by decide))) (u 5 (by decide))) (u 6 (by decide))) (u 7 (by decide))
theorem wordN_hi {b : List Int} (h : ByteL b) {j : Nat} (hj : j < 8) (hx : 128 ≤ b.getD j 0) : HiB (wordN b) j := by
  have hh := (hib_byte hj hx (h.getD j).2).2
  unfold wordN
  rcases (show j = 0 ∨ j = 1 ∨ j = 2 ∨ j = 3 ∨ j = 4 ∨ j = 5 ∨ j = 6 ∨ j = 7 by omega) with rfl | rfl | rfl | rfl | rfl | rfl | rfl | rfl
  · rw [show b.getD 0 0 * 2 ^ (8 * 0) = b.getD 0 0 by omega] at hh
    exact .l (.l (.l (.l (.l (.l (.l hh))))))
  · exact .l (.l (.l (.l (.l (.l (.r hh))))))
  · exact .l (.l (.l (.l (.l (.r hh)))))
  · exact .l (.l (.l (.l (.r hh))))
  · exact .l (.l (.l (.r hh)))
  · exact .l (.l (.r hh))
  · exact .l (.r hh)
  · exact .r hh
theorem word_step {C : World → Prop} {p : Addr} {n c : Nat} {b : Int} {j : Nat} {m : Int} {xo yo : Operand} {k : Value → Prop} (hj : j < n) (hm : m = 8 * j) (hj8 : j < 8) (hb : 0 ≤ b ∧ b < 256) (hc : ∀ w, C w → w.cell? (p.add (j * 1)) = some (.int .u8 b)) (hk : k (.int .u64 (shB b j))) :
    ixK 1 (.slice (some p) n c) (.int .i64 j) fun t30 => qld1K C t30 fun t31 => qrunK Tryd.prog C (convert 5 28 t31) fun t32 => qrunK Tryd.prog C (binS .shl 28 xo yo t32 (.int .u64 m)) k := by
  refine ixK_n hj (qld1K_i hc ⟨.int .u64 (IntKind.u64.wrap b), fun w _ => run_conv (k := .u64) w (by kernel_rfl) (by kernel_rfl), ?_⟩)
  rw [wrapu64 (byte_U hb)]
  subst hm
  refine ⟨_, fun w _ => ?_, hk⟩
  have e := run_shl (P := Tryd.prog) (t := 28) (xo := xo) (yo := yo) (k := .u64) (q := .u64) (a := b) (n := 8 * j) w (by show 8 * j ≤ 64; omega)
  rw [wrapu64 (hib_u hj8 hb.1 hb.2)] at e
  have e2 : ((8 * j : Nat) : Int) = 8 * (j : Int) := by omega
  rw [e2] at e
  exact e
theorem word_ok {S : Nat → Prop} {v : Value} {b : List Int} {w : World} (h : RBytes S w v b) (hb : ByteL b) (hl : 8 ≤ b.length) :
    callK Tryd.prog 97 [v] (fun v' w' => v' = .int .u64 (wordN b) ∧ Grow w w') w := by
  apply S97_ok
  unfold S97
  obtain ⟨a, c, rfl, hm⟩ := h.shape
  have cell : ∀ j (hj : j < b.length), ∃ p, a = some p ∧ w.cell? (p.add (j * 1)) = some (.int .u8 (b.getD j 0)) := by
    intro j hj
    obtain ⟨p, r, rfl, _, hr, hc, rfl⟩ := h.get hj
    refine ⟨p, rfl, ?_⟩
    rw [List.getD_eq_getElem?_getD, List.getElem?_eq_getElem hj]
    exact hc 0 _ rfl
  obtain ⟨p, rfl, c0⟩ := cell 0 (by omega)
  have cellp : ∀ j, j < b.length → w.cell? (p.add (j * 1)) = some (.int .u8 (b.getD j 0)) := fun j hj => by obtain ⟨p', e, hc⟩ := cell j hj; cases e; exact hc
  refine drawK_i (fun w2 => Grow w w2) (Mod.drew _ _) ?_
  have hc : ∀ j, j < b.length → ∀ w2, Grow w w2 → w2.cell? (p.add (j * 1)) = some (.int .u8 (b.getD j 0)) := fun j hj w2 g => g.cell (cellp j hj) fun h => h
  have u : ∀ j, j < 8 → U64 (shB (b.getD j 0) j) := fun j hj => hib_u hj (hb.getD j).1 (hb.getD j).2
  refine ixK_n (j := 0) (by omega) (qld1K_i (hc 0 (by omega)) ⟨.int .u64 (IntKind.u64.wrap (b.getD 0 0)), fun w _ => run_conv (k := .u64) w (by kernel_rfl) (by kernel_rfl), ?_⟩)
  rw [wrapu64 (byte_U (hb.getD 0))]
  have u0 := byte_U (hb.getD 0)
  refine word_step (j := 1) (by omega) rfl (by decide) (hb.getD 1) (hc 1 (by omega)) ⟨_, fun w _ => run_or64 w u0 (u 1 (by decide)), ?_⟩
  have u1 := orN_U u0 (u 1 (by decide))
  refine word_step (j := 2) (by omega) rfl (by decide) (hb.getD 2) (hc 2 (by omega)) ⟨_, fun w _ => run_or64 w u1 (u 2 (by decide)), ?_⟩
  have u2 := orN_U u1 (u 2 (by decide))
  refine word_step (j := 3) (by omega) rfl (by decide) (hb.getD 3) (hc 3 (by omega)) ⟨_, fun w _ => run_or64 w u2 (u 3 (by decide)), ?_⟩
  have u3 := orN_U u2 (u 3 (by decide))
  refine word_step (j := 4) (by omega) rfl (by decide) (hb.getD 4) (hc 4 (by omega)) ⟨_, fun w _ => run_or64 w u3 (u 4 (by decide)), ?_⟩
  have u4 := orN_U u3 (u 4 (by decide))
  refine word_step (j := 5) (by omega) rfl (by decide) (hb.getD 5) (hc 5 (by omega)) ⟨_, fun w _ => run_or64 w u4 (u 5 (by decide)), ?_⟩
  have u5 := orN_U u4 (u 5 (by decide))
  refine word_step (j := 6) (by omega) rfl (by decide) (hb.getD 6) (hc 6 (by omega)) ⟨_, fun w _ => run_or64 w u5 (u 6 (by decide)), ?_⟩
  have u6 := orN_U u5 (u 6 (by decide))
  refine word_step (j := 7) (by omega) rfl (by decide) (hb.getD 7) (hc 7 (by omega)) ⟨_, fun w _ => run_or64 w u6 (u 7 (by decide)), ?_⟩
  exact fun w2 g => ⟨rfl, g⟩
/-- a word without a high bit: eight bytes of ASCII -/
theorem word_ascii {b : List Int} (hb : ByteL b) (h : ((wordN b).toNat &&& 9259542123273814144 : Nat) = 0) {j : Nat} (hj : j < 8) : b.getD j 0 < 128 := by
  have := hib_none h hj
  have hx : ¬ 128 ≤ b.getD j 0 := fun hx => this (wordN_hi hb hj hx)
  omega
end Go.Proofs.YtmfplfaeibehiaaDoor

namespace Go.Proofs.YtmfplfaeibehiaaDoor
open Go Go.K

/-- keys that rise, up to a place -/
def RisN {α : Type} (key : α → Int) (l : List α) (n : Nat) : Prop := ∀ i, 1 ≤ i → i < n → ∀ a b, l[i - 1]? = some a → l[i]? = some b → key a < key b
theorem ris_loop {α : Type} {k : Nat} {R : World → List Value → α → Prop} {key : α → Int} {S : Nat → Prop} {w : World} {a : Option Addr} {c : Nat} {l : List α} {K : Cont} (h : SlR S k R w (.slice a l.length c) l) (hm : l.length ≤ maxLen) (hk : 0 < k)
    (hR : ∀ w r x, R w r x → r[0]? = some (.int .i64 (key x))) (h1 : ∀ w', Grow w w' → RisN key l l.length → K (.bool true) w') (h0 : ∀ w', Grow w w' → ¬ RisN key l l.length → K (.bool false) w') :
    LoopK [(.int .i64 1)] (fun vs again w1 => ∀ _ : Env, lenK (.slice a l.length c) fun t6 => ltK .i64 (nth vs 0) t6 fun t7 => condK t7
      (DrawK w1 (fun C => subK .i64 (nth vs 0) (.int .i64 1) fun t12 => ixK k (.slice a l.length c) t12 fun t13 => faK 0 t13 fun t14 => qld1K C t14 fun t15 => ixK k (.slice a l.length c) (nth vs 0) fun t18 => faK 0 t18 fun t19 => qld1K C t19 fun t20 => geK .i64 t15 t20 fun t21 =>
        ∀ w2 : World, C w2 → condK t21 (K (.bool false) w2) (addK .i64 (nth vs 0) (.int .i64 1) fun t9 => again [t9] w2)))
      (K (.bool true) w1)) w := by
  simp only [maxLen] at hm
  refine LoopK_i (fun vs w1 => ∃ i : Nat, 1 ≤ i ∧ vs = [.int .i64 i] ∧ Grow w w1 ∧ (i ≤ l.length ∨ i = 1) ∧ RisN key l i) (fun vs _ => l.length - iOf vs 0) ⟨1, Nat.le_refl _, rfl, Mod.refl _ _, .inr rfl, fun i h1 h2 => by omega⟩ ?_
  rintro vs w1 ⟨i, hi1, rfl, hg, hi2, hris⟩ _
  rw [lenK_i, nth_z, List.headD_cons, ltK_i]
  refine condK_p (fun hlt => ?_) fun hge => ?_
  · have hlt' : i < l.length := by omega
    refine ⟨fun w2 => Grow w1 w2, Mod.drew _ _, ?_⟩
    obtain ⟨p, r, rfl, _, hr, hc, hx⟩ := h.get (show i - 1 < l.length by omega)
    obtain ⟨_, r', e, _, hr', hc', hx'⟩ := h.get hlt'
    cases e
    rw [subK_i, wrap64 (by omega) (by omega), show ((i : Int) - 1) = ((i - 1 : Nat) : Int) by omega]
    refine ixK_n (by omega) ?_
    rw [faK_i, Addr.add_add]
    refine qld1K_i (fun w2 h2 => h2.cell (hg.cell (hc 0 _ (hR _ _ _ hx)) fun h => h) fun h => h) ?_
    refine ixK_n hlt' ?_
    rw [faK_i, Addr.add_add]
    refine qld1K_i (fun w2 h2 => h2.cell (hg.cell (hc' 0 _ (hR _ _ _ hx')) fun h => h) fun h => h) ?_
    rw [geK_i]
    intro w2 h2
    refine condK_p (fun hx => ?_) fun hx => ?_
    · refine h0 _ (hg.trans h2) fun hall => ?_
      have := hall i hi1 hlt' _ _ (List.getElem?_eq_getElem (by omega)) (List.getElem?_eq_getElem hlt')
      omega
    · rw [addK_i, loop_step (by omega)]
      refine ⟨⟨i + 1, by omega, rfl, hg.trans h2, .inl hlt', fun j h1 h2 a b ha hb => ?_⟩, by rw [iOf0, iOf0]; omega⟩
      by_cases e : j = i
      · subst e
        rw [List.getElem?_eq_getElem (by omega)] at ha
        rw [List.getElem?_eq_getElem hlt'] at hb
        cases ha; cases hb; omega
      · exact hris j h1 (by omega) a b ha hb
  · refine h1 _ hg fun j h1 h2 => ?_
    by_cases e : i ≤ l.length
    · exact hris j h1 (by omega)
    · omega
abbrev RisA (l : List Attr) : Prop := RisN Attr.key l l.length
abbrev RisC (l : List Chg) : Prop := RisN Chg.key l l.length
open Classical in
theorem risa_ok {S : Nat → Prop} {v : Value} {l : List Attr} {w : World} (h : RSet S w v l) : callK Tryd.prog 71 [v] (fun v' w' => v' = .bool (decide (RisA l)) ∧ Grow w w') w := by
  apply S71_ok
  unfold S71
  obtain ⟨a, c, rfl, hm⟩ := h.shape
  exact ris_loop (K := fun v' w' => v' = .bool (decide (RisA l)) ∧ Grow w w') (key := Attr.key) h hm (by decide) (fun w r x hx => by subst hx; rfl) (fun w' g hr => ⟨by rw [decide_eq_true hr], g⟩) fun w' g hr => ⟨by rw [decide_eq_false hr], g⟩
/-- why a set may not be -/
def SetBad (l : List Attr) : Prop := ¬ RisA l ∨ 64 < l.length ∨ ∃ a ∈ l, ¬ ValOK a.val
def SetNoKey (keys : List DKey) (l : List Attr) : Prop := ∃ a ∈ l, ¬ FitsK keys a.key a.val
open Classical in
noncomputable def maySet (keys : List DKey) (l : List Attr) : Int := if SetBad l then 3 else if SetNoKey keys l then 4 else 0
open Classical in
theorem mayset_ok {S S' : Nat → Prop} {kv v : Value} {keys : List DKey} {l : List Attr} {w : World} (hk : RKeys S w kv keys) (h : RSet S' w v l) (hs : ∀ a ∈ l, a.val.s.size * 4 ≤ 140737488355328) :
    callK Tryd.prog 54 [kv, v] (fun v' w' => v' = .int .i64 (maySet keys l) ∧ Grow w w') w := by
  apply S54_ok
  unfold S54
  obtain ⟨a, c, rfl, hm⟩ := h.shape
  simp only [maxLen] at hm
  have bad : ∀ w', Grow w w' → SetBad l → Value.int .i64 3 = .int .i64 (maySet keys l) ∧ Grow w w' := fun w' g hb => ⟨by rw [maySet, if_pos hb], g⟩
  refine JoinK_i (fun vs w1 => Grow w w1 ∧ RisA l ∧ l.length ≤ 64) ?_ ?_
  · rintro vs w1 ⟨g1, hris, h64⟩ _
    refine LoopK_i (fun vs w2 => ∃ i : Nat, i ≤ l.length ∧ vs = [.int .i64 i] ∧ Grow w w2 ∧ ∀ a ∈ l.take i, ValOK a.val) (fun vs _ => l.length - iOf vs 0) ⟨0, Nat.zero_le _, rfl, g1, by simp⟩ ?_
    rintro vs w2 ⟨i, hi, rfl, g2, hv⟩ _
    rw [lenK_i, nth_z, List.headD_cons, ltK_i]
    refine condK_p (fun hlt => ?_) fun hge => ?_
    · have hlt' : i < l.length := by omega
      obtain ⟨p, r, rfl, _, hr, hc, rfl⟩ := (h.grow g2 (by decide) fun _ _ h => h).get hlt'
      refine ixK_n hlt' ?_
      rw [faK_i, Addr.add_add]
      refine ldnK_i (vs := l[i].val.cells) rfl (fun j u hu => by rw [Addr.add_add, Nat.add_assoc]; exact hc (1 + j) u (by rw [Nat.add_comm]; exact hu)) ?_
      refine callK_mono (rval_ok (hs _ (by simp))) ?_
      rintro v3 w3 ⟨rfl, g3⟩
      rw [notK_i]
      refine condK_neg (fun ho => ?_) fun ho => bad _ (g2.trans g3) (.inr (.inr ⟨_, by simp, ho⟩))
      rw [addK_i, loop_step (by omega)]
      refine ⟨⟨i + 1, hlt', rfl, g2.trans g3, fun a ha => ?_⟩, by rw [iOf0, iOf0]; omega⟩
      rw [List.take_add_one, List.getElem?_eq_getElem hlt'] at ha
      rcases List.mem_append.1 ha with ha | ha
      · exact hv a ha
      · simp at ha; subst ha; exact ho
    · have : i = l.length := by omega
      subst this
      rw [List.take_length] at hv
      have ok : ¬ SetBad l := by
        rintro (h | h | ⟨a, ha, h⟩)
        · exact h hris
        · omega
        · exact h (hv a ha)
      refine LoopK_i (fun vs w3 => ∃ i : Nat, i ≤ l.length ∧ vs = [.int .i64 i] ∧ Grow w w3 ∧ ∀ a ∈ l.take i, FitsK keys a.key a.val) (fun vs _ => l.length - iOf vs 0) ⟨0, Nat.zero_le _, rfl, g2, by simp⟩ ?_
      rintro vs w3 ⟨i, hi, rfl, g3, hf⟩ _
      rw [lenK_i, nth_z, List.headD_cons, ltK_i]
      refine condK_p (fun hlt => ?_) fun hge => ?_
      · have hlt' : i < l.length := by omega
        have g3d : Grow w w3.drew := g3.trans (Mod.drew _ _)
        obtain ⟨p, r, rfl, hS, hr, hc, rfl⟩ := ((h.old (by decide)).grow g3d (by decide) fun _ _ h => h).get hlt'
        refine drawC_i (fun _ b => False) ?_
        refine ixK_n hlt' ?_
        rw [faK_i, Addr.add_add]
        refine sld1_i ⟨hc 0 _ rfl, fun j _ h => h⟩ ?_
        refine ixK_n hlt' ?_
        rw [faK_i, Addr.add_add]
        refine sldn_i (vs := l[i].val.cells) rfl (fun j u hu => ⟨by rw [Addr.add_add, Nat.add_assoc]; exact hc (1 + j) u (by rw [Nat.add_comm]; exact hu), fun j _ h => h⟩) ?_
        refine callK_mono (rfits_ok (hk.grow g3d (by decide) fun _ _ h => h) (hs _ (by simp))) ?_
        rintro v4 w4 ⟨rfl, g4⟩
        refine ⟨g4, ?_⟩
        rw [notK_i]
        refine condK_neg (fun ho => ?_) fun ho => ⟨by rw [maySet, if_neg ok, if_pos ⟨_, by simp, ho⟩], g3d.trans g4⟩
        rw [addK_i, loop_step (by omega)]
        refine ⟨⟨i + 1, hlt', rfl, g3d.trans g4, fun a ha => ?_⟩, by rw [iOf0, iOf0]; omega⟩
        rw [List.take_add_one, List.getElem?_eq_getElem hlt'] at ha
        rcases List.mem_append.1 ha with ha | ha
        · exact hf a ha
        · simp at ha; subst ha; exact ho
      · have : i = l.length := by omega
        subst this
        rw [List.take_length] at hf
        refine ⟨?_, g3⟩
        rw [maySet, if_neg ok, if_neg]
        rintro ⟨a, ha, h⟩; exact h (hf a ha)
  · refine callK_mono (risa_ok h) ?_
    rintro v2 w2 ⟨rfl, g2⟩
    rw [notK_i]
    refine condK_neg (fun hr => ?_) fun hr => bad _ g2 (.inl hr)
    rw [lenK_i, gtK_i]
    refine condK_p (fun h6 => bad _ g2 (.inr (.inl (by omega)))) fun h6 => ⟨g2, hr, by omega⟩
def AVal.zero : AVal := ⟨0, 0, 0, noS⟩
def PatBad (p : List Chg) : Prop := ¬ RisC p ∨ 64 < p.length ∨ ∃ c ∈ p, (c.gone = true ∧ c.val ≠ AVal.zero) ∨ (c.gone = false ∧ ¬ ValOK c.val)
def PatNoKey (keys : List DKey) (p : List Chg) : Prop := ∃ c ∈ p, findK keys c.key = none ∨ (c.gone = false ∧ ¬ FitsK keys c.key c.val)
open Classical in
noncomputable def mayPat (keys : List DKey) (p : List Chg) : Int := if PatBad p then 3 else if PatNoKey keys p then 4 else 0
end Go.Proofs.YtmfplfaeibehiaaDoor

namespace Go.Proofs.YtmfplfaeibehiaaDoor
open Go Go.K

def KeyOK (k : DKey) : Prop := 1 ≤ k.id ∧ k.id ≤ 1000 ∧ 1 ≤ k.kind ∧ k.kind ≤ 4 ∧ 0 ≤ k.group ∧ k.group ≤ 8 ∧ (k.block = false → k.group = 0) ∧ (k.block = true → k.before = false)
def MayN (keys : List DKey) (n : Nat) : Prop := ∀ i, i < n → ∀ k, keys[i]? = some k → KeyOK k ∧ ∀ j, j < i → ∀ k', keys[j]? = some k' → k'.id ≠ k.id
def MayKeys (keys : List DKey) : Prop := keys.length ≤ 64 ∧ MayN keys keys.length
open Classical in
theorem rmay_ok {S : Nat → Prop} {v : Value} {keys : List DKey} {w : World} (h : RKeys S w v keys) : callK Tryd.prog 16 [v] (fun v' w' => v' = .bool (decide (MayKeys keys)) ∧ Grow w w') w := by
  apply S16_ok
  unfold S16
  obtain ⟨a, c, rfl, hm⟩ := h.shape
  simp only [maxLen] at hm
  have no : ∀ w', Grow w w' → ¬ MayKeys keys → Value.bool false = .bool (decide (MayKeys keys)) ∧ Grow w w' := fun w' g hn => ⟨by rw [decide_eq_false hn], g⟩
  rw [lenK_i, gtK_i]
  refine condK_p (fun h6 => no _ (Mod.refl _ _) (by rintro ⟨h, _⟩; omega)) fun h6 => ?_
  refine LoopK_i (fun vs w1 => ∃ i : Nat, i ≤ keys.length ∧ vs = [.int .i64 i] ∧ Grow w w1 ∧ MayN keys i) (fun vs _ => keys.length - iOf vs 0) ⟨0, Nat.zero_le _, rfl, Mod.refl _ _, fun i hi => by omega⟩ ?_
  rintro vs w1 ⟨i, hi, rfl, g1, hmay⟩ _
  rw [lenK_i, nth_z, List.headD_cons, ltK_i]
  refine condK_p (fun hlt => ?_) fun hge => ?_
  · have hlt' : i < keys.length := by omega
    have hki : keys[i]? = some keys[i] := List.getElem?_eq_getElem hlt'
    obtain ⟨p, r, rfl, _, hr, hc, hx⟩ := (h.grow g1 (by decide) fun _ _ h => h).get hlt'
    subst hx
    refine ixK_n hlt' (ldnK_i hr (fun j u hu => by rw [Addr.add_add]; exact hc j u hu) ?_)
    refine newst_i (vs := keys[i].cells) rfl (RKey.one (w := w) (x := keys[i]) rfl) fun b w2 hb hz g2 hc2 _ => ?_
    have g02 := g1.trans g2
    have bad : ¬ KeyOK keys[i] → Value.bool false = .bool (decide (MayKeys keys)) ∧ Grow w w2 := fun hn => no _ g02 fun hM => hn (hM.2 i hlt' _ hki).1
    have l0 := hc2 0 _ rfl
    have l1 := hc2 1 _ rfl
    have l2 := hc2 2 _ rfl
    have l4 := hc2 4 _ rfl
    have l5 := hc2 5 _ rfl
    simp only [faK_i]
    refine JoinK_i (fun vs w3 => w3 = w2 ∧ KeyOK keys[i]) ?_ ?_
    · rintro vs _ ⟨rfl, hok⟩ _
      rename World => w2
      refine LoopK_i (fun vs w3 => ∃ j : Nat, j ≤ i ∧ vs = [.int .i64 j] ∧ Grow w2 w3 ∧ ∀ q, q < j → ∀ k', keys[q]? = some k' → k'.id ≠ keys[i].id) (fun vs _ => i - iOf vs 0) ⟨0, Nat.zero_le _, rfl, Mod.refl _ _, fun q hq => by omega⟩ ?_
      rintro vs w3 ⟨j, hj, rfl, g3, hq⟩ _
      rw [nth_z, List.headD_cons, ltK_i]
      refine condK_p (fun hjl => ?_) fun hjg => ?_
      · have hjl' : j < keys.length := by omega
        obtain ⟨_, r', e, _, hr', hc', hx'⟩ := (h.grow (g02.trans g3) (by decide) fun _ _ h => h).get hjl'
        cases e
        subst hx'
        refine ⟨fun w4 => Grow w3 w4, Mod.drew _ _, ?_⟩
        refine ixK_n hjl' ?_
        rw [faK_i, Addr.add_add]
        refine qld1K_i (fun w4 h4 => h4.cell (hc' 0 _ rfl) fun h => h) ?_
        refine qld1K_i (fun w4 h4 => h4.cell (g3.cell l0 fun h => h) fun h => h) ?_
        rw [eqK_i]
        intro w4 h4
        refine condK_p (fun he => no _ ((g02.trans g3).trans h4) fun hM => ?_) fun he => ?_
        · exact (hM.2 i hlt' _ hki).2 j (by omega) _ (List.getElem?_eq_getElem hjl') he
        · rw [addK_i, loop_step (by omega)]
          refine ⟨⟨j + 1, by omega, rfl, g3.trans h4, fun q hq1 k' hk' => ?_⟩, by rw [iOf0, iOf0]; omega⟩
          by_cases e : q = j
          · subst e; rw [List.getElem?_eq_getElem hjl'] at hk'; cases hk'; exact he
          · exact hq q (by omega) k' hk'
      · have : j = i := by omega
        subst this
        rw [addK_i, loop_step (by omega)]
        refine ⟨⟨j + 1, hlt', rfl, g02.trans g3, fun q hq1 k hk => ?_⟩, by rw [iOf0, iOf0]; omega⟩
        by_cases e : q = j
        · subst e; rw [hki] at hk; cases hk; exact ⟨hok, hq⟩
        · exact hmay q (by omega) k hk
    · refine ld1K_i l0 ?_
      rw [ltK_i]
      refine condK_p (fun h1 => bad (by rintro ⟨h, _⟩; omega)) fun h1 => ?_
      refine ld1K_i l0 ?_
      rw [gtK_i]
      refine condK_p (fun h2 => bad (by rintro ⟨_, h, _⟩; omega)) fun h2 => ?_
      refine ld1K_i l2 ?_
      rw [ltK_i]
      refine condK_p (fun h3 => bad (by rintro ⟨_, _, h, _⟩; omega)) fun h3 => ?_
      refine ld1K_i l2 ?_
      rw [gtK_i]
      refine condK_p (fun h4 => bad (by rintro ⟨_, _, _, h, _⟩; omega)) fun h4 => ?_
      refine ld1K_i l5 ?_
      rw [ltK_i]
      refine condK_p (fun h5 => bad (by rintro ⟨_, _, _, _, h, _⟩; omega)) fun h5 => ?_
      refine ld1K_i l5 ?_
      rw [gtK_i]
      refine condK_p (fun h7 => bad (by rintro ⟨_, _, _, _, _, h, _⟩; omega)) fun h7 => ?_
      refine ld1K_i l1 ?_
      have tail : (keys[i].block = false → keys[i].group = 0) → ld1K (.pointer (some ((⟨b, 0, none⟩ : Addr).add 1))) (fun t59 w16 => condK t59 (ld1K (.pointer (some ((⟨b, 0, none⟩ : Addr).add 4))) (fun t62 w17 => condK t62 (Value.bool false = .bool (decide (MayKeys keys)) ∧ Grow w w17) (w17 = w2 ∧ KeyOK keys[i])) w16) (w16 = w2 ∧ KeyOK keys[i])) w2 := by
        intro hgz
        refine ld1K_i l1 ?_
        cases hb : keys[i].block with
        | true =>
          rw [condK_b, if_pos rfl]
          refine ld1K_i l4 ?_
          cases hbf : keys[i].before with
          | true => rw [condK_b, if_pos rfl]; exact bad (by rintro ⟨_, _, _, _, _, _, _, h⟩; rw [h hb] at hbf; cases hbf)
          | false => rw [condK_b]; exact (if_neg (by simp)).mpr ⟨rfl, by omega, by omega, by omega, by omega, by omega, by omega, hgz, fun _ => hbf⟩
        | false => rw [condK_b]; exact (if_neg (by simp)).mpr ⟨rfl, by omega, by omega, by omega, by omega, by omega, by omega, hgz, fun h => by rw [hb] at h; cases h⟩
      rw [notK_i]
      cases hb : keys[i].block with
      | true =>
        rw [condK_b]
        exact (if_neg (by simp)).mpr (tail fun h => by rw [hb] at h; cases h)
      | false =>
        rw [condK_b]
        refine (if_pos (by simp)).mpr (ld1K_i l5 ?_)
        rw [neK_i]
        exact condK_neg (fun hz => tail fun _ => hz) fun hz => bad (by rintro ⟨_, _, _, _, _, _, h, _⟩; exact hz (h hb))
  · have : i = keys.length := by omega
    subst this
    refine ⟨?_, g1⟩
    rw [decide_eq_true ⟨by omega, hmay⟩]

/-! ### how much -/
def szA (l : List Attr) : Nat := (l.map fun a => a.val.s.size).sum
def szC (l : List Chg) : Nat := (l.map fun a => a.val.s.size).sum
theorem mSet_eq (l : List Attr) : mSet l = l.length + szA l := by
  induction l with
  | nil => rfl
  | cons a l ih => simp only [mSet, szA, List.map_cons, List.sum_cons, List.length_cons, mAttr] at ih ⊢; omega
theorem mPat_eq (l : List Chg) : mPat l = l.length + szC l := by
  induction l with
  | nil => rfl
  | cons a l ih => simp only [mPat, szC, List.map_cons, List.sum_cons, List.length_cons, mChg] at ih ⊢; omega
theorem szA_take {l : List Attr} {k : Nat} (h : k < l.length) : szA (l.take (k + 1)) = szA (l.take k) + l[k].val.s.size := by
  rw [List.take_add_one, List.getElem?_eq_getElem h]; simp only [szA, Option.toList, List.map_append, List.sum_append, List.map_cons, List.map_nil, List.sum_cons, List.sum_nil, Nat.add_zero]
theorem szC_take {l : List Chg} {k : Nat} (h : k < l.length) : szC (l.take (k + 1)) = szC (l.take k) + l[k].val.s.size := by
  rw [List.take_add_one, List.getElem?_eq_getElem h]; simp only [szC, Option.toList, List.map_append, List.sum_append, List.map_cons, List.map_nil, List.sum_cons, List.sum_nil, Nat.add_zero]
theorem mDops_take {l : List Dop} {k : Nat} (h : k < l.length) : mDops (l.take (k + 1)) = mDops (l.take k) + mDop l[k] := by
  rw [List.take_add_one, List.getElem?_eq_getElem h]; simp only [mDops, Option.toList, List.map_append, List.sum_append, List.map_cons, List.map_nil, List.sum_cons, List.sum_nil, Nat.add_zero]
theorem mDops_mem {l : List Dop} {o : Dop} (h : o ∈ l) : mDop o ≤ mDops l := by
  induction l with
  | nil => simp at h
  | cons a l ih =>
    have e : mDops (a :: l) = mDop a + mDops l := by simp [mDops]
    rcases List.mem_cons.1 h with rfl | h
    · omega
    · have := ih h; omega
theorem mDops_len (l : List Dop) : l.length ≤ mDops l := by
  induction l with
  | nil => exact Nat.zero_le _
  | cons a l ih => simp only [mDops, List.map_cons, List.sum_cons, List.length_cons, mDop] at ih ⊢; omega
theorem mDops_le (l : List Dop) (k : Nat) : mDops (l.take k) ≤ mDops l := by
  have : mDops l = mDops (l.take k) + mDops (l.drop k) := by
    conv => lhs; rw [← List.take_append_drop k l]
    simp only [mDops, List.map_append, List.sum_append]
  omega
theorem szA_le (l : List Attr) (k : Nat) : szA (l.take k) ≤ szA l := by
  have : szA l = szA (l.take k) + szA (l.drop k) := by
    conv => lhs; rw [← List.take_append_drop k l]
    simp only [szA, List.map_append, List.sum_append]
  omega
theorem szC_le (l : List Chg) (k : Nat) : szC (l.take k) ≤ szC l := by
  have : szC l = szC (l.take k) + szC (l.drop k) := by
    conv => lhs; rw [← List.take_append_drop k l]
    simp only [szC, List.map_append, List.sum_append]
  omega
theorem mSet_mem {l : List Attr} {a : Attr} (h : a ∈ l) : a.val.s.size + 1 ≤ mSet l := by
  induction l with
  | nil => simp at h
  | cons b l ih =>
    have e : mSet (b :: l) = mAttr b + mSet l := by simp [mSet]
    rcases List.mem_cons.1 h with rfl | h
    · simp only [mAttr] at e; omega
    · have := ih h; omega
theorem mPat_mem {l : List Chg} {a : Chg} (h : a ∈ l) : a.val.s.size + 1 ≤ mPat l := by
  induction l with
  | nil => simp at h
  | cons b l ih =>
    have e : mPat (b :: l) = mChg b + mPat l := by simp [mPat]
    rcases List.mem_cons.1 h with rfl | h
    · simp only [mChg] at e; omega
    · have := ih h; omega
end Go.Proofs.YtmfplfaeibehiaaDoor

namespace Go.Proofs.YtmfplfaeibehiaaDoor
open Go Go.K
/-- rubric/rubriclaw04.known -/
def S13 (K : Cont) (w : World) : Prop :=
  buildK [(0, 1), (1, 1), (2, 1), (3, 1), (4, 1), (5, 1)] [(.int .i64 0), (.bool false), (.int .u8 0), (.bool false), (.bool false), (.int .i64 0)] [(0, (.int .i64 9)), (1, (.bool true)), (2, (.int .u8 1)), (5, (.int .i64 1))] fun t7 =>
  buildK [(0, 1), (1, 1), (2, 1), (3, 1), (4, 1), (5, 1)] [(.int .i64 0), (.bool false), (.int .u8 0), (.bool false), (.bool false), (.int .i64 0)] [(0, (.int .i64 5)), (1, (.bool true)), (2, (.int .u8 2)), (5, (.int .i64 1))] fun t8 =>
  buildK [(0, 1), (1, 1), (2, 1), (3, 1), (4, 1), (5, 1)] [(.int .i64 0), (.bool false), (.int .u8 0), (.bool false), (.bool false), (.int .i64 0)] [(0, (.int .i64 7)), (1, (.bool true)), (2, (.int .u8 3)), (5, (.int .i64 1))] fun t9 =>
  buildK [(0, 1), (1, 1), (2, 1), (3, 1), (4, 1), (5, 1)] [(.int .i64 0), (.bool false), (.int .u8 0), (.bool false), (.bool false), (.int .i64 0)] [(0, (.int .i64 1)), (2, (.int .u8 4))] fun t10 =>
  rowK 34 6 4 [(.int .i64 0), (.bool false), (.int .u8 0), (.bool false), (.bool false), (.int .i64 0)] [(0, t7), (1, t8), (2, t9), (3, t10)] (fun t11 w1 =>
  callK Tryd.prog 12 [t11] (fun t12 w2 =>
  extK 0 t12 fun t13 =>
  extK 1 t12 fun t14 =>
  callK Tryd.prog 21 [t13, (.int .i64 7)] (fun t16 w3 =>
  buildK [(0, 1), (1, 1), (2, 1), (3, 1), (4, 1), (5, 1)] [(.int .i64 0), (.bool false), (.int .u8 0), (.bool false), (.bool false), (.int .i64 0)] [(0, (.int .i64 3)), (2, (.int .u8 1))] fun t18 =>
  buildK [(0, 1), (1, 1), (2, 1), (3, 1), (4, 1), (5, 1)] [(.int .i64 0), (.bool false), (.int .u8 0), (.bool false), (.bool false), (.int .i64 0)] [(0, (.int .i64 3)), (2, (.int .u8 1))] fun t19 =>
  rowK 34 6 2 [(.int .i64 0), (.bool false), (.int .u8 0), (.bool false), (.bool false), (.int .i64 0)] [(0, t18), (1, t19)] (fun t20 w4 =>
  callK Tryd.prog 12 [t20] (fun t21 w5 =>
  extK 0 t21 fun _t22 =>
  extK 1 t21 fun t23 =>
  eqK .i64 t14 (.int .i64 0) fun t25 =>
  condK t25
  (lenK t16 fun t28 =>
  eqK .i64 t28 (.int .i64 2) fun t29 =>
  condK t29
  (ixK 1 t16 (.int .i64 0) fun t33 =>
  ld1K t33 (fun t34 w6 =>
  eqK .i64 t34 (.int .i64 5) fun t35 =>
  condK t35
  (ixK 1 t16 (.int .i64 1) fun t39 =>
  ld1K t39 (fun t40 w7 =>
  eqK .i64 t40 (.int .i64 9) fun t41 =>
  condK t41
  (eqK .i64 t23 (.int .i64 3) fun t45 =>
  condK t45
  (callK Tryd.prog 17 [t13] (fun t49 w8 =>
  eqK .i64 t49 (.int .i64 4) fun t50 =>
  K t50 w8) w7)
  (K (.bool false) w7))
  (K (.bool false) w7)) w6)
  (K (.bool false) w6)) w5)
  (K (.bool false) w5))
  (K (.bool false) w5)) w4) w3) w2) w1) w
theorem S13_eq (K : Cont) (w : World) : S13  K w = D Tryd.prog okf 52 (bodyOf Tryd.f13) (.node [] [] .nil (.node [] [] .nil (.node [] [] .nil (.node [] [] .nil (.node [] [] .nil .nil))))) (retK Tryd.prog [.tmp 0] K) (nth []) w := by kernel_rfl
theorem S13_ok {K : Cont} {w : World} (h : S13  K w) : callK Tryd.prog 13 [] K w :=
  callK_of (P := Tryd.prog) (ok := okf) (n := 52) (fn := Tryd.f13) (c := bodyOf Tryd.f13) (rs := [.tmp 0]) (an := (.node [] [] .nil (.node [] [] .nil (.node [] [] .nil (.node [] [] .nil (.node [] [] .nil .nil)))))) good mixed Tryd.func13 (by kernel_rfl) (by kernel_rfl) (by kernel_rfl) (by kernel_rfl) (Eq.mp (S13_eq  K w) h)

/-- rubric/schema.New -/
def S12 (v0 : Value) (K : Cont) (w : World) : Prop :=
  lenK v0 fun t10 =>
  gtK .i64 t10 (.int .i64 64) fun t11 =>
  condK t11
  (K (.tuple #[(.pointer none), (.int .i64 3)]) w)
  (callK Tryd.prog 41 [v0] (fun t13 w1 =>
  runK Tryd.prog (Instr.makeMap 47 none) (fun t14 w2 =>
  buildK [(0, 1), (1, 1)] [(.slice none 0 0), (.map none)] [(0, t13), (1, t14)] fun t15 =>
  boxnK 49 t15 (fun t16 w3 =>
  lenK v0 fun t18 =>
  LoopK [(.int .i64 0)] (fun vs again w4 => ∀ _h : Env,
  ltK .i64 (nth vs 0) t18 fun t20 =>
  condK t20
  (ixK 6 v0 (nth vs 0) fun t21 =>
  ldnK 6 t21 (fun t22 w5 =>
  newK 34 [(.int .i64 0), (.bool false), (.int .u8 0), (.bool false), (.bool false), (.int .i64 0)] (fun t6 w6 =>
  stnK 6 t6 t22 (fun w7 =>
  JoinK (fun _vs_1 w8 => ∀ _h_1 : Env,
  DrawC [7] [[], [0], [0, 1], [0, 1, 2], [], [4], [], [0, 1, 2, 3, 4, 5, 6]] w8.drew (fun M St =>
  nilckK t16 fun t40 =>
  faK 1 t40 fun t41 =>
  sld1 (St 3) t41 fun t42 =>
  faK 0 t6 fun t43 =>
  sld1 (St 5) t43 fun t44 =>
  sldn (St 6) 6 t6 fun t45 =>
  runK Tryd.prog (do Instr.mapUpdate 47 t42 t44 t45; pure undef) (fun _u w9 =>
  Mod (M 7) w8.drew w9 ∧
  addK .i64 (nth vs 0) (.int .i64 1) fun t46 =>
  again [t46] w9) w8.drew)) (fun J =>
  JoinK (fun vs_2 w10 => ∀ _h_2 : Env,
  condK (nth vs_2 0)
  (K (.tuple #[(.pointer none), (.int .i64 3)]) w10)
  (ldnK 6 t6 (fun t35 w11 =>
  callK Tryd.prog 42 [t35] (fun t36 w12 =>
  notK t36 fun t37 =>
  condK t37
  (K (.tuple #[(.pointer none), (.int .i64 3)]) w12)
  (J [] w12)) w11) w10)) (fun J_1 =>
  DrawC [6, 10, 11] [[], [0], [0, 1], [0, 1, 2], [], [4], [0, 1, 2, 3, 4, 5], [0, 1, 2, 3, 4, 5, 6], [0, 1, 2, 3, 4, 5, 6, 7], [0, 1, 2, 3, 4, 5, 6, 7], [], [0, 1, 2, 3, 4, 5, 6, 7, 8, 10], [0, 1, 2, 3, 4, 5, 6, 7, 8, 9, 10, 11]] w7.drew (fun M_1 St_1 =>
  nilckK t16 fun t25 =>
  faK 1 t25 fun t26 =>
  sld1 (St_1 3) t26 fun t27 =>
  faK 0 t6 fun t28 =>
  sld1 (St_1 5) t28 fun t29 =>
  (runK Tryd.prog (Instr.lookup 47 t27 t29 true) (fun t30 w13 =>
  Mod (M_1 6) w7.drew w13 ∧
  extK 0 t30 fun t31 =>
  extK 1 t30 fun t32 =>
  newK 34 [(.int .i64 0), (.bool false), (.int .u8 0), (.bool false), (.bool false), (.int .i64 0)] (fun t7 w14 =>
  Mod (M_1 10) w13 w14 ∧
  stnK 6 t7 t31 (fun w15 =>
  Mod (M_1 11) w14 w15 ∧
  J_1 [t32] w15) w14) w13) w7.drew) ∧
  (newK 34 [(.int .i64 0), (.bool false), (.int .u8 0), (.bool false), (.bool false), (.int .i64 0)] (fun t7_1 w16 =>
  Mod (M_1 10) w7.drew w16 ∧
  runK Tryd.prog (Instr.lookup 47 t27 t29 true) (fun t30_1 w17 =>
  Mod (M_1 6) w16 w17 ∧
  extK 0 t30_1 fun t31_1 =>
  extK 1 t30_1 fun t32_1 =>
  stnK 6 t7_1 t31_1 (fun w18 =>
  Mod (M_1 11) w17 w18 ∧
  J_1 [t32_1] w18) w17) w16) w7.drew))))) w6) w5) w4)
  (nilckK t16 fun t48 =>
  faK 0 t48 fun t49 =>
  ld1K t49 (fun t50 w19 =>
  callK Tryd.prog 43 [t50, (.func (.func 44) #[] #[])] (fun _t51 w20 =>
  K (.tuple #[t16, (.int .i64 0)]) w20) w19) w4)) w3) w2) w1) w)
theorem S12_eq (v0 : Value) (K : Cont) (w : World) : S12 v0 K w = D Tryd.prog okf 53 (bodyOf Tryd.f12) (.node [] [] .nil (.node [] [] (.node [] [] .nil (.node [] [] (.node [] [] .nil .nil) .nil)) (.node [] [] .nil (.node [] [] (.node [] [] .nil (.node [19] [(2, 3), (6, 8), (19, 46)] (.node [] [] .nil (.node [] [] (.node [] [] .nil .nil) (.node [] [] (.node [] [] .nil (.cut [] [(2, 3), (7, 8), (23, 38)] (.cut [8] [(7, 8), (23, 32)] (.dt [6, 10, 11] [[], [0], [0, 1], [0, 1, 2], [], [4], [0, 1, 2, 3, 4, 5], [0, 1, 2, 3, 4, 5, 6], [0, 1, 2, 3, 4, 5, 6, 7], [0, 1, 2, 3, 4, 5, 6, 7], [], [0, 1, 2, 3, 4, 5, 6, 7, 8, 10], [0, 1, 2, 3, 4, 5, 6, 7, 8, 9, 10, 11]] [[6]] (.op 0 (.op 1 (.op 2 (.op 3 (.op 4 (.op 5 (.br (.op 6 (.op 7 (.op 8 (.op 9 (.op 10 (.op 11 (.op 12 .nil))))))) (.op 10 (.op 6 (.op 7 (.op 8 (.op 9 (.op 11 (.op 12 .nil))))))))))))))) (.node [] [] .nil (.node [] [] (.node [] [] .nil .nil) .nil))) (.dc [7] [[], [0], [0, 1], [0, 1, 2], [], [4], [], [0, 1, 2, 3, 4, 5, 6]] []))) .nil))) .nil)) (.node [] [] .nil (.node [] [] .nil .nil)))))) (retK Tryd.prog [.tmp 2, .tmp 3] K) (nth [v0]) w := by kernel_rfl
theorem S12_ok {v0 : Value} {K : Cont} {w : World} (h : S12 v0 K w) : callK Tryd.prog 12 [v0] K w :=
  callK_of (P := Tryd.prog) (ok := okf) (n := 53) (fn := Tryd.f12) (c := bodyOf Tryd.f12) (rs := [.tmp 2, .tmp 3]) (an := (.node [] [] .nil (.node [] [] (.node [] [] .nil (.node [] [] (.node [] [] .nil .nil) .nil)) (.node [] [] .nil (.node [] [] (.node [] [] .nil (.node [19] [(2, 3), (6, 8), (19, 46)] (.node [] [] .nil (.node [] [] (.node [] [] .nil .nil) (.node [] [] (.node [] [] .nil (.cut [] [(2, 3), (7, 8), (23, 38)] (.cut [8] [(7, 8), (23, 32)] (.dt [6, 10, 11] [[], [0], [0, 1], [0, 1, 2], [], [4], [0, 1, 2, 3, 4, 5], [0, 1, 2, 3, 4, 5, 6], [0, 1, 2, 3, 4, 5, 6, 7], [0, 1, 2, 3, 4, 5, 6, 7], [], [0, 1, 2, 3, 4, 5, 6, 7, 8, 10], [0, 1, 2, 3, 4, 5, 6, 7, 8, 9, 10, 11]] [[6]] (.op 0 (.op 1 (.op 2 (.op 3 (.op 4 (.op 5 (.br (.op 6 (.op 7 (.op 8 (.op 9 (.op 10 (.op 11 (.op 12 .nil))))))) (.op 10 (.op 6 (.op 7 (.op 8 (.op 9 (.op 11 (.op 12 .nil))))))))))))))) (.node [] [] .nil (.node [] [] (.node [] [] .nil .nil) .nil))) (.dc [7] [[], [0], [0, 1], [0, 1, 2], [], [4], [], [0, 1, 2, 3, 4, 5, 6]] []))) .nil))) .nil)) (.node [] [] .nil (.node [] [] .nil .nil))))))) good mixed Tryd.func12 (by kernel_rfl) (by kernel_rfl) (by kernel_rfl) (by kernel_rfl) (Eq.mp (S12_eq v0 K w) h)

/-- (*rubric/schema.Schema).Keys -/
def S19 (v0 : Value) (K : Cont) (w : World) : Prop :=
  pnilK v0 fun b4 =>
  condK (.bool b4)
  (K (.slice none 0 0) w)
  (nilckK v0 fun t6 =>
  faK 0 t6 fun t7 =>
  ld1K t7 (fun t8 w1 =>
  callK Tryd.prog 41 [t8] (fun t9 w2 =>
  K t9 w2) w1) w)
theorem S19_eq (v0 : Value) (K : Cont) (w : World) : S19 v0 K w = D Tryd.prog okf 10 (bodyOf Tryd.f19) (.node [] [] .nil (.node [] [] (.node [] [] .nil (.node [] [] (.node [] [] .nil .nil) .nil)) (.node [] [] .nil .nil))) (retK Tryd.prog [.tmp 2] K) (nth [v0]) w := by kernel_rfl
theorem S19_ok {v0 : Value} {K : Cont} {w : World} (h : S19 v0 K w) : callK Tryd.prog 19 [v0] K w :=
  callK_of (P := Tryd.prog) (ok := okf) (n := 10) (fn := Tryd.f19) (c := bodyOf Tryd.f19) (rs := [.tmp 2]) (an := (.node [] [] .nil (.node [] [] (.node [] [] .nil (.node [] [] (.node [] [] .nil .nil) .nil)) (.node [] [] .nil .nil)))) good mixed Tryd.func19 (by kernel_rfl) (by kernel_rfl) (by kernel_rfl) (by kernel_rfl) (Eq.mp (S19_eq v0 K w) h)

/-- (*rubric/schema.Schema).Group -/
def S21 (v0 v1 : Value) (K : Cont) (w : World) : Prop :=
  callK Tryd.prog 15 [v0, v1] (fun t13 w1 =>
  extK 0 t13 fun t14 =>
  extK 1 t13 fun t15 =>
  newK 34 [(.int .i64 0), (.bool false), (.int .u8 0), (.bool false), (.bool false), (.int .i64 0)] (fun t5 w2 =>
  stnK 6 t5 t14 (fun w3 =>
  JoinK (fun _vs w4 => ∀ _h : Env,
  nilckK v0 fun t24 =>
  faK 0 t24 fun t25 =>
  ld1K t25 (fun t26 w5 =>
  lenK t26 fun t27 =>
  LoopK [(.slice none 0 0), (.int .i64 0)] (fun vs_1 again w6 => ∀ _h_1 : Env,
  ltK .i64 (nth vs_1 1) t27 fun t29 =>
  condK t29
  (JoinK (fun vs_2 w7 => ∀ _h_2 : Env,
  addK .i64 (nth vs_1 1) (.int .i64 1) fun t48 =>
  again [(nth vs_2 0), t48] w7) (fun J_1 =>
  ixK 6 t26 (nth vs_1 1) fun t30 =>
  ldnK 6 t30 (fun t31 w8 =>
  newK 34 [(.int .i64 0), (.bool false), (.int .u8 0), (.bool false), (.bool false), (.int .i64 0)] (fun t9 w9 =>
  stnK 6 t9 t31 (fun w10 =>
  faK 5 t9 fun t32 =>
  ld1K t32 (fun t33 w11 =>
  faK 5 t5 fun t34 =>
  ld1K t34 (fun t35 w12 =>
  eqK .i64 t33 t35 fun t36 =>
  condK t36
  (faK 0 t9 fun t38 =>
  ld1K t38 (fun t39 w13 =>
  neK .i64 t39 v1 fun t41 =>
  condK t41
  (faK 0 t9 fun t44 =>
  ld1K t44 (fun t45 w14 =>
  rowK 3 1 1 [(.int .i64 0)] [(0, t45)] (fun t46 w15 =>
  runK Tryd.prog (Builtin.append_ #[43, 43] 43 [(nth vs_1 0), t46].toArray) (fun t47 w16 =>
  J_1 [t47] w16) w15) w14) w13)
  (J_1 [(nth vs_1 0)] w13)) w12)
  (J_1 [(nth vs_1 0)] w12)) w11) w10) w9) w8) w6))
  (K (nth vs_1 0) w6)) w5) w4) (fun J =>
  notK t15 fun t17 =>
  condK t17
  (K (.slice none 0 0) w3)
  (faK 5 t5 fun t19 =>
  ld1K t19 (fun t20 w20 =>
  eqK .i64 t20 (.int .i64 0) fun t21 =>
  condK t21
  (K (.slice none 0 0) w20)
  (J [] w20)) w3))) w2) w1) w
theorem S21_eq (v0 v1 : Value) (K : Cont) (w : World) : S21 v0 v1 K w = D Tryd.prog okf 50 (bodyOf Tryd.f21) (.node [] [] .nil (.node [] [] .nil (.cut [] [(4, 4), (16, 22)] (.node [] [] .nil (.node [] [] (.node [] [] .nil .nil) .nil)) (.node [] [] .nil (.node [] [] (.node [] [] .nil (.node [7, 28] [(7, 7), (9, 9), (28, 48)] (.node [] [] .nil (.node [] [] (.node [] [] .nil .nil) (.cut [7] [(7, 7), (9, 9), (30, 47)] (.node [] [] .nil (.node [] [] .nil (.node [] [] .nil .nil))) .nil))) .nil)) (.node [] [] .nil .nil)))))) (retK Tryd.prog [.tmp 4] K) (nth [v0, v1]) w := by kernel_rfl
theorem S21_ok {v0 v1 : Value} {K : Cont} {w : World} (h : S21 v0 v1 K w) : callK Tryd.prog 21 [v0, v1] K w :=
  callK_of (P := Tryd.prog) (ok := okf) (n := 50) (fn := Tryd.f21) (c := bodyOf Tryd.f21) (rs := [.tmp 4]) (an := (.node [] [] .nil (.node [] [] .nil (.cut [] [(4, 4), (16, 22)] (.node [] [] .nil (.node [] [] (.node [] [] .nil .nil) .nil)) (.node [] [] .nil (.node [] [] (.node [] [] .nil (.node [7, 28] [(7, 7), (9, 9), (28, 48)] (.node [] [] .nil (.node [] [] (.node [] [] .nil .nil) (.cut [7] [(7, 7), (9, 9), (30, 47)] (.node [] [] .nil (.node [] [] .nil (.node [] [] .nil .nil))) .nil))) .nil)) (.node [] [] .nil .nil))))))) good mixed Tryd.func21 (by kernel_rfl) (by kernel_rfl) (by kernel_rfl) (by kernel_rfl) (Eq.mp (S21_eq v0 v1 K w) h)

/-- (*rubric/schema.Schema).Len -/
def S17 (v0 : Value) (K : Cont) (w : World) : Prop :=
  pnilK v0 fun b4 =>
  condK (.bool b4)
  (K (.int .i64 0) w)
  (nilckK v0 fun t6 =>
  faK 0 t6 fun t7 =>
  ld1K t7 (fun t8 w1 =>
  lenK t8 fun t9 =>
  K t9 w1) w)
theorem S17_eq (v0 : Value) (K : Cont) (w : World) : S17 v0 K w = D Tryd.prog okf 10 (bodyOf Tryd.f17) (.node [] [] .nil (.node [] [] (.node [] [] .nil (.node [] [] (.node [] [] .nil .nil) .nil)) (.node [] [] .nil .nil))) (retK Tryd.prog [.tmp 2] K) (nth [v0]) w := by kernel_rfl
theorem S17_ok {v0 : Value} {K : Cont} {w : World} (h : S17 v0 K w) : callK Tryd.prog 17 [v0] K w :=
  callK_of (P := Tryd.prog) (ok := okf) (n := 10) (fn := Tryd.f17) (c := bodyOf Tryd.f17) (rs := [.tmp 2]) (an := (.node [] [] .nil (.node [] [] (.node [] [] .nil (.node [] [] (.node [] [] .nil .nil) .nil)) (.node [] [] .nil .nil)))) good mixed Tryd.func17 (by kernel_rfl) (by kernel_rfl) (by kernel_rfl) (by kernel_rfl) (Eq.mp (S17_eq v0 K w) h)

/-- slices.Clone[[]rubric/api.Key,rubric/api.Key] -/
def S41 (v0 : Value) (K : Cont) (w : World) : Prop :=
  snilK v0 fun b4 =>
  condK (.bool b4)
  (K (.slice none 0 0) w)
  (rowK 34 6 0 [] [] (fun t5 w1 =>
  runK Tryd.prog (Builtin.append_ #[22, 22] 22 [t5, v0].toArray) (fun t7 w2 =>
  K t7 w2) w1) w)
theorem S41_eq (v0 : Value) (K : Cont) (w : World) : S41 v0 K w = D Tryd.prog okf 8 (bodyOf Tryd.f41) (.node [] [] .nil (.node [] [] (.node [] [] .nil (.node [] [] (.node [] [] .nil .nil) .nil)) (.node [] [] .nil .nil))) (retK Tryd.prog [.tmp 2] K) (nth [v0]) w := by kernel_rfl
theorem S41_ok {v0 : Value} {K : Cont} {w : World} (h : S41 v0 K w) : callK Tryd.prog 41 [v0] K w :=
  callK_of (P := Tryd.prog) (ok := okf) (n := 8) (fn := Tryd.f41) (c := bodyOf Tryd.f41) (rs := [.tmp 2]) (an := (.node [] [] .nil (.node [] [] (.node [] [] .nil (.node [] [] (.node [] [] .nil .nil) .nil)) (.node [] [] .nil .nil)))) good mixed Tryd.func41 (by kernel_rfl) (by kernel_rfl) (by kernel_rfl) (by kernel_rfl) (Eq.mp (S41_eq v0 K w) h)

/-- rubric/schema.may -/
def S42 (v0 : Value) (K : Cont) (w : World) : Prop :=
  boxnK 34 v0 (fun t1 w1 =>
  JoinK (fun vs w2 => ∀ _h : Env,
  condK (nth vs 0)
  (K (.bool false) w2)
  (faK 1 t1 fun t23 =>
  ld1K t23 (fun t24 w3 =>
  condK t24
  (faK 4 t1 fun t25 =>
  ld1K t25 (fun t26 w4 =>
  notK t26 fun t27 =>
  condK t27
  (faK 5 t1 fun t29 =>
  ld1K t29 (fun t30 w5 =>
  geK .i64 t30 (.int .i64 0) fun t31 =>
  condK t31
  (faK 5 t1 fun t34 =>
  ld1K t34 (fun t35 w6 =>
  leK .i64 t35 (.int .i64 8) fun t36 =>
  K t36 w6) w5)
  (K (.bool false) w5)) w4)
  (K (.bool false) w4)) w3)
  (faK 5 t1 fun t38 =>
  ld1K t38 (fun t39 w7 =>
  eqK .i64 t39 (.int .i64 0) fun t40 =>
  K t40 w7) w3)) w2)) (fun J =>
  faK 0 t1 fun t4 =>
  ld1K t4 (fun t5 w8 =>
  ltK .i64 t5 (.int .i64 1) fun t6 =>
  condK t6
  (J [(.bool true)] w8)
  (faK 0 t1 fun t8 =>
  ld1K t8 (fun t9 w9 =>
  gtK .i64 t9 (.int .i64 1000) fun t10 =>
  condK t10
  (J [(.bool true)] w9)
  (faK 2 t1 fun t13 =>
  ld1K t13 (fun t14 w10 =>
  ltK .u8 t14 (.int .u8 1) fun t15 =>
  condK t15
  (J [(.bool true)] w10)
  (faK 2 t1 fun t18 =>
  ld1K t18 (fun t19 w11 =>
  gtK .u8 t19 (.int .u8 4) fun t20 =>
  J [t20] w11) w10)) w9)) w8)) w1)) w
theorem S42_eq (v0 : Value) (K : Cont) (w : World) : S42 v0 K w = D Tryd.prog okf 41 (bodyOf Tryd.f42) (.node [] [] .nil (.node [] [] (.cut [3] [(3, 21)] .nil (.node [] [] (.node [] [] .nil .nil) (.node [] [] .nil (.node [] [] (.node [] [] .nil .nil) .nil)))) (.node [] [] .nil .nil))) (retK Tryd.prog [.tmp 2] K) (nth [v0]) w := by kernel_rfl
theorem S42_ok {v0 : Value} {K : Cont} {w : World} (h : S42 v0 K w) : callK Tryd.prog 42 [v0] K w :=
  callK_of (P := Tryd.prog) (ok := okf) (n := 41) (fn := Tryd.f42) (c := bodyOf Tryd.f42) (rs := [.tmp 2]) (an := (.node [] [] .nil (.node [] [] (.cut [3] [(3, 21)] .nil (.node [] [] (.node [] [] .nil .nil) (.node [] [] .nil (.node [] [] (.node [] [] .nil .nil) .nil)))) (.node [] [] .nil .nil)))) good mixed Tryd.func42 (by kernel_rfl) (by kernel_rfl) (by kernel_rfl) (by kernel_rfl) (Eq.mp (S42_eq v0 K w) h)

/-- rubric/schema.New$1 -/
def S44 (v0 v1 : Value) (K : Cont) (w : World) : Prop :=
  boxnK 34 v0 (fun t2 w1 =>
  boxnK 34 v1 (fun t3 w2 =>
  faK 0 t2 fun t5 =>
  ld1K t5 (fun t6 w3 =>
  faK 0 t3 fun t7 =>
  ld1K t7 (fun t8 w4 =>
  callK Tryd.prog 45 [t6, t8] (fun t9 w5 =>
  K t9 w5) w4) w3) w2) w1) w
theorem S44_eq (v0 v1 : Value) (K : Cont) (w : World) : S44 v0 v1 K w = D Tryd.prog okf 10 (bodyOf Tryd.f44) (.node [] [] .nil (.node [] [] .nil .nil)) (retK Tryd.prog [.tmp 4] K) (nth [v0, v1]) w := by kernel_rfl
theorem S44_ok {v0 v1 : Value} {K : Cont} {w : World} (h : S44 v0 v1 K w) : callK Tryd.prog 44 [v0, v1] K w :=
  callK_of (P := Tryd.prog) (ok := okf) (n := 10) (fn := Tryd.f44) (c := bodyOf Tryd.f44) (rs := [.tmp 4]) (an := (.node [] [] .nil (.node [] [] .nil .nil))) good mixed Tryd.func44 (by kernel_rfl) (by kernel_rfl) (by kernel_rfl) (by kernel_rfl) (Eq.mp (S44_eq v0 v1 K w) h)

/-- cmp.Compare[int] -/
def S45 (v0 v1 : Value) (K : Cont) (w : World) : Prop :=
  callK Tryd.prog 59 [v0] (fun t8 w1 =>
  callK Tryd.prog 59 [v1] (fun t10 w2 =>
  condK t8
  (condK t10
  (K (.int .i64 0) w2)
  (K (.int .i64 (-1)) w2))
  (condK t10
  (K (.int .i64 1) w2)
  (ltK .i64 v0 v1 fun t16 =>
  condK t16
  (K (.int .i64 (-1)) w2)
  (gtK .i64 v0 v1 fun t19 =>
  condK t19
  (K (.int .i64 1) w2)
  (K (.int .i64 0) w2))))) w1) w
theorem S45_eq (v0 v1 : Value) (K : Cont) (w : World) : S45 v0 v1 K w = D Tryd.prog okf 20 (bodyOf Tryd.f45) (.node [] [] .nil (.node [] [] .nil (.node [] [] .nil (.node [] [] (.node [] [] .nil (.node [] [] (.node [] [] (.node [] [] .nil (.node [] [] (.node [] [] .nil .nil) .nil)) (.node [] [] .nil .nil)) .nil)) (.node [] [] (.node [] [] .nil (.node [] [] (.node [] [] .nil .nil) .nil)) (.node [] [] (.node [] [] .nil (.node [] [] (.node [] [] .nil .nil) .nil)) (.node [] [] (.node [] [] .nil (.node [] [] (.node [] [] .nil .nil) .nil)) (.node [] [] .nil .nil)))))))) (retK Tryd.prog [.tmp 4] K) (nth [v0, v1]) w := by kernel_rfl
theorem S45_ok {v0 v1 : Value} {K : Cont} {w : World} (h : S45 v0 v1 K w) : callK Tryd.prog 45 [v0, v1] K w :=
  callK_of (P := Tryd.prog) (ok := okf) (n := 20) (fn := Tryd.f45) (c := bodyOf Tryd.f45) (rs := [.tmp 4]) (an := (.node [] [] .nil (.node [] [] .nil (.node [] [] .nil (.node [] [] (.node [] [] .nil (.node [] [] (.node [] [] (.node [] [] .nil (.node [] [] (.node [] [] .nil .nil) .nil)) (.node [] [] .nil .nil)) .nil)) (.node [] [] (.node [] [] .nil (.node [] [] (.node [] [] .nil .nil) .nil)) (.node [] [] (.node [] [] .nil (.node [] [] (.node [] [] .nil .nil) .nil)) (.node [] [] (.node [] [] .nil (.node [] [] (.node [] [] .nil .nil) .nil)) (.node [] [] .nil .nil))))))))) good mixed Tryd.func45 (by kernel_rfl) (by kernel_rfl) (by kernel_rfl) (by kernel_rfl) (Eq.mp (S45_eq v0 v1 K w) h)

/-- (*rubric/schema.Schema).Find -/
def S15 (v0 v1 : Value) (K : Cont) (w : World) : Prop :=
  newK 34 [(.int .i64 0), (.bool false), (.int .u8 0), (.bool false), (.bool false), (.int .i64 0)] (fun t4 w1 =>
  pnilK v0 fun b9 =>
  condK (.bool b9)
  (buildK [(0, 1), (1, 1), (2, 1), (3, 1), (4, 1), (5, 1)] [(.int .i64 0), (.bool false), (.int .u8 0), (.bool false), (.bool false), (.int .i64 0)] [] fun t10 =>
  stnK 6 t4 t10 (fun w2 =>
  ldnK 6 t4 (fun r0 w3 =>
  K (.tuple #[r0, (.bool false)]) w3) w2) w1)
  (nilckK v0 fun t13 =>
  faK 1 t13 fun t14 =>
  ld1K t14 (fun t15 w4 =>
  runK Tryd.prog (Instr.lookup 47 t15 v1 true) (fun t17 w5 =>
  extK 0 t17 fun t18 =>
  extK 1 t17 fun t19 =>
  newK 34 [(.int .i64 0), (.bool false), (.int .u8 0), (.bool false), (.bool false), (.int .i64 0)] (fun t6 w6 =>
  stnK 6 t6 t18 (fun w7 =>
  ldnK 6 t6 (fun t20 w8 =>
  stnK 6 t4 t20 (fun w9 =>
  ldnK 6 t4 (fun r0_1 w10 =>
  K (.tuple #[r0_1, t19]) w10) w9) w8) w7) w6) w5) w4) w1)) w
theorem S15_eq (v0 v1 : Value) (K : Cont) (w : World) : S15 v0 v1 K w = D Tryd.prog okf 22 (bodyOf Tryd.f15) (.node [] [] .nil (.node [] [] (.node [] [] .nil (.node [] [] (.node [] [] .nil .nil) .nil)) (.node [] [] .nil (.node [] [] .nil .nil)))) (retK Tryd.prog [.cell 4 34, .tmp 5] K) (nth [v0, v1]) w := by kernel_rfl
theorem S15_ok {v0 v1 : Value} {K : Cont} {w : World} (h : S15 v0 v1 K w) : callK Tryd.prog 15 [v0, v1] K w :=
  callK_of (P := Tryd.prog) (ok := okf) (n := 22) (fn := Tryd.f15) (c := bodyOf Tryd.f15) (rs := [.cell 4 34, .tmp 5]) (an := (.node [] [] .nil (.node [] [] (.node [] [] .nil (.node [] [] (.node [] [] .nil .nil) .nil)) (.node [] [] .nil (.node [] [] .nil .nil))))) good mixed Tryd.func15 (by kernel_rfl) (by kernel_rfl) (by kernel_rfl) (by kernel_rfl) (Eq.mp (S15_eq v0 v1 K w) h)

/-- cmp.isNaN[int] -/
def S59 (v0 : Value) (K : Cont) (w : World) : Prop :=
  neK .i64 v0 v0 fun t5 =>
  K t5 w
theorem S59_eq (v0 : Value) (K : Cont) (w : World) : S59 v0 K w = D Tryd.prog okf 6 (bodyOf Tryd.f59) (.node [] [] .nil (.node [] [] .nil .nil)) (retK Tryd.prog [.tmp 2] K) (nth [v0]) w := by kernel_rfl
theorem S59_ok {v0 : Value} {K : Cont} {w : World} (h : S59 v0 K w) : callK Tryd.prog 59 [v0] K w :=
  callK_of (P := Tryd.prog) (ok := okf) (n := 6) (fn := Tryd.f59) (c := bodyOf Tryd.f59) (rs := [.tmp 2]) (an := (.node [] [] .nil (.node [] [] .nil .nil))) good mixed Tryd.func59 (by kernel_rfl) (by kernel_rfl) (by kernel_rfl) (by kernel_rfl) (Eq.mp (S59_eq v0 K w) h)

end Go.Proofs.YtmfplfaeibehiaaDoor

namespace Go.K
open Go

def MapI (w : World) (b : Nat) (l : List (Int × Value)) : Prop := ∃ es clock, w.heap[b]? = some (.map es clock) ∧ es.toList.map (fun e => (e.key, e.val)) = l.map fun p => (Value.int .i64 p.1, p.2)
theorem MapI.lt {w : World} {b : Nat} {l : List (Int × Value)} (h : MapI w b l) : b < w.heap.size := by
  obtain ⟨es, c, hb, _⟩ := h
  exact (Array.getElem?_eq_some_iff.1 hb).1
theorem MapI.mod {M : Nat → Prop} {w w' : World} {b : Nat} {l : List (Int × Value)} (h : MapI w b l) (hm : Mod M w w') (hb : ¬ M b) : MapI w' b l := by
  have hl := h.lt
  obtain ⟨es, c, h1, h2⟩ := h
  exact ⟨es, c, (hm.same b hl hb).trans h1, h2⟩
theorem MapI.make (w : World) : MapI (w.alloc (.map #[] 0)) w.heap.size [] := ⟨#[], 0, (MapKept.heap_alloc w _).1, rfl⟩

theorem findNow_int (k : Int) : ∀ (es : List MapEntry) (l : List (Int × Value)) (i : Nat), (es.map fun e => (e.key, e.val)) = (l.map fun p => (Value.int .i64 p.1, p.2)) →
    ∃ r, Instr.findNow (.int .i64) (.int .i64 k) es i = some r ∧ ((r = none ∧ l.find? (fun p => decide (p.1 = k)) = none) ∨ ∃ j p, r = some (j, p.2) ∧ l.find? (fun p => decide (p.1 = k)) = some p) := by
  intro es
  induction es with
  | nil =>
    intro l i h
    cases l with
    | nil => exact ⟨none, rfl, .inl ⟨rfl, rfl⟩⟩
    | cons p l => simp at h
  | cons e es ih =>
    intro l i h
    cases l with
    | nil => simp at h
    | cons p l =>
      simp only [List.map_cons, List.cons.injEq, Prod.mk.injEq] at h
      obtain ⟨⟨h1, h2⟩, h3⟩ := h
      obtain ⟨r, hr, hiff⟩ := MapKept.sameNow_of_keys (d := .int .i64) (a := .int .i64 k) (b := e.key) rfl (by rw [h1]; rfl)
      rw [h1] at hiff
      cases r with
      | true =>
        have hk : k = p.1 := by have := hiff.1 rfl; simpa using this
        exact ⟨some (i, e.val), by simp [Instr.findNow, hr], .inr ⟨i, p, by rw [h2], by simp [hk]⟩⟩
      | false =>
        have hk : ¬ p.1 = k := fun e => by have := hiff.2 (by rw [e]); cases this
        obtain ⟨r, h4, h5⟩ := ih l (i + 1) h3
        refine ⟨r, by simp [Instr.findNow, hr, h4], ?_⟩
        simpa [List.find?_cons, hk] using h5
theorem isKeyI (k : Int) : MapKept.IsKey (.int .i64) (.int .i64 k) := rfl
theorem map_lookup {P : Program} {t kt et : TypeId} {z : Value} {w : World} {b : Nat} {l : List (Int × Value)} (ht : P.underlying t = some (.map kt et)) (hk : P.underlying kt = some (.int .i64)) (hz : (zeroValue et).run P w = .ok z w) (h : MapI w b l) (k : Int) :
    (Instr.lookup t (.map (some b)) (.int .i64 k) true).run P w = .ok (.tuple #[((l.find? fun p => decide (p.1 = k)).map (·.2)).getD z, .bool (l.find? fun p => decide (p.1 = k)).isSome]) w := by
  obtain ⟨es, clock, hb, he⟩ := h
  obtain ⟨r, h1, h2⟩ := findNow_int k es.toList l 0 he
  have hf := MapKept.run_findKey (w := w) hk h1
  have hc := fun em => MapKept.run_checkKey (w := w) hk (isKeyI k) em 9999
  rcases h2 with ⟨rfl, h2⟩ | ⟨j, p, rfl, h2⟩
  · simp [Instr.lookup, run_underlying ht, MapKept.run_getObj_map hb, hc, hf, hz, Result.andThen, h2]
  · simp [Instr.lookup, run_underlying ht, MapKept.run_getObj_map hb, hc, hf, Result.andThen, h2]
theorem map_lookup_nil {P : Program} {t kt et : TypeId} {z : Value} {w : World} (ht : P.underlying t = some (.map kt et)) (hk : P.underlying kt = some (.int .i64)) (hz : (zeroValue et).run P w = .ok z w) (k : Int) :
    (Instr.lookup t (.map none) (.int .i64 k) true).run P w = .ok (.tuple #[z, .bool false]) w := by
  have hc := fun em => MapKept.run_checkKey (w := w) hk (isKeyI k) em 9999
  have hf := MapKept.run_findKey (w := w) (k := .int .i64 k) (l := []) hk rfl
  simp [Instr.lookup, run_underlying ht, hc, hf, hz, Result.andThen]
theorem map_update {P : Program} {t kt et : TypeId} {w : World} {b : Nat} {l : List (Int × Value)} (ht : P.underlying t = some (.map kt et)) (hk : P.underlying kt = some (.int .i64)) (h : MapI w b l) (k : Int) (v : Value) (hn : l.find? (fun p => decide (p.1 = k)) = none) :
    ∃ w', (Instr.mapUpdate t (.map (some b)) (.int .i64 k) v).run P w = .ok () w' ∧ MapI w' b (l ++ [(k, v)]) ∧ Mod (fun x => x = b) w w' := by
  obtain ⟨es, clock, hb, he⟩ := h
  obtain ⟨r, h1, h2⟩ := findNow_int k es.toList l 0 he
  have hf := MapKept.run_findKey (w := w) hk h1
  have hc := fun em => MapKept.run_checkKey (w := w) hk (isKeyI k) em 9999
  rcases h2 with ⟨rfl, h2⟩ | ⟨j, p, rfl, h2⟩
  · refine ⟨{ w with heap := w.heap.setIfInBounds b (.map (es.push ⟨.int .i64 k, v, clock⟩) (clock + 1)) }, by simp [Instr.mapUpdate, run_underlying ht, MapKept.run_getObj_map hb, hc, hf, MapKept.run_setObj_map _ hb, Result.andThen], ⟨_, _, (MapKept.heap_set hb).1, ?_⟩, ⟨rfl, rfl, rfl, by simp, fun x _ hx => (MapKept.heap_set hb).2 x hx⟩⟩
    simp [he]
  · rw [h2] at hn; cases hn
end Go.K

namespace Go.K
open Go
theorem pnilK_s {a : Addr} {K : Bool → Prop} (h : K false) : pnilK (.pointer (some a)) K := ⟨_, rfl, h⟩
theorem condK_f {A B : Prop} (h : B) : condK (.bool false) A B := h
theorem condK_t {A B : Prop} (h : A) : condK (.bool true) A B := h
theorem nilckK_s {a : Addr} {K : Value → Prop} (h : K (.pointer (some a))) : nilckK (.pointer (some a)) K := ⟨_, rfl, h⟩
end Go.K
namespace Go.Proofs.YtmfplfaeibehiaaDoor
open Go Go.K

theorem elem_key : ElemOK Tryd.prog 22 34 6 24 := ⟨Tryd.t34, .agg #[.int .i64 0, .bool false, .int .u8 0, .bool false, .bool false, .int .i64 0], by kernel_rfl, by kernel_rfl, by kernel_rfl, by kernel_rfl, by kernel_rfl, by rfl, by decide⟩
theorem elem_int : ElemOK Tryd.prog 43 3 1 8 := ⟨Tryd.t3, .int .i64 0, by kernel_rfl, by kernel_rfl, by kernel_rfl, by kernel_rfl, by kernel_rfl, by rfl, by decide⟩

open Classical in
theorem may1_ok {k : DKey} {w : World} : callK Tryd.prog 42 [.agg k.cells.toArray] (fun v' w' => v' = .bool (decide (KeyOK k)) ∧ Grow w w') w := by
  apply S42_ok
  unfold S42
  refine boxn_i fun b w1 _ _ g hc _ => ?_
  have l0 := hc 0 _ rfl
  have l1 := hc 1 _ rfl
  have l2 := hc 2 _ rfl
  have l4 := hc 4 _ rfl
  have l5 := hc 5 _ rfl
  simp only [faK_i]
  have ans : ∀ q : Bool, (q = true ↔ KeyOK k) → Value.bool q = .bool (decide (KeyOK k)) ∧ Grow w w1 := fun q h => ⟨by congr 1; rw [Bool.eq_iff_iff, h, decide_eq_true_eq], g⟩
  refine JoinK_i (fun vs w2 => w2 = w1 ∧ ∃ q : Bool, vs = [.bool q] ∧ (q = false ↔ 1 ≤ k.id ∧ k.id ≤ 1000 ∧ 1 ≤ k.kind ∧ k.kind ≤ 4)) ?_ ?_
  · rintro vs _ ⟨rfl, q, rfl, hq⟩ _
    rename World => w1
    rw [nth_z, List.headD_cons]
    cases q with
    | true => exact condK_t (ans false ⟨fun h => (nomatch h), fun h => by have := hq.2 ⟨h.1, h.2.1, h.2.2.1, h.2.2.2.1⟩; cases this⟩)
    | false =>
      obtain ⟨h1, h2, h3, h4⟩ := hq.1 rfl
      refine condK_f (ld1K_i l1 ?_)
      cases hb : k.block with
      | true =>
        refine condK_t (ld1K_i l4 ?_)
        rw [notK_i]
        cases hf : k.before with
        | true => exact condK_f (ans false ⟨fun h => (nomatch h), fun h => by have := h.2.2.2.2.2.2.2 hb; rw [hf] at this; cases this⟩)
        | false =>
          refine condK_t (ld1K_i l5 ?_)
          rw [geK_i]
          refine condK_p (fun h5 => ?_) fun h5 => ans false ⟨fun h => (nomatch h), fun h => by have := h.2.2.2.2.1; omega⟩
          refine ld1K_i l5 ?_
          rw [leK_i]
          refine ans _ ?_
          rw [decide_eq_true_eq]
          exact ⟨fun h6 => ⟨h1, h2, h3, h4, h5, h6, (fun e => by rw [hb] at e; cases e), fun _ => hf⟩, fun h => h.2.2.2.2.2.1⟩
      | false =>
        refine condK_f (ld1K_i l5 ?_)
        rw [eqK_i]
        refine ans _ ?_
        rw [decide_eq_true_eq]
        exact ⟨fun h6 => ⟨h1, h2, h3, h4, by omega, by omega, fun _ => h6, fun e => by rw [hb] at e; cases e⟩, fun h => h.2.2.2.2.2.2.1 hb⟩
  · refine ld1K_i l0 ?_
    rw [ltK_i]
    refine condK_p (fun h1 => ⟨rfl, true, rfl, ⟨fun h => (nomatch h), fun h => by omega⟩⟩) fun h1 => ?_
    refine ld1K_i l0 ?_
    rw [gtK_i]
    refine condK_p (fun h2 => ⟨rfl, true, rfl, ⟨fun h => (nomatch h), fun h => by omega⟩⟩) fun h2 => ?_
    refine ld1K_i l2 ?_
    rw [ltK_i]
    refine condK_p (fun h3 => ⟨rfl, true, rfl, ⟨fun h => (nomatch h), fun h => by omega⟩⟩) fun h3 => ?_
    refine ld1K_i l2 ?_
    rw [gtK_i]
    refine ⟨rfl, _, rfl, ?_⟩
    rw [decide_eq_false_iff_not]
    exact ⟨fun h => by omega, fun h => by omega⟩

theorem clone_key {S : Nat → Prop} {v : Value} {l : List DKey} {w : World} (h : RKeys S w v l) (hl : l.length ≤ 1099511627776) :
    callK Tryd.prog 41 [v] (fun v' w' => OwnR w.heap.size 34 6 RKey w' v' l ∧ Grow w w') w := by
  apply S41_ok
  unfold S41
  exact clone_g (K := fun v' w' => OwnR w.heap.size 34 6 RKey w' v' l ∧ Grow w w') elem_key h (by omega) (fun _ _ _ => RKey.one) (fun _ _ _ _ _ _ h => h) fun _ _ h g => ⟨h, g⟩

/-- how two ids compare -/
def cmpI (a b : Int) : Int := if a < b then -1 else if b < a then 1 else 0
theorem cmp_ok {a b : Int} {w : World} : callK Tryd.prog 45 [.int .i64 a, .int .i64 b] (fun v' w' => v' = .int .i64 (cmpI a b) ∧ w' = w) w := by
  have nan : ∀ (c : Int) (K : Cont), K (.bool false) w → callK Tryd.prog 59 [.int .i64 c] K w := by
    intro c K hK
    apply S59_ok
    unfold S59
    rw [neK_i]
    rw [show (!decide (c = c)) = false by simp]; exact hK
  apply S45_ok
  unfold S45
  refine nan _ _ (nan _ _ ?_)
  refine condK_f (condK_f ?_)
  rw [ltK_i]
  unfold cmpI
  refine condK_p (fun h => ⟨by rw [if_pos h], rfl⟩) fun h => ?_
  rw [gtK_i]
  exact condK_p (fun h2 => ⟨by rw [if_neg h, if_pos h2], rfl⟩) fun h2 => ⟨by rw [if_neg h, if_neg h2], rfl⟩

/-- a schema that was made, in memory -/
def SchR (D : Nat → Prop) (w : World) (v : Value) (ks : List DKey) : Prop :=
  ∃ b m kv l, v = .pointer (some ⟨b, 0, none⟩) ∧ D b ∧ D m ∧ w.cell? ⟨b, 0, none⟩ = some kv ∧ w.cell? ⟨b, 1, none⟩ = some (.map (some m)) ∧ SlR D 6 RKey w kv ks ∧ MapI w m l ∧
    ∀ id : Int, (l.find? fun p => decide (p.1 = id)).map (·.2) = (findK ks id).map fun k => .agg k.cells.toArray
theorem SchR.mod {D M : Nat → Prop} {w w' : World} {v : Value} {ks : List DKey} (h : SchR D w v ks) (hm : Mod M w w') (hd : ∀ b, b < w.heap.size → D b → ¬ M b) : SchR D w' v ks := by
  obtain ⟨b, m, kv, l, rfl, h1, h2, h3, h4, h5, h6, h7⟩ := h
  have hb := World.block_lt_of_cell? w _ h3
  exact ⟨b, m, kv, l, rfl, h1, h2, hm.cell h3 (hd _ hb h1), hm.cell h4 (hd _ hb h1), h5.mod hm hd (by decide) fun _ _ h => h, h6.mod hm (hd _ h6.lt h2), h7⟩
theorem SchR.grow {D : Nat → Prop} {w w' : World} {v : Value} {ks : List DKey} (h : SchR D w v ks) (hm : Grow w w') : SchR D w' v ks := h.mod hm fun _ _ _ h => h
theorem SchR.sub {D D' : Nat → Prop} {w : World} {v : Value} {ks : List DKey} (h : SchR D w v ks) (hd : ∀ b, b < w.heap.size → D b → D' b) : SchR D' w v ks := by
  obtain ⟨b, m, kv, l, rfl, h1, h2, h3, h4, h5, h6, h7⟩ := h
  exact ⟨b, m, kv, l, rfl, hd _ (World.block_lt_of_cell? w _ h3) h1, hd _ h6.lt h2, h3, h4, h5.sub hd (by decide) fun _ _ h => h, h6, h7⟩

theorem zero_key (w : World) : (zeroValue 34).run Tryd.prog w = .ok (.agg DKey.zero.cells.toArray) w := run_zeroValue (by kernel_rfl) w
theorem sfind_ok {D : Nat → Prop} {v : Value} {ks : List DKey} {w : World} (h : SchR D w v ks) (id : Int) :
    callK Tryd.prog 15 [v, .int .i64 id] (fun v' w' => v' = .tuple #[.agg ((findK ks id).getD DKey.zero).cells.toArray, .bool (findK ks id).isSome] ∧ Grow w w') w := by
  apply S15_ok
  unfold S15
  obtain ⟨b, m, kv, l, rfl, _, _, h3, h4, h5, h6, h7⟩ := h
  refine newz_i fun b4 w1 hb4 hz4 g4 _ hl4 => ?_
  refine pnilK_s (condK_f (nilckK_s ?_))
  rw [faK_i]
  refine ld1K_i (g4.cell (by rw [addr0]; exact h4) fun h => h) ?_
  refine runK_i (map_lookup Tryd.underlying47 Tryd.underlying3 (zero_key _) (h6.mod g4 fun h => h) id) ?_
  have e1 : ((l.find? fun p => decide (p.1 = id)).map (·.2)).getD (.agg DKey.zero.cells.toArray) = .agg ((findK ks id).getD DKey.zero).cells.toArray := by
    rw [h7]; cases findK ks id <;> rfl
  have e2 : (l.find? fun p => decide (p.1 = id)).isSome = (findK ks id).isSome := by
    have := congrArg Option.isSome (h7 id)
    simpa using this
  rw [e1, e2]
  refine extK_i (vs := [_, _]) (by rfl) (extK_i (vs := [_, _]) (by rfl) ?_)
  generalize (findK ks id).getD DKey.zero = k
  refine newst_n (vs := k.cells) rfl rfl (RKey.one (w := w) (x := k) rfl) fun b6 w3 hb6 hz6 g6 hc6 _ => ?_
  refine ldnK_i (vs := k.cells) rfl hc6 ?_
  refine stn_over rfl (RKey.one (w := w) (x := k) rfl) (fun j hj => (hl4 j hj).mod g6 fun h => h) fun w4 m4 hc4 _ => ?_
  refine ldnK_i (vs := k.cells) rfl hc4 ⟨rfl, ?_⟩
  exact (g4.trans g6).next m4 fun x hx e => by omega
theorem slen_ok {D : Nat → Prop} {v : Value} {ks : List DKey} {w : World} (h : SchR D w v ks) :
    callK Tryd.prog 17 [v] (fun v' w' => v' = .int .i64 ks.length ∧ w' = w) w := by
  apply S17_ok
  unfold S17
  obtain ⟨b, m, kv, l, rfl, _, _, h3, h4, h5, h6, h7⟩ := h
  refine pnilK_s (condK_f (nilckK_s ?_))
  rw [faK_i]
  refine ld1K_i (by rw [addr0]; exact h3) ?_
  obtain ⟨a, c, rfl, _⟩ := h5.shape
  rw [lenK_i]
  exact ⟨rfl, rfl⟩
theorem skeys_ok {D : Nat → Prop} {v : Value} {ks : List DKey} {w : World} (h : SchR D w v ks) (hl : ks.length ≤ 1099511627776) :
    callK Tryd.prog 19 [v] (fun v' w' => OwnR w.heap.size 34 6 RKey w' v' ks ∧ Grow w w') w := by
  apply S19_ok
  unfold S19
  obtain ⟨b, m, kv, l, rfl, _, _, h3, h4, h5, h6, h7⟩ := h
  refine pnilK_s (condK_f (nilckK_s ?_))
  rw [faK_i]
  refine ld1K_i (by rw [addr0]; exact h3) ?_
  exact callK_mono (clone_key h5 hl) fun _ _ h => h

abbrev RNum : World → List Value → Int → Prop := fun _ r x => r = [.int .i64 x]
theorem RNum.one {w : World} {r : List Value} {x : Int} (h : RNum w r x) : ∀ u ∈ r, u.oneCell' = true := by
  subst h; intro u hu; simp at hu; subst hu; rfl
/-- the others of a key's group -/
def groupK (ks : List DKey) (id : Int) : List Int := match findK ks id with
  | none => []
  | some k => if k.group = 0 then [] else (ks.filter fun o => decide (o.group = k.group ∧ o.id ≠ id)).map (·.id)
end Go.Proofs.YtmfplfaeibehiaaDoor

namespace Go.Proofs.YtmfplfaeibehiaaDoor
open Go Go.K

/-- the library's table of first bytes, from 128 on; the ranges of second bytes -/
def firstT (x : Int) : Int := if x < 194 then 241 else if x < 224 then 2 else if x = 224 then 19 else if x = 237 then 35 else if x < 240 then 3 else if x = 240 then 52 else if x < 244 then 4 else if x = 244 then 68 else 241
def accLo (j : Nat) : Int := if j = 1 then 160 else if j = 3 then 144 else if j < 5 then 128 else 0
def accHi (j : Nat) : Int := if j = 2 then 159 else if j = 4 then 143 else if j < 5 then 191 else 0
/-- the tables lie in memory -/
structure Tabs (w : World) : Prop where
  size : 2 < w.heap.size
  first : ∀ j : Nat, 128 ≤ j → j < 256 → w.cell? ⟨1, j, none⟩ = some (.int .u8 (firstT j))
  acc : ∀ j : Nat, j < 16 → w.cell? ⟨2, j * 2, none⟩ = some (.int .u8 (accLo j)) ∧ w.cell? ⟨2, j * 2 + 1, none⟩ = some (.int .u8 (accHi j))
theorem Tabs.grow {w w' : World} (h : Tabs w) (g : Grow w w') : Tabs w' :=
  ⟨Nat.lt_of_lt_of_le h.size g.size, fun j h1 h2 => g.cell (h.first j h1 h2) fun h => h, fun j hj => ⟨g.cell (h.acc j hj).1 fun h => h, g.cell (h.acc j hj).2 fun h => h⟩⟩
theorem Tabs.mod {M : Nat → Prop} {w w' : World} (h : Tabs w) (g : Mod M w w') (hM : ∀ b, b < 3 → ¬ M b) : Tabs w' :=
  ⟨Nat.lt_of_lt_of_le h.size g.size, fun j h1 h2 => g.cell (h.first j h1 h2) (hM 1 (by decide)), fun j hj => ⟨g.cell (h.acc j hj).1 (hM 2 (by decide)), g.cell (h.acc j hj).2 (hM 2 (by decide))⟩⟩

/-- what a first byte's entry says -/
theorem tab_ok {x : Int} (h0 : 128 ≤ x) (h1 : x < 256) : ∃ (f : Int) (z j : Nat), firstT x = f ∧ 0 ≤ f ∧ f < 256 ∧ (f.toNat &&& 7) = z ∧ f / 16 = j ∧ j < 16 ∧ (z = hdSize x ∨ hdSize x = 0 ∧ z = 1) ∧ (hdSize x ≠ 0 → accLo j = hdLo x ∧ accHi j = hdHi x) := by
  unfold firstT hdSize hdLo hdHi
  by_cases a1 : x < 194
  · exact ⟨241, 1, 15, by rw [if_pos a1], by decide, by decide, by decide, by decide, by decide, by rw [if_pos a1]; exact .inr ⟨rfl, rfl⟩, by rw [if_pos a1]; exact fun h => absurd rfl h⟩
  rw [if_neg a1, if_neg a1]
  by_cases a2 : x < 224
  · rw [if_pos a2, if_pos a2]
    exact ⟨2, 2, 0, rfl, by decide, by decide, by decide, by decide, by decide, .inl rfl, fun _ => ⟨by rw [if_neg (by omega), if_neg (by omega)]; rfl, by rw [if_neg (by omega), if_neg (by omega)]; rfl⟩⟩
  rw [if_neg a2, if_neg a2]
  by_cases a3 : x = 224
  · subst a3
    exact ⟨19, 3, 1, rfl, by decide, by decide, by decide, by decide, by decide, .inl rfl, fun _ => ⟨rfl, rfl⟩⟩
  rw [if_neg a3, if_neg a3]
  by_cases a4 : x = 237
  · subst a4
    exact ⟨35, 3, 2, rfl, by decide, by decide, by decide, by decide, by decide, .inl rfl, fun _ => ⟨rfl, rfl⟩⟩
  rw [if_neg a4, if_neg a4]
  by_cases a5 : x < 240
  · rw [if_pos a5, if_pos a5]
    exact ⟨3, 3, 0, rfl, by decide, by decide, by decide, by decide, by decide, .inl rfl, fun _ => ⟨by rw [if_neg (by omega)]; rfl, by rw [if_neg (by omega)]; rfl⟩⟩
  rw [if_neg a5, if_neg a5]
  by_cases a6 : x = 240
  · subst a6
    exact ⟨52, 4, 3, rfl, by decide, by decide, by decide, by decide, by decide, .inl rfl, fun _ => ⟨rfl, rfl⟩⟩
  rw [if_neg a6, if_neg a6]
  by_cases a7 : x < 244
  · rw [if_pos a7, if_pos (by omega)]
    exact ⟨4, 4, 0, rfl, by decide, by decide, by decide, by decide, by decide, .inl rfl, fun _ => ⟨rfl, by rw [if_neg (by omega)]; rfl⟩⟩
  rw [if_neg a7]
  by_cases a8 : x = 244
  · subst a8
    exact ⟨68, 4, 4, rfl, by decide, by decide, by decide, by decide, by decide, .inl rfl, fun _ => ⟨rfl, rfl⟩⟩
  rw [if_neg a8, if_neg (by omega)]
  exact ⟨241, 1, 15, rfl, by decide, by decide, by decide, by decide, by decide, .inr ⟨rfl, rfl⟩, fun h => absurd rfl h⟩
theorem hdSize_v (x : Int) : hdSize x = 0 ∨ hdSize x = 2 ∨ hdSize x = 3 ∨ hdSize x = 4 := by
  unfold hdSize
  (repeat' split) <;> simp
theorem run_and8 {t : TypeId} {xo yo : Operand} {a : Int} {z : Nat} (w : World) (h0 : 0 ≤ a) (h1 : a < 256) (hz : (a.toNat &&& 7) = z) : (binS .and t xo yo (.int .u8 a) (.int .u8 7)).run Tryd.prog w = .ok (.int .u8 z) w := by
  rw [(run_bits w).2]
  have e : ((BitVec.ofInt IntKind.u8.bits a &&& BitVec.ofInt IntKind.u8.bits 7).toNat : Int) = ((a.toNat &&& 7 : Nat) : Int) := by
    show ((BitVec.ofInt 8 a &&& BitVec.ofInt 8 7).toNat : Int) = _
    rw [BitVec.toNat_and, BitVec.toNat_ofInt, BitVec.toNat_ofInt]
    have e : ((2 ^ 8 : Nat) : Int) = 256 := by decide
    rw [e, Int.emod_eq_of_lt h0 h1]
    rfl
  have hz8 : z ≤ 7 := hz ▸ Nat.and_le_right
  rw [e, hz]
  congr 2
  have e1 : (2 : Int) ^ IntKind.u8.bits = 256 := by decide
  simp only [IntKind.wrap, e1, IntKind.signed, Bool.false_and]
  rw [if_neg (by decide)]
  omega
/-- how long a slice is -/
def slLen (v : Value) : Nat := match v with | .slice _ n _ => n | _ => 0
theorem skip_ok {l : List Int} {k : Nat} (hl : ByteL l) (hk : k ≤ l.length) (h : ∀ j, j < k → l.getD j 0 < 128) : (readB l).isSome = (readB (l.drop k)).isSome := by
  refine readB_skip hk fun j x hj hx => ?_
  have := h j hj
  rw [List.getD_eq_getElem?_getD, hx] at this
  exact ⟨(hl x (List.mem_iff_getElem?.2 ⟨j, hx⟩)).1, this⟩
theorem getD_drop (l : List Int) (k j : Nat) : (l.drop k).getD j 0 = l.getD (k + j) 0 := by
  rw [List.getD_eq_getElem?_getD, List.getD_eq_getElem?_getD, List.getElem?_drop]
theorem and_or_zero {a b c : Nat} (h : ((a ||| b) &&& c) = 0) : (a &&& c) = 0 ∧ (b &&& c) = 0 := by
  rw [Nat.and_or_distrib_right] at h
  exact Nat.or_eq_zero_iff.1 h
theorem hi_zero {n : Nat} (h : ((n &&& (9259542123273814144 : Int).toNat : Nat) : Int) = 0) : (n &&& 9259542123273814144) = 0 := Int.ofNat_inj.1 h
set_option maxRecDepth 10000 in
theorem valid_ok {S : Nat → Prop} {v : Value} {b : List Int} {w : World} (h : RBytes S w v b) (hb : ByteL b) (hT : Tabs w) :
    callK Tryd.prog 93 [v] (fun v' w' => v' = .bool (readB b).isSome ∧ Grow w w') w := by
  apply S93_ok
  unfold S93
  have hu : Tryd.prog.underlying 54 = some (.slice 5) := by kernel_rfl
  have hi : Tryd.prog.info? 5 = some Tryd.t5 := by kernel_rfl
  have hs : Tryd.t5.size = 1 := by kernel_rfl
  obtain ⟨a, c, rfl, hm⟩ := h.shape
  obtain ⟨_, _, e0, hc0, _, _⟩ := id h
  cases e0
  rw [lenK_i, lenK_i]
  obtain ⟨a', hr0, ha'⟩ := slice_all_run (a := a) (n := b.length) (c := c) hu hi hs hc0 w
  refine runK_i hr0 ?_
  have h' : RBytes S w (.slice a' b.length b.length) b := by
    obtain ⟨_, _, e0, h1, h2, h3⟩ := h
    cases e0
    refine ⟨_, _, rfl, Nat.le_refl _, hm, fun i x hx => ?_⟩
    obtain ⟨p, r, rfl, q⟩ := h3 i x hx
    have := (List.getElem?_eq_some_iff.1 hx).1
    exact ⟨p, r, ha' (by omega), q⟩
  refine LoopK_i (fun vs W => ∃ l v1, vs = [v1] ∧ RBytes S W v1 l ∧ ByteL l ∧ (readB b).isSome = (readB l).isSome ∧ Grow w W) (fun vs _ => slLen (nth vs 0)) ⟨b, _, rfl, h', hb, rfl, Mod.refl _ _⟩ ?_
  rintro vs W ⟨l, v1, rfl, hl, hB, hrd, gW⟩ _
  rw [nth_z, List.headD_cons]
  obtain ⟨p1, c1, rfl, hm1⟩ := hl.shape
  simp only [maxLen] at hm1
  rw [lenK_i, gtK_i]
  refine condK_p (fun hpos => ?_) fun hneg => ?_
  rotate_left
  · have : l = [] := List.eq_nil_of_length_eq_zero (by omega)
    subst this
    exact ⟨by rw [hrd, readB_nil]; rfl, gW⟩
  -- the round ends with a rest that is shorter
  have again : ∀ {W' : World} {v' : Value} {l' : List Int}, RBytes S W' v' l' → ByteL l' → (readB l).isSome = (readB l').isSome → l'.length < l.length → Grow w W' →
      ((∃ l v1, [v'] = [v1] ∧ RBytes S W' v1 l ∧ ByteL l ∧ (readB b).isSome = (readB l).isSome ∧ Grow w W') ∧ slLen (nth [v'] 0) < slLen (nth [Value.slice p1 l.length c1] 0)) := by
    intro W' v' l' h1 h2 h3 h4 h5
    obtain ⟨q, d, rfl, _⟩ := h1.shape
    exact ⟨⟨l', _, rfl, h1, h2, hrd.trans h3, h5⟩, h4⟩
  have sl : ∀ {W' : World} {q : Option Addr} {n d j : Nat} {l' : List Int} {K : Cont}, RBytes S W' (.slice q n d) l' → j ≤ l'.length → (∀ v', RBytes S W' v' (l'.drop j) → K v' W') → runK Tryd.prog (Instr.sliceAt 54 (.slice q n d) (some (.int .i64 j)) none none) K W' :=
    fun h1 h2 h3 => slice_lo (e := 5) (i := Tryd.t5) hu hi hs h1 h2 h3
  have ge : ∀ {W1 W2 : World} {v' : Value} {l' : List Int}, RBytes S W1 v' l' → Grow W1 W2 → RBytes S W2 v' l' := fun h1 g => h1.grow g (by decide) fun _ _ h => h
  -- a word's call, in a region
  have wq : ∀ {W1 : World} {v' : Value} {l' : List Int} {K : Value → Prop}, RBytes S W1 v' l' → ByteL l' → 8 ≤ l'.length → K (.int .u64 (wordN l')) → qcallK Tryd.prog (fun W2 => Grow W1 W2) 97 [v'] K := by
    intro W1 v' l' K h1 h2 h3 h4
    refine ⟨_, fun w2 g => callK_mono (word_ok (ge h1 g) h2 h3) ?_, h4⟩
    rintro _ w3 ⟨rfl, g3⟩
    exact ⟨rfl, g.trans g3⟩
  obtain ⟨x, t, rfl⟩ : ∃ x t, l = x :: t := by cases l with | nil => simp at hpos | cons x t => exact ⟨x, t, rfl⟩
  have hx := hB x List.mem_cons_self
  have hBt : ByteL t := fun y hy => hB y (List.mem_cons_of_mem _ hy)
  obtain ⟨p, r, rfl, _, hr, hc, rfl⟩ := hl.get (i := 0) (by simp)
  have cx : W.cell? (p.add (0 * 1 + 0)) = some (.int .u8 x) := hc 0 _ rfl
  refine ixK_n (j := 0) (by simp) (ld1K_i cx ?_)
  show ltK .u8 (.int .u8 x) _ _
  rw [ltK_i]
  refine condK_p (fun hlo => ?_) fun hhi => ?_
  · -- ASCII
    have hrt : (readB (x :: t)).isSome = (readB t).isSome := by
      have := skip_ok (l := x :: t) (k := 1) hB (by simp) fun j hj => by
        have : j = 0 := by omega
        subst this; exact hlo
      simpa using this
    refine sl hl (j := 1) (by simp) fun v2 hv2 => ?_
    rw [List.drop_succ_cons, List.drop_zero] at hv2
    obtain ⟨q2, d2, rfl, _⟩ := hv2.shape
    refine JoinK_i (fun vs W2 => Grow W W2 ∧ ∃ q : Bool, vs = [.bool q] ∧ (q = true → 8 ≤ t.length ∧ ∀ j, j < 8 → t.getD j 0 < 128)) ?_ ?_
    · rintro vs W2 ⟨g2, q, rfl, hq⟩ _
      rw [nth_z, List.headD_cons]
      cases q with
      | false => exact condK_f (again (ge hv2 g2) hBt hrt (by simp) (gW.trans g2))
      | true =>
        obtain ⟨h8, hq8⟩ := hq rfl
        refine condK_t (sl (ge hv2 g2) (j := 8) h8 fun v3 hv3 => ?_)
        have hB3 : ByteL (t.drop 8) := ByteL.drop hBt 8
        have hr3 : (readB (x :: t)).isSome = (readB (t.drop 8)).isSome := hrt.trans (skip_ok hBt h8 hq8)
        have hl3 : (t.drop 8).length < (x :: t).length := by simp; omega
        generalize t.drop 8 = l3 at hv3 hB3 hr3 hl3
        obtain ⟨q3, d3, rfl, _⟩ := hv3.shape
        refine JoinK_i (fun vs W3 => Grow W W3 ∧ Grow W2 W3 ∧ ∃ q : Bool, vs = [.bool q] ∧ (q = true → 16 ≤ l3.length ∧ ∀ j, j < 16 → l3.getD j 0 < 128)) ?_ ?_
        · rintro vs W3 ⟨g3, g23, q, rfl, hq⟩ _
          rw [nth_z, List.headD_cons]
          cases q with
          | false => exact condK_f (again (ge hv3 g23) hB3 hr3 hl3 (gW.trans g3))
          | true =>
            obtain ⟨h16, hq16⟩ := hq rfl
            refine condK_t (sl (ge hv3 g23) (j := 16) h16 fun v4 hv4 => ?_)
            refine LoopK_i (fun vs W4 => ∃ l4 v5, vs = [v5] ∧ RBytes S W4 v5 l4 ∧ ByteL l4 ∧ (readB (x :: t)).isSome = (readB l4).isSome ∧ l4.length < (x :: t).length ∧ Grow W W4) (fun vs _ => slLen (nth vs 0))
              ⟨_, _, rfl, hv4, ByteL.drop hB3 16, hr3.trans (skip_ok hB3 h16 hq16), by simp only [List.length_drop]; omega, g3⟩ ?_
            rintro vs W4 ⟨l4, v5, rfl, hv5, hB4, hr4, hl4, g4⟩ _
            rw [nth_z, List.headD_cons]
            obtain ⟨q5, d5, rfl, _⟩ := hv5.shape
            refine drawK_i (fun W' => Grow W4 W') (Mod.drew _ _) ?_
            rw [lenK_i, gtK_i]
            refine condK_p (fun h32 => ?_) fun _ => fun W' g' => again (ge hv5 g') hB4 hr4 hl4 (gW.trans (g4.trans g'))
            have h32' : 32 < l4.length := by omega
            have run := fun (j : Nat) (hj : j ≤ l4.length) (w' : World) => slice_lo_run (a := q5) (n := l4.length) (c := d5) hu hi hs hj w'
            have sls := fun (j : Nat) (hj : j ≤ l4.length) => slice_lo_sl hv5 hj
            refine wq hv5 hB4 (by omega) ?_
            refine ⟨_, fun w' _ => run 8 (by omega) w', ?_⟩
            refine wq (sls 8 (by omega)) (ByteL.drop hB4 8) (by simp only [List.length_drop]; omega) ?_
            have u0 := wordN_U hB4
            have u1 := wordN_U (ByteL.drop hB4 8)
            have u2 := wordN_U (ByteL.drop hB4 16)
            have u3 := wordN_U (ByteL.drop hB4 24)
            refine ⟨_, fun w' _ => run_or64 w' u0 u1, ?_⟩
            refine ⟨_, fun w' _ => run 16 (by omega) w', ?_⟩
            refine wq (sls 16 (by omega)) (ByteL.drop hB4 16) (by simp only [List.length_drop]; omega) ?_
            refine ⟨_, fun w' _ => run 24 (by omega) w', ?_⟩
            refine wq (sls 24 (by omega)) (ByteL.drop hB4 24) (by simp only [List.length_drop]; omega) ?_
            refine ⟨_, fun w' _ => run_or64 w' u2 u3, ?_⟩
            refine ⟨_, fun w' _ => run_or64 w' (orN_U u0 u1) (orN_U u2 u3), ?_⟩
            refine ⟨_, fun w' _ => run_and64 w' (orN_U (orN_U u0 u1) (orN_U u2 u3)) (by unfold U64; decide), ?_⟩
            show eqK .u64 (.int .u64 _) _ _
            rw [eqK_i]
            intro W' g'
            refine condK_p (fun hz => ?_) fun _ => again (ge hv5 g') hB4 hr4 hl4 (gW.trans (g4.trans g'))
            have hz' : ((orN (orN (wordN l4) (wordN (l4.drop 8))) (orN (wordN (l4.drop 16)) (wordN (l4.drop 24)))).toNat &&& 9259542123273814144 : Nat) = 0 := hi_zero hz
            simp only [orN, Int.toNat_natCast] at hz'
            obtain ⟨z1, z2⟩ := and_or_zero hz'
            obtain ⟨z3, z4⟩ := and_or_zero z1
            obtain ⟨z5, z6⟩ := and_or_zero z2
            have a32 : ∀ j, j < 32 → l4.getD j 0 < 128 := by
              intro j hj
              rcases (show j < 8 ∨ 8 ≤ j ∧ j < 16 ∨ 16 ≤ j ∧ j < 24 ∨ 24 ≤ j by omega) with h | h | h | h
              · exact word_ascii hB4 z3 h
              · have := word_ascii (ByteL.drop hB4 8) z4 (j := j - 8) (by omega)
                rw [getD_drop, show 8 + (j - 8) = j by omega] at this; exact this
              · have := word_ascii (ByteL.drop hB4 16) z5 (j := j - 16) (by omega)
                rw [getD_drop, show 16 + (j - 16) = j by omega] at this; exact this
              · have := word_ascii (ByteL.drop hB4 24) z6 (j := j - 24) (by omega)
                rw [getD_drop, show 24 + (j - 24) = j by omega] at this; exact this
            refine sl (ge hv5 g') (j := 32) (by omega) fun v6 hv6 => ?_
            obtain ⟨q6, d6, rfl, _⟩ := hv6.shape
            refine ⟨⟨_, _, rfl, hv6, ByteL.drop hB4 32, hr4.trans (skip_ok hB4 (by omega) a32), by simp only [List.length_drop]; omega, g4.trans g'⟩, ?_⟩
            show (l4.drop 32).length < l4.length
            rw [List.length_drop]; omega
        · refine drawK_i (fun W' => Grow W2 W') (Mod.drew _ _) ?_
          rw [lenK_i, gtK_i]
          refine condK_p (fun h16 => ?_) fun _ => fun W' g' => ⟨g2.trans g', g', false, rfl, fun h => (nomatch h)⟩
          have h16' : 16 < l3.length := by omega
          refine wq hv3 hB3 (by omega) ?_
          refine ⟨_, fun w' _ => slice_lo_run (a := q3) (n := l3.length) (c := d3) hu hi hs (j := 8) (by omega) w', ?_⟩
          refine wq (slice_lo_sl hv3 (by omega)) (ByteL.drop hB3 8) (by simp only [List.length_drop]; omega) ?_
          have u0 := wordN_U hB3
          have u1 := wordN_U (ByteL.drop hB3 8)
          refine ⟨_, fun w' _ => run_or64 w' u0 u1, ?_⟩
          refine ⟨_, fun w' _ => run_and64 w' (orN_U u0 u1) (by unfold U64; decide), ?_⟩
          show eqK .u64 (.int .u64 _) _ _
          rw [eqK_i]
          intro W' g'
          refine ⟨g2.trans g', g', _, rfl, fun hz => ?_⟩
          rw [decide_eq_true_eq] at hz
          have hz' : ((orN (wordN l3) (wordN (l3.drop 8))).toNat &&& 9259542123273814144 : Nat) = 0 := hi_zero hz
          simp only [orN, Int.toNat_natCast] at hz'
          obtain ⟨z1, z2⟩ := and_or_zero hz'
          refine ⟨by omega, fun j hj => ?_⟩
          rcases (show j < 8 ∨ 8 ≤ j by omega) with h | h
          · exact word_ascii hB3 z1 h
          · have := word_ascii (ByteL.drop hB3 8) z2 (j := j - 8) (by omega)
            rw [getD_drop, show 8 + (j - 8) = j by omega] at this; exact this
    · rw [lenK_i, gtK_i]
      refine condK_p (fun h8 => ?_) fun _ => ⟨Mod.refl _ _, false, rfl, fun h => (nomatch h)⟩
      have h8' : 8 < t.length := by omega
      refine callK_mono (word_ok hv2 hBt (by omega)) ?_
      rintro _ W2 ⟨rfl, g2⟩
      refine runK_i (run_and64 W2 (wordN_U hBt) (by unfold U64; decide)) ?_
      rw [eqK_i]
      refine ⟨g2, _, rfl, fun hz => ?_⟩
      rw [decide_eq_true_eq] at hz
      exact ⟨by omega, fun j hj => word_ascii hBt (hi_zero hz) hj⟩
  · -- the first byte of several
    have bad : nextB (x :: t) = (0, 0) → ∀ {W'}, Grow w W' → Value.bool false = .bool (readB b).isSome ∧ Grow w W' := fun e W' g => ⟨by rw [hrd, readB_step (by simp), e]; rfl, g⟩
    have good : ∀ {n : Nat} {r : Int}, nextB (x :: t) = (r, n) → 0 < n → (readB (x :: t)).isSome = (readB ((x :: t).drop n)).isSome := by
      intro n r e hn
      rw [readB_step (by simp), e]
      show (decide (n ≠ 0) && _) = _
      rw [decide_eq_true (show n ≠ 0 by omega), Bool.true_and]
    obtain ⟨f, z, j, hf, hf0, hf1, hz, hj, hj16, hzs, hacc⟩ := tab_ok (x := x) (by omega) hx.2
    have hTW := hT.grow gW
    have cf : W.cell? (Addr.add ⟨1, 0, none⟩ (x.toNat * 1)) = some (.int .u8 f) := by
      rw [addr0, Nat.mul_one, ← hf]
      have := hTW.first x.toNat (by omega) (by omega)
      rwa [show ((x.toNat : Nat) : Int) = x by omega] at this
    refine runK_i (run_indexAt_arr (n := 256) (e := 5) (i := Tryd.t5) (s := 1) (by kernel_rfl) (by kernel_rfl) (by kernel_rfl) hx.1 (by omega)) (ld1K_i cf ?_)
    refine runK_i (run_and8 W hf0 hf1 hz) ?_
    refine runK_i (run_conv (k := .i64) W (by kernel_rfl) (by kernel_rfl)) ?_
    have hz7 : z ≤ 7 := hz ▸ Nat.and_le_right
    rw [wrap64 (by omega) (by omega)]
    refine runK_i (run_shr (n := 4) W (by decide)) ?_
    have ej : f.fdiv (2 ^ 4) = (j : Int) := by
      rw [Int.fdiv_eq_ediv_of_nonneg _ (by decide), ← hj]; rfl
    rw [ej]
    refine runK_i (run_indexAt_arr (n := 16) (e := 154) (i := Tryd.t154) (s := 2) (by kernel_rfl) (by kernel_rfl) (by kernel_rfl) (by omega) (by omega)) ?_
    rw [Int.toNat_natCast, addr0]
    obtain ⟨ca, cb⟩ := hTW.acc j hj16
    refine ldnK_i (vs := [.int .u8 (accLo j), .int .u8 (accHi j)]) rfl (fun q u hu => ?_) ?_
    · rcases q with _ | _ | q
      · cases hu; exact ca
      · cases hu; exact cb
      · simp at hu
    refine newst_n (vs := [.int .u8 (accLo j), .int .u8 (accHi j)]) rfl rfl (fun u hu => by simp at hu; rcases hu with rfl | rfl <;> rfl) fun b6 W2 hb6 hz6 g6 hc6 _ => ?_
    have c6a := hc6 0 _ rfl
    have c6b := hc6 1 _ rfl
    have gW2 := gW.trans g6
    have hl2 := ge hl g6
    have lenpos : 0 < (x :: t).length := by simp
    -- the second byte's test, the third's
    rw [eqK_i]
    refine condK_p (fun h2 => ?_) fun h2 => ?_
    · have hz2 : z = 2 := by omega
      have hsz : hdSize x = 2 := by omega
      obtain ⟨elo, ehi⟩ := hacc (by omega)
      refine JoinK_i (fun _ W3 => Grow W2 W3 ∧ 2 ≤ (x :: t).length ∧ (readB (x :: t)).isSome = (readB ((x :: t).drop 2)).isSome) ?_ ?_
      · rintro vs W3 ⟨g3, hle, hrr⟩ _
        refine sl (ge hl2 g3) (j := 2) hle fun v3 hv3 => ?_
        exact again hv3 (ByteL.drop hB 2) hrr (by rw [List.length_drop]; omega) (gW2.trans g3)
      refine drawK_i (fun W' => Grow W2 W') (Mod.drew _ _) ?_
      rw [lenK_i, ltK_i]
      refine condK_p (fun hsh => fun W' g' => bad (next_short hx.2 (by rw [hsz]; omega)) (gW2.trans g')) fun hlg => ?_
      obtain ⟨y1, t1, rfl⟩ : ∃ y t', t = y :: t' := by cases t with | nil => simp at hlg | cons y t' => exact ⟨y, t', rfl⟩
      have hy1 := hBt y1 List.mem_cons_self
      have hn := next_2 (t := t1) hsz hy1.1 hy1.2
      obtain ⟨_, r1, e1, _, hr1, hc1, rfl⟩ := hl2.get (i := 1) (by simp)
      cases e1
      have cy1 := hc1 0 _ rfl
      refine ixK_n (j := 1) (by simp) (qld1K_i (fun w' g => g.cell cy1 fun h => h) ?_)
      rw [faK_i]
      refine qld1K_i (fun w' g => g.cell c6a fun h => h) ?_
      show ltK .u8 (.int .u8 y1) _ _
      rw [ltK_i]
      refine condK_p (fun hb1 => fun W' g' => bad (by rw [hn, if_neg (by omega)]) (gW2.trans g')) fun hb1 => ?_
      rw [faK_i]
      refine qld1K_i (fun w' g => g.cell c6b fun h => h) ?_
      refine ixK_n (j := 1) (by simp) (qld1K_i (fun w' g => g.cell cy1 fun h => h) ?_)
      show ltK .u8 _ (.int .u8 y1) _
      rw [ltK_i]
      intro W' g'
      refine condK_p (fun hb2 => bad (by rw [hn, if_neg (by omega)]) (gW2.trans g')) fun hb2 => ?_
      exact ⟨g', by simp, good (by rw [hn, if_pos (by omega)]) (by decide)⟩
    rw [eqK_i]
    refine condK_p (fun h3 => ?_) fun h3 => ?_
    · have hz3 : z = 3 := by omega
      have hsz : hdSize x = 3 := by omega
      obtain ⟨elo, ehi⟩ := hacc (by omega)
      refine JoinK_i (fun _ W3 => Grow W2 W3 ∧ 3 ≤ (x :: t).length ∧ (readB (x :: t)).isSome = (readB ((x :: t).drop 3)).isSome) ?_ ?_
      · rintro vs W3 ⟨g3, hle, hrr⟩ _
        refine sl (ge hl2 g3) (j := 3) hle fun v3 hv3 => ?_
        exact again hv3 (ByteL.drop hB 3) hrr (by rw [List.length_drop]; omega) (gW2.trans g3)
      refine drawK_i (fun W' => Grow W2 W') (Mod.drew _ _) ?_
      rw [lenK_i, ltK_i]
      refine condK_p (fun hsh => fun W' g' => bad (next_short hx.2 (by rw [hsz]; omega)) (gW2.trans g')) fun hlg => ?_
      obtain ⟨y1, y2, t1, rfl⟩ : ∃ y y2 t', t = y :: y2 :: t' := by
        rcases t with _ | ⟨y, _ | ⟨y2, t'⟩⟩
        · simp at hlg
        · simp at hlg
        · exact ⟨y, y2, t', rfl⟩
      have hy1 := hBt y1 List.mem_cons_self
      have hy2 := hBt y2 (List.mem_cons_of_mem _ List.mem_cons_self)
      have hn := next_3 (t := t1) hsz hy1.1 hy1.2 hy2.1 hy2.2
      obtain ⟨_, r1, e1, _, hr1, hc1, rfl⟩ := hl2.get (i := 1) (by simp)
      cases e1
      have cy1 := hc1 0 _ rfl
      obtain ⟨_, r2, e2, _, hr2, hc2, rfl⟩ := hl2.get (i := 2) (by simp)
      cases e2
      have cy2 := hc2 0 _ rfl
      refine ixK_n (j := 1) (by simp) (qld1K_i (fun w' g => g.cell cy1 fun h => h) ?_)
      rw [faK_i]
      refine qld1K_i (fun w' g => g.cell c6a fun h => h) ?_
      show ltK .u8 (.int .u8 y1) _ _
      rw [ltK_i]
      refine condK_p (fun hb1 => fun W' g' => bad (by rw [hn, if_neg (by omega)]) (gW2.trans g')) fun hb1 => ?_
      rw [faK_i]
      refine qld1K_i (fun w' g => g.cell c6b fun h => h) ?_
      refine ixK_n (j := 1) (by simp) (qld1K_i (fun w' g => g.cell cy1 fun h => h) ?_)
      show ltK .u8 _ (.int .u8 y1) _
      rw [ltK_i]
      refine condK_p (fun hb2 => fun W' g' => bad (by rw [hn, if_neg (by omega)]) (gW2.trans g')) fun hb2 => ?_
      refine ixK_n (j := 2) (by simp) (qld1K_i (fun w' g => g.cell cy2 fun h => h) ?_)
      show ltK .u8 (.int .u8 y2) _ _
      rw [ltK_i]
      refine condK_p (fun hb3 => fun W' g' => bad (by rw [hn, if_neg (by omega)]) (gW2.trans g')) fun hb3 => ?_
      refine ixK_n (j := 2) (by simp) (qld1K_i (fun w' g => g.cell cy2 fun h => h) ?_)
      show ltK .u8 _ (.int .u8 y2) _
      rw [ltK_i]
      intro W' g'
      refine condK_p (fun hb4 => bad (by rw [hn, if_neg (by omega)]) (gW2.trans g')) fun hb4 => ?_
      exact ⟨g', by simp, good (by rw [hn, if_pos (by omega)]) (by decide)⟩
    rw [eqK_i]
    refine condK_p (fun h4 => ?_) fun h4 => ?_
    · have hz4 : z = 4 := by omega
      have hsz : hdSize x = 4 := by omega
      obtain ⟨elo, ehi⟩ := hacc (by omega)
      refine JoinK_i (fun _ W3 => Grow W2 W3 ∧ 4 ≤ (x :: t).length ∧ (readB (x :: t)).isSome = (readB ((x :: t).drop 4)).isSome) ?_ ?_
      · rintro vs W3 ⟨g3, hle, hrr⟩ _
        refine sl (ge hl2 g3) (j := 4) hle fun v3 hv3 => ?_
        exact again hv3 (ByteL.drop hB 4) hrr (by rw [List.length_drop]; omega) (gW2.trans g3)
      refine drawK_i (fun W' => Grow W2 W') (Mod.drew _ _) ?_
      rw [lenK_i, ltK_i]
      refine condK_p (fun hsh => fun W' g' => bad (next_short hx.2 (by rw [hsz]; omega)) (gW2.trans g')) fun hlg => ?_
      obtain ⟨y1, y2, y3, t1, rfl⟩ : ∃ y y2 y3 t', t = y :: y2 :: y3 :: t' := by
        rcases t with _ | ⟨y, _ | ⟨y2, _ | ⟨y3, t'⟩⟩⟩
        · simp at hlg
        · simp at hlg
        · simp at hlg
        · exact ⟨y, y2, y3, t', rfl⟩
      have hy1 := hBt y1 List.mem_cons_self
      have hy2 := hBt y2 (List.mem_cons_of_mem _ List.mem_cons_self)
      have hy3 := hBt y3 (List.mem_cons_of_mem _ (List.mem_cons_of_mem _ List.mem_cons_self))
      have hn := next_4 (t := t1) hsz hy1.1 hy1.2 hy2.1 hy2.2 hy3.1 hy3.2
      obtain ⟨_, r1, e1, _, hr1, hc1, rfl⟩ := hl2.get (i := 1) (by simp)
      cases e1
      have cy1 := hc1 0 _ rfl
      obtain ⟨_, r2, e2, _, hr2, hc2, rfl⟩ := hl2.get (i := 2) (by simp)
      cases e2
      have cy2 := hc2 0 _ rfl
      obtain ⟨_, r3, e3, _, hr3, hc3, rfl⟩ := hl2.get (i := 3) (by simp)
      cases e3
      have cy3 := hc3 0 _ rfl
      refine ixK_n (j := 1) (by simp) (qld1K_i (fun w' g => g.cell cy1 fun h => h) ?_)
      rw [faK_i]
      refine qld1K_i (fun w' g => g.cell c6a fun h => h) ?_
      show ltK .u8 (.int .u8 y1) _ _
      rw [ltK_i]
      refine condK_p (fun hb1 => fun W' g' => bad (by rw [hn, if_neg (by omega)]) (gW2.trans g')) fun hb1 => ?_
      rw [faK_i]
      refine qld1K_i (fun w' g => g.cell c6b fun h => h) ?_
      refine ixK_n (j := 1) (by simp) (qld1K_i (fun w' g => g.cell cy1 fun h => h) ?_)
      show ltK .u8 _ (.int .u8 y1) _
      rw [ltK_i]
      refine condK_p (fun hb2 => fun W' g' => bad (by rw [hn, if_neg (by omega)]) (gW2.trans g')) fun hb2 => ?_
      refine ixK_n (j := 2) (by simp) (qld1K_i (fun w' g => g.cell cy2 fun h => h) ?_)
      show ltK .u8 (.int .u8 y2) _ _
      rw [ltK_i]
      refine condK_p (fun hb3 => fun W' g' => bad (by rw [hn, if_neg (by omega)]) (gW2.trans g')) fun hb3 => ?_
      refine ixK_n (j := 2) (by simp) (qld1K_i (fun w' g => g.cell cy2 fun h => h) ?_)
      show ltK .u8 _ (.int .u8 y2) _
      rw [ltK_i]
      refine condK_p (fun hb4 => fun W' g' => bad (by rw [hn, if_neg (by omega)]) (gW2.trans g')) fun hb4 => ?_
      refine ixK_n (j := 3) (by simp) (qld1K_i (fun w' g => g.cell cy3 fun h => h) ?_)
      show ltK .u8 (.int .u8 y3) _ _
      rw [ltK_i]
      refine condK_p (fun hb5 => fun W' g' => bad (by rw [hn, if_neg (by omega)]) (gW2.trans g')) fun hb5 => ?_
      refine ixK_n (j := 3) (by simp) (qld1K_i (fun w' g => g.cell cy3 fun h => h) ?_)
      show ltK .u8 _ (.int .u8 y3) _
      rw [ltK_i]
      intro W' g'
      refine condK_p (fun hb6 => bad (by rw [hn, if_neg (by omega)]) (gW2.trans g')) fun hb6 => ?_
      exact ⟨g', by simp, good (by rw [hn, if_pos (by omega)]) (by decide)⟩
    · exact bad (next_bad hB (by omega) (by have := hdSize_v x; omega)) gW2
end Go.Proofs.YtmfplfaeibehiaaDoor
