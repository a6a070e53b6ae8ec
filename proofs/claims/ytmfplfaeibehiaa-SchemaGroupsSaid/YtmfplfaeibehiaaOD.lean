/- Contracts: the document's runes of bytes, and whether a value may be. No conditions but the size of a text. -/
import Derived.Test.YtmfplfaeibehiaaOC
import Derived.Laws.IdiomStrings
namespace Go.K
open Go
theorem rem_i {P : Program} {t : TypeId} {xo yo : Operand} {k : IntKind} {a b : Int} {K : Cont} {w : World} (hb : b ≠ 0) (h : K (.int k (a.tmod b)) w) : runK P (binS .rem t xo yo (.int k a) (.int k b)) K w := by
  refine ⟨_, _, ?_, h⟩
  simp [binS, eqGuard_rem, binOp_rem, Op.intDiv, hb]
theorem quo_i {P : Program} {t : TypeId} {xo yo : Operand} {k : IntKind} {a b : Int} {K : Cont} {w : World} (hb : b ≠ 0) (h : K (.int k (k.wrap (a.tdiv b))) w) : runK P (binS .quo t xo yo (.int k a) (.int k b)) K w := by
  refine ⟨_, _, ?_, h⟩
  simp [binS, eqGuard_quo, binOp_quo, Op.intDiv, hb]
theorem conv_i {P : Program} {s d : TypeId} {q k : IntKind} {n : Int} {K : Cont} {w : World} (hs : (P.underlying s).isSome = true) (hd : P.underlying d = some (.int k)) (h : K (.int k (k.wrap n)) w) : runK P (convert s d (.int q n)) K w := by
  refine ⟨_, _, ?_, h⟩
  obtain ⟨e, he⟩ := Option.isSome_iff_exists.mp hs
  simp [convert, run_underlying he, run_underlying hd, Conv.intToInt]
/-- a slice from a place on -/
theorem slice_lo {α : Type} {P : Program} {t e k : Nat} {i : TypeInfo} {R : World → List Value → α → Prop} {S : Nat → Prop} {w : World} {a : Option Addr} {n c : Nat} {l : List α} {j : Nat} {K : Cont} (ht : P.underlying t = some (.slice e)) (hi : P.info? e = some i) (hk : i.size = k)
    (h : SlR S k R w (.slice a n c) l) (hj : j ≤ l.length) (hK : ∀ v', SlR S k R w v' (l.drop j) → K v' w) : runK P (Instr.sliceAt t (.slice a n c) (some (.int .i64 j)) none none) K w := by
  obtain ⟨a', c', e1, h1, h2, h3⟩ := h
  cases e1
  have hel : P.elem t = e := by simp [Program.elem, ht]
  refine ⟨sliced a j l.length c k, w, ?_, hK _ ?_⟩
  · rw [run_sliceAt_slice _ _ _ _ _ _ (by rw [hel]; exact ht), run_slice_l _ _ _ _ _ (by rw [hel]; exact ht) _ _ (by omega) (by omega), hel]
    simp [sizeOf, typeInfo, hi, hk]
  · unfold sliced
    refine ⟨_, _, by rw [List.length_drop], by rw [List.length_drop]; omega, by omega, fun q x hx => ?_⟩
    rw [List.getElem?_drop] at hx
    obtain ⟨p, r, rfl, hS, hr, hc, hR⟩ := h3 _ x hx
    have hlt := (List.getElem?_eq_some_iff.1 hx).1
    rw [if_neg (by omega)]
    refine ⟨p.add (j * k), r, rfl, by rw [add_block]; exact hS, hr, fun m u hu => ?_, hR⟩
    rw [Addr.add_add, ← Nat.add_assoc, ← Nat.add_mul]
    exact hc m u hu
/-- a slice up to a place -/
theorem slice_hi {α : Type} {P : Program} {t e k : Nat} {i : TypeInfo} {R : World → List Value → α → Prop} {S : Nat → Prop} {w : World} {a : Option Addr} {n c : Nat} {l : List α} {j : Nat} {K : Cont} (ht : P.underlying t = some (.slice e)) (hi : P.info? e = some i) (hk : i.size = k)
    (h : SlR S k R w (.slice a n c) l) (hj : j ≤ l.length) (hK : ∀ v', SlR S k R w v' (l.take j) → K v' w) : runK P (Instr.sliceAt t (.slice a n c) none (some (.int .i64 j)) none) K w := by
  obtain ⟨a', c', e1, h1, h2, h3⟩ := h
  cases e1
  have hel : P.elem t = e := by simp [Program.elem, ht]
  refine ⟨sliced a 0 j c k, w, ?_, hK _ ?_⟩
  · rw [run_sliceAt_slice _ _ _ _ _ _ (by rw [hel]; exact ht), run_slice_h _ _ _ _ _ (by rw [hel]; exact ht) _ _ (by omega) (by omega), hel]
    simp [sizeOf, typeInfo, hi, hk]
  · unfold sliced
    have hl : (l.take j).length = j := by simp; omega
    refine ⟨_, _, by rw [hl, Nat.sub_zero], by rw [hl]; omega, by omega, fun q x hx => ?_⟩
    rw [List.getElem?_take] at hx
    split at hx
    · obtain ⟨p, r, rfl, hS, hr, hc, hR⟩ := h3 _ x hx
      rw [if_neg (by omega)]
      refine ⟨p.add (0 * k), r, rfl, by rw [add_block]; exact hS, hr, fun m u hu => ?_, hR⟩
      rw [Addr.add_add, Nat.zero_mul, Nat.zero_add]
      exact hc m u hu
    · cases hx
end Go.K
namespace Go.Proofs.Ytmfplfaeibehiaa
open Go Go.K
abbrev RByte : World → List Value → Int → Prop := fun _ r x => r = [.int .u8 x]
abbrev RBytes (S : Nat → Prop) (w : World) (v : Value) (l : List Int) : Prop := SlR S 1 RByte w v l
def bytesL (s : ByteArray) : List Int := s.data.toList.map fun b => (b.toNat : Int)
theorem conv_i32 {n : Int} {K : Cont} {w : World} (h : K (.int .i32 (IntKind.i32.wrap n)) w) : runK Try.prog (convert 5 21 (.int .u8 n)) K w := conv_i (by kernel_rfl) (by kernel_rfl) h
theorem conv_u8 {n : Int} {K : Cont} {w : World} (h : K (.int .u8 (IntKind.u8.wrap n)) w) : runK Try.prog (convert 21 5 (.int .i32 n)) K w := conv_i (by kernel_rfl) (by kernel_rfl) h
theorem six_ok {r : Int} {w : World} : callK Try.prog 119 [.int .i32 r] (fun v w' => (∃ n, v = .int .u8 n) ∧ w' = w) w := by
  apply S119_ok
  unfold S119
  refine rem_i (by decide) ?_
  rw [addK_i]
  exact conv_u8 ⟨⟨_, rfl⟩, rfl⟩
/-- how many bytes a rune has -/
def oneLen (r : Int) : Nat := if r < 128 then 1 else if r < 2048 then 2 else if r < 65536 then 3 else 4
theorem rowK_i {e k len : Nat} {zero : List Value} {parts : List (Nat × Value)} {cs : List Value} {K : Cont} {w : World} (hf : Instr.fill (fun i => some (i * k, k)) ((Array.range (len * k)).map (zero.toArray[· % zero.toArray.size]!)) parts = some cs.toArray) (h : K (.slice (some ⟨w.heap.size, 0, none⟩) len len) (w.alloc (.cells cs.toArray e))) : rowK e k len zero parts K w := ⟨_, hf, h⟩
theorem row1_i {q : IntKind} {e : Nat} {z a : Int} {K : Cont} {w : World} (h : ∀ w', Grow w w' → w'.heap.size = w.heap.size + 1 → (∀ j v, [Value.int q a][j]? = some v → w'.cell? ((⟨w.heap.size, 0, none⟩ : Addr).add j) = some v) → K (.slice (some ⟨w.heap.size, 0, none⟩) 1 1) w') : rowK e 1 1 [.int q z] [(0, .int q a)] K w :=
  rowK_i (cs := [.int q a]) (by kernel_rfl) (h _ (Mod.alloc _ _ _) (by simp) fun j v hv => cell_box hv)
theorem row2_i {q : IntKind} {e : Nat} {z a b : Int} {K : Cont} {w : World} (h : ∀ w', Grow w w' → w'.heap.size = w.heap.size + 1 → (∀ j v, [Value.int q a, .int q b][j]? = some v → w'.cell? ((⟨w.heap.size, 0, none⟩ : Addr).add j) = some v) → K (.slice (some ⟨w.heap.size, 0, none⟩) 2 2) w') : rowK e 1 2 [.int q z] [(0, .int q a), (1, .int q b)] K w :=
  rowK_i (cs := [.int q a, .int q b]) (by kernel_rfl) (h _ (Mod.alloc _ _ _) (by simp) fun j v hv => cell_box hv)
theorem row3_i {q : IntKind} {e : Nat} {z a b c : Int} {K : Cont} {w : World} (h : ∀ w', Grow w w' → w'.heap.size = w.heap.size + 1 → (∀ j v, [Value.int q a, .int q b, .int q c][j]? = some v → w'.cell? ((⟨w.heap.size, 0, none⟩ : Addr).add j) = some v) → K (.slice (some ⟨w.heap.size, 0, none⟩) 3 3) w') : rowK e 1 3 [.int q z] [(0, .int q a), (1, .int q b), (2, .int q c)] K w :=
  rowK_i (cs := [.int q a, .int q b, .int q c]) (by kernel_rfl) (h _ (Mod.alloc _ _ _) (by simp) fun j v hv => cell_box hv)
theorem row4_i {q : IntKind} {e : Nat} {z a b c d : Int} {K : Cont} {w : World} (h : ∀ w', Grow w w' → w'.heap.size = w.heap.size + 1 → (∀ j v, [Value.int q a, .int q b, .int q c, .int q d][j]? = some v → w'.cell? ((⟨w.heap.size, 0, none⟩ : Addr).add j) = some v) → K (.slice (some ⟨w.heap.size, 0, none⟩) 4 4) w') : rowK e 1 4 [.int q z] [(0, .int q a), (1, .int q b), (2, .int q c), (3, .int q d)] K w :=
  rowK_i (cs := [.int q a, .int q b, .int q c, .int q d]) (by kernel_rfl) (h _ (Mod.alloc _ _ _) (by simp) fun j v hv => cell_box hv)
theorem one_ok {r : Int} {w : World} : callK Try.prog 118 [.int .i32 r] (fun v w' => (∃ a c, v = .slice a (oneLen r) c) ∧ Grow w w') w := by
  apply S118_ok
  unfold S118
  rw [ltK_i]
  refine condK_p (fun h1 => ?_) fun h1 => ?_
  · exact conv_u8 (row1_i fun w' g _ _ => ⟨⟨_, _, by rw [oneLen, if_pos h1]⟩, g⟩)
  rw [ltK_i]
  refine condK_p (fun h2 => ?_) fun h2 => ?_
  · refine quo_i (by decide) ?_
    rw [addK_i]
    refine conv_u8 (callK_mono six_ok ?_)
    rintro v1 w1 ⟨⟨n1, rfl⟩, rfl⟩
    exact row2_i fun w' g _ _ => ⟨⟨_, _, by rw [oneLen, if_neg h1, if_pos h2]⟩, g⟩
  rw [ltK_i]
  refine condK_p (fun h3 => ?_) fun h3 => ?_
  · refine quo_i (by decide) ?_
    rw [addK_i]
    refine conv_u8 (quo_i (by decide) (callK_mono six_ok ?_))
    rintro v1 w1 ⟨⟨n1, rfl⟩, rfl⟩
    refine callK_mono six_ok ?_
    rintro v2 w2 ⟨⟨n2, rfl⟩, rfl⟩
    exact row3_i fun w' g _ _ => ⟨⟨_, _, by rw [oneLen, if_neg h1, if_neg h2, if_pos h3]⟩, g⟩
  · refine quo_i (by decide) ?_
    rw [addK_i]
    refine conv_u8 (quo_i (by decide) (callK_mono six_ok ?_))
    rintro v1 w1 ⟨⟨n1, rfl⟩, rfl⟩
    refine quo_i (by decide) (callK_mono six_ok ?_)
    rintro v2 w2 ⟨⟨n2, rfl⟩, rfl⟩
    refine callK_mono six_ok ?_
    rintro v3 w3 ⟨⟨n3, rfl⟩, rfl⟩
    exact row4_i fun w' g _ _ => ⟨⟨_, _, by rw [oneLen, if_neg h1, if_neg h2, if_neg h3]⟩, g⟩
/-- the rune that bytes begin with, as the document reckons it -/
def nextHead (b0 : Int) : Option (Nat × Int) :=
  if 240 ≤ b0 then some (4, IntKind.i32.wrap (IntKind.i32.wrap b0 - 240)) else if 224 ≤ b0 then some (3, IntKind.i32.wrap (IntKind.i32.wrap b0 - 224)) else if 192 ≤ b0 then some (2, IntKind.i32.wrap (IntKind.i32.wrap b0 - 192))
  else if 128 ≤ b0 then none else some (1, IntKind.i32.wrap b0)
def contB (b : List Int) : Nat → Nat → Int → Option Int
  | 0, _, r => some r
  | k + 1, i, r => match b[i]? with
    | some c => if c < 128 ∨ 191 < c then none else contB b k (i + 1) (IntKind.i32.wrap (IntKind.i32.wrap (IntKind.i32.wrap (r * 64) + IntKind.i32.wrap c) - 128))
    | none => none
def nextB (b : List Int) : Int × Nat := match nextHead (b.headD 0) with
  | none => (0, 0)
  | some (n, r) => if b.length < n then (0, 0) else match contB b (n - 1) 1 r with
    | none => (0, 0)
    | some r => if MayR r ∧ oneLen r = n then (r, n) else (0, 0)
theorem nextHead_n {b0 r : Int} {n : Nat} (h : nextHead b0 = some (n, r)) : 1 ≤ n ∧ n ≤ 4 := by
  unfold nextHead at h
  split at h
  · cases h; omega
  split at h
  · cases h; omega
  split at h
  · cases h; omega
  split at h
  · cases h
  · cases h; omega
theorem nextB_len (b : List Int) : (nextB b).2 ≤ b.length ∧ (nextB b).2 ≤ 4 := by
  unfold nextB
  split
  · exact ⟨Nat.zero_le _, Nat.zero_le _⟩
  · rename_i n r h
    have := nextHead_n h
    split
    · exact ⟨Nat.zero_le _, Nat.zero_le _⟩
    · split
      · exact ⟨Nat.zero_le _, Nat.zero_le _⟩
      · split <;> simp only <;> omega
theorem next_ok {S : Nat → Prop} {v : Value} {b : List Int} {w : World} (h : RBytes S w v b) (hb : b ≠ []) :
    callK Try.prog 116 [v] (fun v' w' => v' = .tuple #[.int .i32 (nextB b).1, .int .i64 (nextB b).2] ∧ Grow w w') w := by
  apply S116_ok
  unfold S116
  obtain ⟨a, c, rfl, hm⟩ := h.shape
  simp only [maxLen] at hm
  have hpos : 0 < b.length := List.length_pos_iff.2 hb
  obtain ⟨p, r0, rfl, _, hr0, hc0, rfl⟩ := h.get hpos
  have hb0 : b[0] = b.headD 0 := by cases b with | nil => simp at hpos | cons x b => rfl
  rw [hb0] at hc0
  have hc0' := hc0 0 _ rfl
  generalize e0 : b.headD 0 = b0 at *
  refine ixK_n (j := 0) hpos (ld1K_i hc0' (conv_i32 ?_))
  have fin : ∀ {x : Int × Nat} {w' : World}, x = nextB b → Grow w w' → Value.tuple #[.int .i32 x.1, .int .i64 x.2] = .tuple #[.int .i32 (nextB b).1, .int .i64 (nextB b).2] ∧ Grow w w' := by rintro x w' rfl g; exact ⟨rfl, g⟩
  refine JoinK_i (fun vs w1 => ∃ (n : Nat) (r : Int), nextHead b0 = some (n, r) ∧ vs = [.int .i64 n, .int .i32 r] ∧ w1 = w) ?_ ?_
  · rintro vs _ ⟨n, r, hh, rfl, rfl⟩ _
    rename World => w
    have hn := nextHead_n hh
    simp only [nth_s, nth_z, List.headD_cons, List.tail_cons]
    rw [lenK_i, ltK_i]
    refine condK_p (fun hl => ?_) fun hl => ?_
    · exact fin (x := (0, 0)) (by unfold nextB; rw [e0, hh]; simp only; rw [if_pos (by omega)]) (Mod.refl _ _)
    have hl' : n ≤ b.length := by omega
    refine LoopK_i (fun vs w1 => ∃ (i : Nat) (r' : Int), 1 ≤ i ∧ i ≤ n ∧ vs = [.int .i32 r', .int .i64 i] ∧ w1 = w ∧ contB b (n - 1) 1 r = contB b (n - i) i r') (fun vs _ => n - iOf vs 1) ⟨1, r, Nat.le_refl _, hn.1, rfl, rfl, rfl⟩ ?_
    rintro vs _ ⟨i, r', hi1, hi2, rfl, rfl, hcont⟩ _
    rename World => w
    simp only [nth_s, nth_z, List.headD_cons, List.tail_cons]
    rw [ltK_i]
    refine condK_p (fun hlt => ?_) fun hge => ?_
    · have hlt' : i < n := by omega
      obtain ⟨_, r1, e1, _, hr1, hc1, rfl⟩ := h.get (show i < b.length by omega)
      cases e1
      have hc1' := hc1 0 _ rfl
      have hbi : b[i]? = some b[i] := by simp
      obtain ⟨k, hk⟩ : ∃ k, n - i = k + 1 := ⟨n - i - 1, by omega⟩
      refine JoinK_i (fun vs w1 => w1 = w ∧ ¬ (b[i] < 128 ∨ 191 < b[i])) ?_ ?_
      · rintro vs _ ⟨rfl, hok⟩ _
        rename World => w
        rw [mulK_i]
        refine ixK_n (show i < b.length by omega) (ld1K_i hc1' (conv_i32 ?_))
        rw [addK_i, subK_i, addK_i, loop_step (by omega)]
        refine ⟨⟨i + 1, _, by omega, by omega, rfl, rfl, ?_⟩, by rw [iOf1, iOf1]; omega⟩
        rw [hcont, hk]
        simp only [contB, hbi, if_neg hok]
        congr 1; omega
      · refine ixK_n (show i < b.length by omega) (ld1K_i hc1' ?_)
        have bad : (b[i] < 128 ∨ 191 < b[i]) → (0, 0) = nextB b := by
          intro hx
          unfold nextB
          rw [e0, hh]
          simp only
          rw [if_neg (by omega), hcont, hk]
          simp only [contB, hbi, if_pos hx]
        rw [ltK_i]
        refine condK_p (fun hx => ?_) fun hx => ?_
        · exact fin (bad (.inl hx)) (Mod.refl _ _)
        · refine ixK_n (show i < b.length by omega) (ld1K_i hc1' ?_)
          rw [gtK_i]
          refine condK_p (fun hy => ?_) fun hy => ?_
          · exact fin (bad (.inr hy)) (Mod.refl _ _)
          · exact ⟨rfl, by omega⟩
    · have : i = n := by omega
      subst this
      rw [Nat.sub_self] at hcont
      simp only [contB] at hcont
      have hnx : nextB b = if MayR r' ∧ oneLen r' = i then (r', i) else (0, 0) := by
        unfold nextB
        rw [e0, hh]
        simp only
        rw [if_neg (by omega), hcont]
      refine callK_mono mayr_ok ?_
      rintro v2 w2 ⟨rfl, rfl⟩
      rw [notK_i]
      refine condK_neg (fun hmr => ?_) fun hmr => ?_
      · refine callK_mono one_ok ?_
        rintro v3 w3 ⟨⟨a3, c3, rfl⟩, g3⟩
        rw [lenK_i, neK_i]
        refine condK_neg (fun hon => ?_) fun hon => ?_
        · exact fin (x := (r', i)) (by rw [hnx, if_pos ⟨hmr, by omega⟩]) g3
        · exact fin (x := (0, 0)) (by rw [hnx, if_neg (by rintro ⟨_, e⟩; exact hon (by omega))]) g3
      · exact fin (x := (0, 0)) (by rw [hnx, if_neg (by rintro ⟨e, _⟩; exact hmr e)]) (Mod.refl _ _)
  · refine ixK_n (j := 0) hpos (ld1K_i hc0' ?_)
    rw [geK_i]
    refine condK_p (fun h1 => ?_) fun h1 => ?_
    · refine ixK_n (j := 0) hpos (ld1K_i hc0' (conv_i32 ?_))
      rw [subK_i]
      exact ⟨4, _, by unfold nextHead; rw [if_pos h1], rfl, rfl⟩
    refine ixK_n (j := 0) hpos (ld1K_i hc0' ?_)
    rw [geK_i]
    refine condK_p (fun h2 => ?_) fun h2 => ?_
    · refine ixK_n (j := 0) hpos (ld1K_i hc0' (conv_i32 ?_))
      rw [subK_i]
      exact ⟨3, _, by unfold nextHead; rw [if_neg h1, if_pos h2], rfl, rfl⟩
    refine ixK_n (j := 0) hpos (ld1K_i hc0' ?_)
    rw [geK_i]
    refine condK_p (fun h3 => ?_) fun h3 => ?_
    · refine ixK_n (j := 0) hpos (ld1K_i hc0' (conv_i32 ?_))
      rw [subK_i]
      exact ⟨2, _, by unfold nextHead; rw [if_neg h1, if_neg h2, if_pos h3], rfl, rfl⟩
    refine ixK_n (j := 0) hpos (ld1K_i hc0' ?_)
    rw [geK_i]
    refine condK_p (fun h4 => ?_) fun h4 => ?_
    · exact fin (x := (0, 0)) (by unfold nextB nextHead; rw [e0, if_neg h1, if_neg h2, if_neg h3, if_pos h4]) (Mod.refl _ _)
    · exact ⟨1, _, by unfold nextHead; rw [if_neg h1, if_neg h2, if_neg h3, if_neg h4], rfl, rfl⟩
end Go.Proofs.Ytmfplfaeibehiaa
