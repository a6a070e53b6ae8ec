/- Contracts: what is known, and what is looked at. No conditions. -/
import Derived.Test.YtmfplfaeibehiaaPI
namespace Go.K
open Go
theorem SlR.made {α : Type} {k : Nat} {R : World → List Value → α → Prop} {w : World} {t : TypeId} {l : List α} (rows : List (List Value)) (hr : ∀ r ∈ rows, r.length = k) (hl : rows.length = l.length) (hlm : l.length ≤ maxLen)
    (hR : ∀ (i : Nat) (r : List Value) (x : α), rows[i]? = some r → l[i]? = some x → R (w.alloc (.cells rows.flatten.toArray t)) r x) : SlR (fun b => b = w.heap.size) k R (w.alloc (.cells rows.flatten.toArray t)) (.slice (some ⟨w.heap.size, 0, none⟩) l.length l.length) l := by
  refine ⟨_, _, rfl, Nat.le_refl _, hlm, fun i x hx => ?_⟩
  have hi : i < rows.length := by rw [hl]; exact (List.getElem?_eq_some_iff.1 hx).1
  refine ⟨_, rows[i], rfl, rfl, hr _ (by simp), fun j u hu => ?_, hR i _ x (by simp [hi]) hx⟩
  have hj : j < k := by rw [← hr rows[i] (by simp)]; exact (List.getElem?_eq_some_iff.1 hu).1
  refine cell_box ?_
  rw [flat_get rows i j rows[i] hr (by simp [hi]) hj]; exact hu
end Go.K
namespace Go.Proofs.Ytmfplfaeibehiaa
open Go Go.K

def knownX : List Attr := [⟨1, ⟨1, 1, 0, ByteArray.mk #[]⟩⟩]
theorem known_ok {w : World} : callK Try.prog 14 [] (fun v w' => v = .bool true ∧ Grow w w') w := by
  apply S14_ok
  unfold S14
  refine ⟨#[.int .u8 1, .int .i64 1, .int .u64 0, .string (ByteArray.mk #[])], by kernel_rfl, ?_⟩
  refine ⟨#[.int .i64 1, .int .u8 1, .int .i64 1, .int .u64 0, .string (ByteArray.mk #[])], by kernel_rfl, ?_⟩
  refine ⟨#[.int .i64 1, .int .u8 1, .int .i64 1, .int .u64 0, .string (ByteArray.mk #[])], by kernel_rfl, ?_⟩
  have hX : RSet (fun b => b = w.heap.size) (w.alloc (.cells #[.int .i64 1, .int .u8 1, .int .i64 1, .int .u64 0, .string (ByteArray.mk #[])] 46)) (.slice (some ⟨w.heap.size, 0, none⟩) 1 1) knownX := by
    refine SlR.made (l := knownX) (t := 46) [[.int .i64 1, .int .u8 1, .int .i64 1, .int .u64 0, .string (ByteArray.mk #[])]] (by simp) rfl (by simp [knownX, maxLen]) fun i r x hr hx => ?_
    match i with
    | 0 => cases hr; cases hx; rfl
    | i + 1 => simp at hr
  have g1 : Grow w (w.alloc (.cells #[.int .i64 1, .int .u8 1, .int .i64 1, .int .u64 0, .string (ByteArray.mk #[])] 46)) := Mod.alloc _ _ _
  generalize w.alloc (.cells #[.int .i64 1, .int .u8 1, .int .i64 1, .int .u64 0, .string (ByteArray.mk #[])] 46) = w1 at hX g1 ⊢
  have hX1 : RSet (fun _ => True) w1 (.slice (some ⟨w.heap.size, 0, none⟩) 1 1) knownX := hX.sub (fun _ _ _ => trivial) (by decide) fun _ _ h => h
  generalize hxv : Value.slice (some ⟨w.heap.size, 0, none⟩) 1 1 = xv at hX1 ⊢
  refine ⟨#[.int .i64 2, xv], by subst hxv; kernel_rfl, ?_⟩
  refine ⟨#[.int .i64 0, .slice none 0 0], by kernel_rfl, ?_⟩
  refine ⟨#[.int .i64 3, xv], by subst hxv; kernel_rfl, ?_⟩
  refine ⟨#[.int .i64 2, xv, .int .i64 0, .slice none 0 0, .int .i64 3, xv], by subst hxv; kernel_rfl, ?_⟩
  have g2 : Grow w1 (w1.alloc (.cells #[.int .i64 2, xv, .int .i64 0, .slice none 0 0, .int .i64 3, xv] 34)) := Mod.alloc _ _ _
  have hL : RBlks (fun b => b = w1.heap.size) (fun _ => True) (w1.alloc (.cells #[.int .i64 2, xv, .int .i64 0, .slice none 0 0, .int .i64 3, xv] 34)) (.slice (some ⟨w1.heap.size, 0, none⟩) 3 3) [⟨2, knownX⟩, ⟨0, []⟩, ⟨3, knownX⟩] := by
    refine SlR.made (l := [(⟨2, knownX⟩ : Blk), ⟨0, []⟩, ⟨3, knownX⟩]) (t := 34) [[.int .i64 2, xv], [.int .i64 0, .slice none 0 0], [.int .i64 3, xv]] (by simp) rfl (by simp [maxLen]) fun i r x hr hx => ?_
    match i with
    | 0 => cases hr; cases hx; exact ⟨_, rfl, hX1.grow g2 (by decide) fun _ _ h => h⟩
    | 1 => cases hr; cases hx; exact ⟨_, rfl, SlR.nil⟩
    | 2 => cases hr; cases hx; exact ⟨_, rfl, hX1.grow g2 (by decide) fun _ _ h => h⟩
    | i + 3 => simp at hr
  generalize w1.alloc (.cells #[.int .i64 2, xv, .int .i64 0, .slice none 0 0, .int .i64 3, xv] 34) = w2 at hL g2 ⊢
  refine callK_mono (join_blk hL (by decide) (by decide)) ?_
  rintro v3 w3 ⟨o3, g3⟩
  have e3 : joinB [⟨2, knownX⟩, ⟨0, []⟩, ⟨3, knownX⟩] = [⟨5, knownX⟩] := by decide
  rw [e3] at o3
  refine ⟨#[.int .i32 97, xv], by subst hxv; kernel_rfl, ?_⟩
  refine ⟨#[.int .i32 98, xv], by subst hxv; kernel_rfl, ?_⟩
  refine ⟨#[.int .i32 10, .slice none 0 0], by kernel_rfl, ?_⟩
  refine ⟨#[.int .i32 99, .slice none 0 0], by kernel_rfl, ?_⟩
  refine ⟨#[.int .i32 97, xv, .int .i32 98, xv, .int .i32 10, .slice none 0 0, .int .i32 99, .slice none 0 0], by subst hxv; kernel_rfl, ?_⟩
  have hX3 := (hX1.grow g2 (by decide) fun _ _ h => h).grow g3 (by decide) fun _ _ h => h
  have g4 : Grow w3 (w3.alloc (.cells #[.int .i32 97, xv, .int .i32 98, xv, .int .i32 10, .slice none 0 0, .int .i32 99, .slice none 0 0] 26)) := Mod.alloc _ _ _
  have hC : RCels (fun b => b = w3.heap.size) (fun _ => True) (w3.alloc (.cells #[.int .i32 97, xv, .int .i32 98, xv, .int .i32 10, .slice none 0 0, .int .i32 99, .slice none 0 0] 26)) (.slice (some ⟨w3.heap.size, 0, none⟩) 4 4) [⟨97, knownX⟩, ⟨98, knownX⟩, ⟨10, []⟩, ⟨99, []⟩] := by
    refine SlR.made (l := [(⟨97, knownX⟩ : Cel), ⟨98, knownX⟩, ⟨10, []⟩, ⟨99, []⟩]) (t := 26) [[.int .i32 97, xv], [.int .i32 98, xv], [.int .i32 10, .slice none 0 0], [.int .i32 99, .slice none 0 0]] (by simp) rfl (by simp [maxLen]) fun i r x hr hx => ?_
    match i with
    | 0 => cases hr; cases hx; exact ⟨_, rfl, hX3.grow g4 (by decide) fun _ _ h => h⟩
    | 1 => cases hr; cases hx; exact ⟨_, rfl, hX3.grow g4 (by decide) fun _ _ h => h⟩
    | 2 => cases hr; cases hx; exact ⟨_, rfl, SlR.nil⟩
    | 3 => cases hr; cases hx; exact ⟨_, rfl, SlR.nil⟩
    | i + 4 => simp at hr
  generalize w3.alloc (.cells #[.int .i32 97, xv, .int .i32 98, xv, .int .i32 10, .slice none 0 0, .int .i32 99, .slice none 0 0] 26) = w4 at hC g4 ⊢
  refine callK_mono (of_blk hC (by decide) (by decide)) ?_
  rintro v5 w5 ⟨o5, g5⟩
  have e5 : ofB [⟨97, knownX⟩, ⟨98, knownX⟩, ⟨10, []⟩, ⟨99, []⟩] = [⟨2, knownX⟩, ⟨2, []⟩] := by decide
  rw [e5] at o5
  have s3 := (OBlks.sl (o3.grow (M := fun _ => False) (g4.trans g5) fun _ _ _ h => h))
  have s5 := OBlks.sl o5
  have g05 : Grow w w5 := (((g1.trans g2).trans g3).trans g4).trans g5
  obtain ⟨a3, c3, rfl, _⟩ := OwnR.shape o3
  obtain ⟨a5, c5, rfl, _⟩ := OwnR.shape o5
  simp only [KS]
  simp only [List.length_cons, List.length_nil]
  rw [if_pos (by decide)]
  obtain ⟨p3, r3, rfl, _, _, hc3, sv3, rfl, _⟩ := s3.get (i := 0) (by decide)
  refine ixK_n (j := 0) (by decide) ?_
  simp only [KS]
  refine ld1K_i (hc3 0 _ rfl) ?_
  simp only [KS]
  rw [if_pos (by rfl), if_pos (by decide)]
  obtain ⟨p5, r5, rfl, _, _, hc5, sv5, rfl, _⟩ := s5.get (i := 1) (by decide)
  refine ixK_n (j := 1) (by decide) ?_
  simp only [KS]
  refine ld1K_i (hc5 0 _ rfl) ?_
  simp only [KS]
  rw [if_pos (by rfl)]
  refine callK_mono (len_blk s5) ?_
  rintro v6 w6 ⟨rfl, g6⟩
  simp only [KS]
  refine ⟨?_, g05.trans g6⟩
  congr 1
end Go.Proofs.Ytmfplfaeibehiaa
