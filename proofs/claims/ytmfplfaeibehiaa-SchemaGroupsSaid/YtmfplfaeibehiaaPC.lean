/- Contracts: joining blocks, and the blocks of cells. No conditions but the sizes. -/
import Derived.Test.YtmfplfaeibehiaaPB
namespace Go.K
open Go
theorem cell_box {w : World} {t : TypeId} {vs : List Value} {j : Nat} {v : Value} (h : vs[j]? = some v) : (w.alloc (.cells vs.toArray t)).cell? ((⟨w.heap.size, 0, none⟩ : Addr).add j) = some v := by
  have hadd : (⟨w.heap.size, 0, none⟩ : Addr).add j = ⟨w.heap.size, j, none⟩ := by unfold Addr.add; split <;> simp_all
  rw [hadd, World.cell?_alloc_new]; simpa using h
theorem OwnR.ownB {α : Type} {B e k : Nat} {R : World → List Value → α → Prop} {w : World} {v : Value} {l : List α} (h : OwnR B e k R w v l) : ∀ g, v.ownBlock = some g → B ≤ g ∧ g < w.heap.size := by
  obtain ⟨a, c, rfl, _, _, hp, _⟩ := OwnR.shape h
  intro g hg
  cases a with
  | none => cases hg
  | some p => obtain ⟨g', rfl, h1, h2, h3⟩ := hp p rfl; rw [hg] at h3; cases h3; exact ⟨h1, h2⟩
theorem SlR.old {α : Type} {S : Nat → Prop} {k : Nat} {R : World → List Value → α → Prop} {w : World} {v : Value} {l : List α} (h : SlR S k R w v l) (hk : 0 < k) : SlR (fun b => S b ∧ b < w.heap.size) k R w v l :=
  h.sub (fun b hb hs => ⟨hs, hb⟩) hk fun _ _ h => h
end Go.K
namespace Go.Proofs.Ytmfplfaeibehiaa
open Go Go.K

/-- adding behind: from here on all is told of the world w the function began in -/
theorem add_next {S : Nat → Prop} {w w1 : World} {v sv : Value} {l : List Blk} {n : Int} {set : List Attr} (h : OBlks w.heap.size w1 v l) (hg : Grow w w1) (hs : RSet S w sv set) (hl : l.length < 4398046511104)
    (hset : set.length * 48 ≤ 140737488355328) :
    callK Try.prog 51 [v, .int .i64 n, sv] (fun v' w' => OBlks w.heap.size w' v' (addB l n set) ∧ Grow w w') w1 := by
  refine callK_mono (add_blk h ((hs.old (by decide)).grow hg (by decide) fun _ _ h => h) (fun b hb e => by have := (OwnR.ownB h b e).1; omega) hg.size hl hset) ?_
  rintro v' w' ⟨h1, h2, _⟩
  exact ⟨h1, hg.next h2 fun b hb hv => by have := (OwnR.ownB h b hv).1; omega⟩

def joinB (l : List Blk) : List Blk := l.foldl (fun acc b => addB acc b.n b.set) []
theorem foldB_len (l : List Blk) : ∀ acc : List Blk, (l.foldl (fun acc b => addB acc b.n b.set) acc).length ≤ acc.length + l.length := by
  induction l with
  | nil => intro acc; simp
  | cons b l ih => intro acc; have := ih (addB acc b.n b.set); have := addB_len acc b.n b.set; simp only [List.foldl_cons, List.length_cons]; omega
theorem joinB_len (l : List Blk) : (joinB l).length ≤ l.length := by have := foldB_len l []; simpa [joinB] using this
theorem joinB_take {l : List Blk} {k : Nat} (h : k < l.length) : joinB (l.take (k + 1)) = addB (joinB (l.take k)) l[k].n l[k].set := by
  rw [List.take_add_one, List.getElem?_eq_getElem h]
  simp only [joinB, List.foldl_append, Option.toList, List.foldl_cons, List.foldl_nil]

theorem join_blk {S D : Nat → Prop} {w : World} {v : Value} {l : List Blk} (h : RBlks S D w v l) (hl : l.length < 4398046511104) (hset : ∀ b ∈ l, b.set.length * 48 ≤ 140737488355328) :
    callK Try.prog 17 [v] (fun v' w' => OBlks w.heap.size w' v' (joinB l) ∧ Grow w w') w := by
  apply S17_ok
  unfold S17
  obtain ⟨a, c, rfl, hm⟩ := h.shape
  simp only [KS]
  refine LoopK_i (fun vs w1 => ∃ (k : Nat) (out : Value), k ≤ l.length ∧ vs = [out, .int .i64 k] ∧ OBlks w.heap.size w1 out (joinB (l.take k)) ∧ Grow w w1) (fun vs _ => l.length - iOf vs 1) ⟨0, _, Nat.zero_le _, rfl, OwnR.nil, Mod.refl _ _⟩ ?_
  rintro vs w1 ⟨k, out, hk, rfl, ho, hg⟩ _
  simp only [KS]
  by_cases hlt : k < l.length
  · rw [if_pos (show (k : Int) < l.length by omega)]
    obtain ⟨p, r, rfl, _, hr, hc, sv, rfl, hs⟩ := h.get hlt
    refine ixK_n hlt (ldnK_i hr (fun j u hu => by rw [Addr.add_add]; exact hg.cell (hc j u hu) fun h => h) (newK_i (stnew (vs := [.int .i64 l[k].n, sv]) rfl (RBlk.one ⟨sv, rfl, hs⟩) ?_)))
    simp only [KS]
    have hg2 : Grow w (w1.alloc (.cells [.int .i64 l[k].n, sv].toArray 34)) := hg.trans (Mod.alloc _ _ _)
    refine ld1K_i (cell_box (j := 0) rfl) ?_
    refine ld1K_i (cell_box (j := 1) rfl) ?_
    refine callK_mono (add_next (ho.grow (Mod.alloc (fun _ => False) _ _) (fun _ _ _ h => h)) hg2 hs (by have := joinB_len (l.take k); simp at this; omega) (hset _ (by simp))) ?_
    rintro v' w' ⟨h1, h2⟩
    refine ⟨⟨k + 1, v', by omega, by rw [wrap64 (by omega) (by simp only [maxLen] at hm; omega)]; rfl, by rw [joinB_take hlt]; exact h1, h2⟩, ?_⟩
    simp only [iOf, nth, List.headD_cons, List.tail_cons]; rw [wrap64 (by omega) (by simp only [maxLen] at hm; omega)]; omega
  · rw [if_neg (show ¬ (k : Int) < l.length by omega)]
    have : k = l.length := by omega
    subst this
    rw [List.take_length] at ho
    exact ⟨ho, hg⟩

/-! ### cells -/
structure Cel where
  r : Int
  set : List Attr
  deriving DecidableEq
def RCel (D : Nat → Prop) (w : World) (r : List Value) (c : Cel) : Prop := ∃ sv, r = [.int .i32 c.r, sv] ∧ RSet D w sv c.set
theorem RCel.one {D : Nat → Prop} {w : World} {r : List Value} {b : Cel} (h : RCel D w r b) : ∀ u ∈ r, u.oneCell' = true := by
  obtain ⟨sv, rfl, hs⟩ := h
  obtain ⟨a, c, rfl, _⟩ := hs.shape
  intro u hu
  simp only [List.mem_cons, List.not_mem_nil, or_false] at hu
  rcases hu with rfl | rfl <;> rfl
theorem RCel.mod {D D' M : Nat → Prop} {w w' : World} {r : List Value} {b : Cel} (h : RCel D w r b) (hm : Mod M w w') (hD : ∀ b, b < w.heap.size → D b → ¬ M b) (hD' : ∀ b, b < w.heap.size → D b → D' b) : RCel D' w' r b := by
  obtain ⟨sv, rfl, hs⟩ := h
  exact ⟨sv, rfl, hs.mono hD' (fun b hb hd => hm.same b hb (hD b hb hd)) (by decide) fun _ _ h => h⟩
theorem elem_cel : ElemOK Try.prog 22 26 2 32 := ⟨Try.t26, .agg #[.int .i32 0, .slice none 0 0], by kernel_rfl, by kernel_rfl, by kernel_rfl, by kernel_rfl, by kernel_rfl, by rfl, by decide⟩
abbrev RCels (S D : Nat → Prop) (w : World) (v : Value) (l : List Cel) : Prop := SlR S 2 (RCel D) w v l
def Cel.inl (c : Cel) : List Attr := if c.r = 10 then [] else c.set
theorem inl_ok {c : Cel} (h : c.set.length * 48 ≤ 140737488355328) : c.inl.length * 48 ≤ 140737488355328 := by
  unfold Cel.inl; split
  · simp
  · exact h
def ofB (l : List Cel) : List Blk := l.foldl (fun acc c => addB acc 1 c.inl) []
theorem foldC_len (l : List Cel) : ∀ acc : List Blk, (l.foldl (fun acc c => addB acc 1 c.inl) acc).length ≤ acc.length + l.length := by
  induction l with
  | nil => intro acc; simp
  | cons b l ih => intro acc; have := ih (addB acc 1 b.inl); have := addB_len acc 1 b.inl; simp only [List.foldl_cons, List.length_cons]; omega
theorem ofB_len (l : List Cel) : (ofB l).length ≤ l.length := by have := foldC_len l []; simpa [ofB] using this
theorem ofB_take {l : List Cel} {k : Nat} (h : k < l.length) : ofB (l.take (k + 1)) = addB (ofB (l.take k)) 1 l[k].inl := by
  rw [List.take_add_one, List.getElem?_eq_getElem h]
  simp only [ofB, List.foldl_append, Option.toList, List.foldl_cons, List.foldl_nil]
theorem of_blk {S D : Nat → Prop} {w : World} {v : Value} {l : List Cel} (h : RCels S D w v l) (hl : l.length < 4398046511104) (hset : ∀ b ∈ l, b.set.length * 48 ≤ 140737488355328) :
    callK Try.prog 15 [v] (fun v' w' => OBlks w.heap.size w' v' (ofB l) ∧ Grow w w') w := by
  apply S15_ok
  unfold S15
  obtain ⟨a, c, rfl, hm⟩ := h.shape
  simp only [KS]
  refine LoopK_i (fun vs w1 => ∃ (k : Nat) (out : Value), k ≤ l.length ∧ vs = [out, .int .i64 k] ∧ OBlks w.heap.size w1 out (ofB (l.take k)) ∧ Grow w w1) (fun vs _ => l.length - iOf vs 1) ⟨0, _, Nat.zero_le _, rfl, OwnR.nil, Mod.refl _ _⟩ ?_
  rintro vs w1 ⟨k, out, hk, rfl, ho, hg⟩ _
  simp only [KS]
  by_cases hlt : k < l.length
  · rw [if_pos (show (k : Int) < l.length by omega)]
    obtain ⟨p, r, rfl, _, hr, hc, sv, rfl, hs⟩ := h.get hlt
    refine ixK_n hlt (ldnK_i hr (fun j u hu => by rw [Addr.add_add]; exact hg.cell (hc j u hu) fun h => h) (newK_i (stnew (vs := [.int .i32 l[k].r, sv]) rfl (RCel.one ⟨sv, rfl, hs⟩) ?_)))
    simp only [KS]
    have hg2 : Grow w (w1.alloc (.cells [.int .i32 l[k].r, sv].toArray 26)) := hg.trans (Mod.alloc _ _ _)
    refine ld1K_i (cell_box (j := 1) rfl) ?_
    refine ld1K_i (cell_box (j := 0) rfl) ?_
    simp only [KS]
    have fin : ∀ sv' set', set' = l[k].inl → RSet D w sv' set' → callK Try.prog 51 [out, .int .i64 1, sv'] (fun t20 w7 => (∃ (k' : Nat) (out : Value), k' ≤ l.length ∧ [t20, Value.int .i64 (IntKind.i64.wrap (k + 1))] = [out, .int .i64 k'] ∧ OBlks w.heap.size w7 out (ofB (l.take k')) ∧ Grow w w7) ∧ l.length - iOf [t20, Value.int .i64 (IntKind.i64.wrap (k + 1))] 1 < l.length - iOf [out, Value.int .i64 k] 1) (w1.alloc (.cells [.int .i32 l[k].r, sv].toArray 26)) := by
      rintro sv' set' rfl hs'
      refine callK_mono (add_next (ho.grow (Mod.alloc (fun _ => False) _ _) (fun _ _ _ h => h)) hg2 hs' (by have := ofB_len (l.take k); simp at this; omega) (inl_ok (hset _ (by simp)))) ?_
      rintro v' w' ⟨h1, h2⟩
      refine ⟨⟨k + 1, v', by omega, by rw [wrap64 (by omega) (by simp only [maxLen] at hm; omega)]; rfl, by rw [ofB_take hlt]; exact h1, h2⟩, ?_⟩
      simp only [iOf, nth, List.headD_cons, List.tail_cons]; rw [wrap64 (by omega) (by simp only [maxLen] at hm; omega)]; omega
    by_cases hr : l[k].r = 10
    · rw [if_pos hr]
      exact fin _ [] (by simp [Cel.inl, hr]) SlR.nil
    · rw [if_neg hr]
      exact fin _ l[k].set (by simp [Cel.inl, hr]) hs
  · rw [if_neg (show ¬ (k : Int) < l.length by omega)]
    have : k = l.length := by omega
    subst this
    rw [List.take_length] at ho
    exact ⟨ho, hg⟩
end Go.Proofs.Ytmfplfaeibehiaa
