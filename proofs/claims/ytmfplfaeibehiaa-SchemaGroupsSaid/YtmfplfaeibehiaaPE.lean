/- Contracts: the iterator over blocks, and how long blocks are. No conditions. -/
import Derived.Test.YtmfplfaeibehiaaPD
namespace Go.Proofs.Ytmfplfaeibehiaa
open Go Go.K

/-- where the k-th block begins -/
def atB (l : List Blk) (k : Nat) : Int := (l.take k).foldl (fun s b => IntKind.i64.wrap (s + b.n)) 0
theorem atB_succ {l : List Blk} {k : Nat} (h : k < l.length) : atB l (k + 1) = IntKind.i64.wrap (atB l k + l[k].n) := by
  unfold atB
  rw [List.take_add_one, List.getElem?_eq_getElem h]
  simp only [List.foldl_append, Option.toList, List.foldl_cons, List.foldl_nil]
def encB (l : List Blk) (svs : Nat → Value) (k : Nat) : List Value := [.int .i64 (atB l k), .agg #[.int .i64 (match l[k]? with | some b => b.n | none => 0), svs k]]
theorem encB_at {l : List Blk} {svs : Nat → Value} {k : Nat} (h : k < l.length) : encB l svs k = [.int .i64 (atB l k), .agg #[.int .i64 l[k].n, svs k]] := by
  simp [encB, List.getElem?_eq_getElem h]
theorem each_blk {v : Value} {w : World} {a : Option Addr} {n c : Nat} (hv : v = .slice a n c) :
    callK Try.prog 52 [v] (fun f w' => f = .func (.func 78) #[] #[.pointer (some ⟨w.heap.size, 0, none⟩)] ∧ w' = w.alloc (.cells #[v] 27)) w := by
  subst hv
  apply S52_ok
  exact ⟨rfl, rfl, rfl⟩
/-- the cells' values of what a slice of blocks holds -/
theorem sets_of {S D : Nat → Prop} {w : World} {v : Value} {l : List Blk} (h : RBlks S D w v l) : ∃ svs : Nat → Value, ∀ k (hk : k < l.length), ∃ a c p, v = .slice (some a) l.length c ∧ p = a ∧ S a.block ∧ w.cell? (a.add (k * 2)) = some (.int .i64 l[k].n) ∧ w.cell? (a.add (k * 2 + 1)) = some (svs k) ∧ RSet D w (svs k) l[k].set := by
  have : ∀ k, ∃ sv, ∀ (hk : k < l.length), ∃ a c p, v = .slice (some a) l.length c ∧ p = a ∧ S a.block ∧ w.cell? (a.add (k * 2)) = some (.int .i64 l[k].n) ∧ w.cell? (a.add (k * 2 + 1)) = some sv ∧ RSet D w sv l[k].set := by
    intro k
    by_cases hk : k < l.length
    · obtain ⟨a, c, hv, _⟩ := h.shape
      subst hv
      obtain ⟨p, r, rfl, hS, hr, hc, sv, rfl, hs⟩ := h.get hk
      exact ⟨sv, fun _ => ⟨_, _, _, rfl, rfl, hS, hc 0 _ rfl, hc 1 _ rfl, hs⟩⟩
    · exact ⟨undef, fun h => absurd h hk⟩
  exact ⟨fun k => Classical.choose (this k), fun k hk => Classical.choose_spec (this k) hk⟩
theorem each_seq {S D : Nat → Prop} {w : World} {v : Value} {l : List Blk} (h : RBlks S D w v l) {bx : Addr} (hbx : w.cell? bx = some v) (hlt : ∀ b, S b → b < w.heap.size) :
    ∃ svs : Nat → Value, (∀ k (hk : k < l.length), RSet D w (svs k) l[k].set) ∧ SeqK True Try.prog 78 [.pointer (some bx)] (encB l svs) l.length (fun b => S b) w := by
  obtain ⟨svs, hsv⟩ := sets_of h
  refine ⟨svs, fun k hk => by obtain ⟨_, _, _, _, _, _, _, _, h⟩ := hsv k hk; exact h, ?_⟩
  intro yl J Jx w1 hg h0 stJ stJx hRd hround
  apply S78_ok
  unfold S78
  obtain ⟨a, c, rfl, hm⟩ := h.shape
  simp only [maxLen] at hm
  refine ld1K_i (Mod.cell hg hbx fun h => h) ?_
  simp only [KS]
  refine LoopK_i (fun vs W => ∃ (k : Nat) (It : Nat → Prop), k ≤ l.length ∧ vs = [.int .i64 (atB l k), .int .i64 k] ∧ J k It W ∧ ∀ b, It b → b < W.heap.size) (fun vs _ => l.length - iOf vs 1) ⟨0, _, Nat.zero_le _, rfl, h0, fun _ h => h.elim⟩ ?_
  rintro vs W ⟨k, It, hk, rfl, hJ, hIt⟩ _
  simp only [KS]
  by_cases hlk : k < l.length
  · rw [if_pos (show (k : Int) < l.length by omega)]
    obtain ⟨p, c', p', hv, rfl, hS, hc0, hc1, hs⟩ := hsv k hlk
    cases hv
    have old : ∀ {q : Addr} {u : Value}, q.block = p'.block → w.cell? q = some u → W.cell? q = some u := fun {q u} hq hc => by
      rw [← hc]; exact World.cell?_of_block (by rw [hq]; exact hRd k It W hJ _ (hlt _ hS) hS)
    have blk : ∀ x, (p'.add x).block = p'.block := fun x => by unfold Addr.add; split <;> rfl
    refine ixK_n hlk (ldnK_i (vs := [.int .i64 l[k].n, svs k]) rfl (fun j u hu => ?_) (newK_i (stnew (vs := [.int .i64 l[k].n, svs k]) rfl (RBlk.one (b := l[k]) ⟨svs k, rfl, hs⟩) ?_)))
    · rw [Addr.add_add]
      refine old (blk _) ?_
      match j with
      | 0 => cases hu; exact hc0
      | 1 => cases hu; exact hc1
      | j + 2 => simp at hu
    refine ldnK_i (vs := [.int .i64 l[k].n, svs k]) rfl (fun j u hu => cell_box hu) ?_
    generalize hW2 : W.alloc (.cells [.int .i64 l[k].n, svs k].toArray 34) = W2
    have hsz : W2.heap.size = W.heap.size + 1 := by rw [← hW2]; simp
    have hbox : W2.cell? ((⟨W.heap.size, 0, none⟩ : Addr).add 0) = some (.int .i64 l[k].n) := by rw [← hW2]; exact cell_box rfl
    have hJ2 : J k (fun b => It b ∨ b = W.heap.size) W2 := by
      refine stJ k It _ W W2 hJ (by rw [← hW2]; exact Mod.alloc _ _ _) fun b hb => ?_
      rcases hb with hb | rfl
      · exact ⟨.inl hb, by have := hIt b hb; omega⟩
      · exact ⟨.inr (Nat.le_refl _), by omega⟩
    refine .inr ⟨yl, rfl, ?_⟩
    have hr := hround k _ W2 hlk hJ2
    rw [encB_at hlk] at hr
    refine roundK_mono hr ?_
    rintro vv W3 ⟨hz3, hsame, ⟨rfl, hJ3⟩ | ⟨rfl, hJx⟩⟩
    · simp only [KS]
      have hc3 : W3.cell? ((⟨W.heap.size, 0, none⟩ : Addr).add 0) = some (.int .i64 l[k].n) := by
        rw [← hbox]; exact World.cell?_of_block (by rw [show ((⟨W.heap.size, 0, none⟩ : Addr).add 0).block = W.heap.size by unfold Addr.add; split <;> rfl]; exact hsame _ (.inr rfl))
      refine ld1K_i hc3 ?_
      simp only [KS]
      refine ⟨⟨k + 1, _, by omega, by rw [atB_succ hlk, wrap64 (x := (k : Int) + 1) (by omega) (by omega)]; rfl, hJ3, fun b hb => ?_⟩, ?_⟩
      · rcases hb with hb | rfl
        · have := hIt b hb; omega
        · omega
      · simp only [iOf, nth, List.headD_cons, List.tail_cons]; rw [wrap64 (x := (k : Int) + 1) (by omega) (by omega)]; omega
    · simp only [KS]
      exact ⟨_, .inr hJx⟩
  · rw [if_neg (show ¬ (k : Int) < l.length by omega)]
    have : k = l.length := by omega
    subst this
    exact ⟨It, .inl hJ⟩
end Go.Proofs.Ytmfplfaeibehiaa
