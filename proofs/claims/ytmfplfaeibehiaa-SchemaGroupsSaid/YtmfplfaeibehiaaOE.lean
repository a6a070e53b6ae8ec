/- Pushing one element; contracts: the document's reading of runes. Conditions: the sizes. -/
import Derived.Test.YtmfplfaeibehiaaOD
namespace Go.K
open Go
theorem push_g2 {α : Type} {P : Program} {t e k bytes B : Nat} {R : World → List Value → α → Prop} {w : World} {v : Value} {l : List α} {x : α} {zero : List Value} {parts : List (Nat × Value)} {cs : List Value} {K : Cont} (hE : ElemOK P t e k bytes) (h : OwnR B e k R w v l) (hB : B ≤ w.heap.size)
    (hf : Instr.fill (fun i => some (i * k, k)) ((Array.range (1 * k)).map (zero.toArray[· % zero.toArray.size]!)) parts = some cs.toArray) (hcs : cs.length = k) (hx : R w cs x) (hone : ∀ w r y, R w r y → ∀ u ∈ r, u.oneCell' = true)
    (hR : ∀ w1 w2 r y, w.heap.size ≤ w1.heap.size → Mod (fun b => v.ownBlock = some b ∨ w.heap.size ≤ b) w1 w2 → R w1 r y → R w2 r y) (hlen : (l.length + 1) * bytes ≤ 140737488355328) (hlm : l.length + 1 ≤ maxLen)
    {Q1 : World → Prop} {Q2 : World → World → Prop} (hQ1 : ∀ w1, Grow w w1 → Q1 w1)
    (hK : ∀ w1 v' w', OwnR B e k R w' v' (l ++ [x]) → Mod (fun b => v.ownBlock = some b) w1 w' → Mod (fun b => v.ownBlock = some b) w w' → (∀ g, v'.ownBlock = some g → v.ownBlock = some g ∨ w.heap.size ≤ g) → Q2 w1 w' ∧ K v' w') :
    rowK e k 1 zero parts (fun s w1 => Q1 w1 ∧ runK P (Builtin.append_ #[t, t] t [v, s].toArray) (fun v' w' => Q2 w1 w' ∧ K v' w') w1) w := by
  refine ⟨_, hf, ?_⟩
  have hg : Grow w (w.alloc (.cells cs.toArray e)) := Mod.alloc _ _ _
  have hc : ∀ j u, cs[j]? = some u → (w.alloc (.cells cs.toArray e)).cell? ((⟨w.heap.size, 0, none⟩ : Addr).add j) = some u := fun j u hu => cell_box hu
  have hz : (w.alloc (.cells cs.toArray e)).heap.size = w.heap.size + 1 := by simp
  generalize w.alloc (.cells cs.toArray e) = w1 at hg hc hz ⊢
  have h' : OwnR B e k R w1 v l := OwnR.mod h hg (fun _ _ h => h) fun r y _ hy => hR _ _ _ _ (Nat.le_refl _) hg.mod hy
  have hs : SlR (fun _ => True) k R w1 (.slice (some ⟨w.heap.size, 0, none⟩) 1 1) [x] := by
    refine ⟨_, 1, rfl, Nat.le_refl _, by simp [maxLen], fun i y hy => ?_⟩
    have hi : i = 0 := by have := (List.getElem?_eq_some_iff.1 hy).1; simp at this; exact this
    subst hi
    simp at hy; subst hy
    exact ⟨_, cs, rfl, trivial, hcs, fun j u hu => by rw [Nat.zero_mul, Nat.zero_add]; exact hc j u hu, hR _ _ _ _ (Nat.le_refl _) hg.mod hx⟩
  obtain ⟨v', w', h1, h2, h3, h4⟩ := OwnR.append (ty := t) hE h' hs (fun _ _ => hone _ _ _) (by simpa using hlen) (by omega) (by simpa using hlm) (fun w2 hg' r y hy => hR _ _ _ _ (by omega) ((Mod.of_grownBy hg').mono fun b _ e => .inl e) hy)
  refine ⟨hQ1 _ hg, runK_i h1 (hK w1 v' w' h2 (Mod.of_grownBy h3) (hg.mod.next (Mod.of_grownBy h3) fun _ _ h => h) fun g hg' => ?_)⟩
  rcases h4 g hg' with h | h
  · exact .inl h
  · exact .inr (by omega)
theorem push_g {α : Type} {P : Program} {t e k bytes B : Nat} {R : World → List Value → α → Prop} {w : World} {v : Value} {l : List α} {x : α} {zero : List Value} {parts : List (Nat × Value)} {cs : List Value} {K : Cont} (hE : ElemOK P t e k bytes) (h : OwnR B e k R w v l) (hB : B ≤ w.heap.size)
    (hf : Instr.fill (fun i => some (i * k, k)) ((Array.range (1 * k)).map (zero.toArray[· % zero.toArray.size]!)) parts = some cs.toArray) (hcs : cs.length = k) (hx : R w cs x) (hone : ∀ w r y, R w r y → ∀ u ∈ r, u.oneCell' = true)
    (hR : ∀ w1 w2 r y, w.heap.size ≤ w1.heap.size → Mod (fun b => v.ownBlock = some b ∨ w.heap.size ≤ b) w1 w2 → R w1 r y → R w2 r y) (hlen : (l.length + 1) * bytes ≤ 140737488355328) (hlm : l.length + 1 ≤ maxLen)
    (hK : ∀ v' w', OwnR B e k R w' v' (l ++ [x]) → Mod (fun b => v.ownBlock = some b) w w' → (∀ g, v'.ownBlock = some g → v.ownBlock = some g ∨ w.heap.size ≤ g) → K v' w') :
    rowK e k 1 zero parts (fun s w1 => runK P (Builtin.append_ #[t, t] t [v, s].toArray) K w1) w := by
  obtain ⟨c, h1, _, v', w', h2, _, h3⟩ := push_g2 (t := t) (K := K) (Q1 := fun _ => True) (Q2 := fun _ _ => True) hE h hB hf hcs hx hone hR hlen hlm (fun _ _ => trivial) fun w1 v' w' k1 _ k2 k3 => ⟨trivial, hK v' w' k1 k2 k3⟩
  exact ⟨c, h1, v', w', h2, h3⟩
/-- adding behind, told of the world in which the function began -/
theorem push_n {α : Type} {P : Program} {t e k bytes : Nat} {R : World → List Value → α → Prop} {w0 w : World} {v : Value} {l : List α} {x : α} {zero : List Value} {parts : List (Nat × Value)} {cs : List Value} {K : Cont} (hE : ElemOK P t e k bytes) (h : OwnR w0.heap.size e k R w v l) (hg : Grow w0 w)
    (hf : Instr.fill (fun i => some (i * k, k)) ((Array.range (1 * k)).map (zero.toArray[· % zero.toArray.size]!)) parts = some cs.toArray) (hcs : cs.length = k) (hx : R w cs x) (hone : ∀ w r y, R w r y → ∀ u ∈ r, u.oneCell' = true)
    (hR : ∀ w1 w2 r y, w.heap.size ≤ w1.heap.size → Mod (fun b => v.ownBlock = some b ∨ w.heap.size ≤ b) w1 w2 → R w1 r y → R w2 r y) (hlen : (l.length + 1) * bytes ≤ 140737488355328) (hlm : l.length + 1 ≤ maxLen)
    (hK : ∀ v' w', OwnR w0.heap.size e k R w' v' (l ++ [x]) → Grow w0 w' → K v' w') :
    rowK e k 1 zero parts (fun s w1 => runK P (Builtin.append_ #[t, t] t [v, s].toArray) K w1) w :=
  push_g hE h hg.size hf hcs hx hone hR hlen hlm fun v' w' h1 h2 _ => hK v' w' h1 (hg.next h2 fun b hb e => by have := (OwnR.ownB h b e).1; omega)
end Go.K
namespace Go.Proofs.Ytmfplfaeibehiaa
open Go Go.K

def readF : Nat → List Int → Option (List Int)
  | 0, b => if b = [] then some [] else none
  | f + 1, b => if b = [] then some [] else if (nextB b).2 = 0 then none else (readF f (b.drop (nextB b).2)).map ((nextB b).1 :: ·)
def readB (b : List Int) : Option (List Int) := readF b.length b
theorem readF_fuel : ∀ (f g : Nat) (b : List Int), b.length ≤ f → b.length ≤ g → readF f b = readF g b := by
  intro f
  induction f with
  | zero =>
    intro g b hf hg
    have : b = [] := List.eq_nil_of_length_eq_zero (by omega)
    subst this
    cases g <;> simp [readF]
  | succ f ih =>
    intro g b hf hg
    cases g with
    | zero =>
      have : b = [] := List.eq_nil_of_length_eq_zero (by omega)
      subst this
      simp [readF]
    | succ g =>
      simp only [readF]
      split
      · rfl
      · split
        · rfl
        · rw [ih g _ (by simp; omega) (by simp; omega)]
theorem readB_cons {b : List Int} (hb : b ≠ []) : readB b = if (nextB b).2 = 0 then none else (readB (b.drop (nextB b).2)).map ((nextB b).1 :: ·) := by
  unfold readB
  obtain ⟨n, hn⟩ : ∃ n, b.length = n + 1 := ⟨b.length - 1, by have := List.length_pos_iff.2 hb; omega⟩
  rw [hn]
  simp only [readF, if_neg hb]
  split
  · rfl
  · rw [readF_fuel n _ _ (by simp; omega) (Nat.le_refl _)]
theorem read_ok {S : Nat → Prop} {v : Value} {b : List Int} {w : World} (h : RBytes S w v b) (hb : b.length * 4 ≤ 140737488355328) :
    callK Try.prog 110 [v] (fun v' w' => Grow w w' ∧ match readB b with
      | some l => ∃ sl, v' = .tuple #[sl, .int .i64 0] ∧ OwnR w.heap.size 21 1 RRune w' sl l
      | none => v' = .tuple #[.slice none 0 0, .int .i64 3]) w := by
  apply S110_ok
  unfold S110
  obtain ⟨a, c, rfl, hm⟩ := h.shape
  have hm' := hm
  simp only [maxLen] at hm'
  refine LoopK_i (fun vs w1 => ∃ (i : Nat) (out : Value) (acc : List Int), i ≤ b.length ∧ acc.length ≤ i ∧ vs = [out, .int .i64 i] ∧ OwnR w.heap.size 21 1 RRune w1 out acc ∧ Grow w w1 ∧ readB b = (readB (b.drop i)).map (acc ++ ·)) (fun vs _ => b.length - iOf vs 1)
    ⟨0, _, [], Nat.zero_le _, Nat.le_refl _, rfl, OwnR.nil, Mod.refl _ _, by simp⟩ ?_
  rintro vs w1 ⟨i, out, acc, hi, hacc, rfl, ho, hg, hrd⟩ _
  rw [lenK_i]
  simp only [nth_s, nth_z, List.headD_cons, List.tail_cons]
  rw [ltK_i]
  refine condK_p (fun hlt => ?_) fun hge => ?_
  · have hlt' : i < b.length := by omega
    have hne : b.drop i ≠ [] := by intro e; have := congrArg List.length e; simp at this; omega
    refine slice_lo (e := 5) (i := Try.t5) (by kernel_rfl) (by kernel_rfl) (by kernel_rfl) (h.grow hg (by decide) fun _ _ h => h) hi fun v' hv' => ?_
    refine callK_mono (next_ok hv' hne) ?_
    rintro v2 w2 ⟨rfl, g2⟩
    have hnl := nextB_len (b.drop i)
    rw [List.length_drop] at hnl
    rw [readB_cons hne] at hrd
    generalize nextB (b.drop i) = nx at hnl hrd ⊢
    obtain ⟨r, n⟩ := nx
    simp only at hnl hrd
    refine extK_i (vs := [.int .i32 r, .int .i64 n]) (by rfl) (extK_i (vs := [.int .i32 r, .int .i64 n]) (by rfl) ?_)
    rw [eqK_i]
    refine condK_p (fun hz => ?_) fun hz => ?_
    · refine ⟨hg.trans g2, ?_⟩
      rw [if_pos (show n = 0 by omega)] at hrd
      rw [hrd, Option.map_none]; trivial
    · rw [if_neg (show ¬ n = 0 by omega)] at hrd
      have ho2 : OwnR w.heap.size 21 1 RRune w2 out acc := OwnR.mod ho g2 (fun _ _ h => h) fun _ _ _ h => h
      refine push_n elem_rune ho2 (hg.trans g2) (cs := [.int .i32 r]) (x := r) (by kernel_rfl) rfl rfl (fun _ _ _ => RRune.one) (fun _ _ _ _ _ _ h => h) (by omega) (by simp only [maxLen]; omega) fun v' w' h1 h2 => ?_
      rw [addK_i, wrap64 (by omega) (by omega)]
      refine ⟨⟨i + n, v', acc ++ [r], by omega, by simp; omega, by simp, h1, h2, ?_⟩, ?_⟩
      · rw [hrd, List.drop_drop]
        cases readB (b.drop (i + n)) <;> simp
      · rw [iOf1, iOf1]; omega
  · have : i = b.length := by omega
    subst this
    rw [List.drop_length] at hrd
    have e : readB ([] : List Int) = some [] := by simp [readB, readF]
    rw [e] at hrd
    rw [hrd]
    exact ⟨hg, out, rfl, by simpa using ho⟩
end Go.Proofs.Ytmfplfaeibehiaa
