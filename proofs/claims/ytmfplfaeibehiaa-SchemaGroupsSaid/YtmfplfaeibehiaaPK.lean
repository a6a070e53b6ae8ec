/- The law BlocksJoin: it answers true, and leaves all memory as it was. No conditions. -/
import Derived.Test.YtmfplfaeibehiaaLA
namespace Go.Proofs.Ytmfplfaeibehiaa
open Go Go.K

theorem RCel.low {D : Nat → Prop} {w : World} {r : List Value} {c : Cel} (h : RCel D w r c) : RCel (fun b => b < w.heap.size) w r c := by
  obtain ⟨sv, rfl, hs⟩ := h
  exact ⟨sv, rfl, hs.sub (fun b hb _ => hb) (by decide) fun _ _ h => h⟩
theorem RCels.grow {S D : Nat → Prop} {w w' : World} {v : Value} {l : List Cel} (h : RCels S D w v l) (hg : Grow w w') : RCels S D w' v l :=
  SlR.grow h hg (by decide) fun _ _ hx => hx.mod hg (fun _ _ _ h => h) fun _ _ h => h
theorem RBlks.grow {S D : Nat → Prop} {w w' : World} {v : Value} {l : List Blk} (h : RBlks S D w v l) (hg : Grow w w') : RBlks S D w' v l :=
  SlR.grow h hg (by decide) fun _ _ hx => hx.mod hg (fun _ _ _ h => h) fun _ _ h => h
/-- cells appended to cells of one's own -/
theorem app_cel {S D : Nat → Prop} {B : Nat} {w : World} {v x : Value} {l m : List Cel} {K : Cont} (h : OwnR B 26 2 (RCel fun b => b < B) w v l) (hx : RCels S D w x m) (hD : ∀ b, D b → b < B) (hB : B ≤ w.heap.size)
    (hl : l.length + m.length < 4398046511104) (hK : ∀ v' w', OwnR B 26 2 (RCel fun b => b < B) w' v' (l ++ m) → Mod (fun b => v.ownBlock = some b) w w' → K v' w') :
    runK Try.prog (Builtin.append_ #[22, 22] 22 [v, x].toArray) K w := by
  have hx' : SlR S 2 (RCel fun b => b < B) w x m := SlR.sub hx (fun _ _ h => h) (by decide) fun r c hc => hc.mod (Mod.refl (fun _ => False) _) (fun _ _ _ h => h) fun b _ hb => hD b hb
  obtain ⟨v', w', h1, h2, h3, h4⟩ := OwnR.append (ty := 22) elem_cel h hx' (fun _ _ => RCel.one) (by omega) hB (by simp only [maxLen]; omega)
    (fun w' hg r y hy => hy.mod (Mod.of_grownBy hg) (fun b _ hd e => by have := (OwnR.ownB h b e).1; omega) fun _ _ h => h)
  exact runK_i h1 (hK v' w' h2 (Mod.of_grownBy h3))
/-- blocks of one's own, others' appended -/
theorem app_blk {B B' : Nat} {w : World} {v x : Value} {l m : List Blk} {K : Cont} (h : OBlks B w v l) (hx : OBlks B' w x m) (hBB : B ≤ B') (hv : ∀ g, v.ownBlock = some g → g < B') (hB : B ≤ w.heap.size)
    (hl : l.length + m.length < 4398046511104) (hK : ∀ v' w', RBlks (fun _ => True) (fun _ => True) w' v' (l ++ m) → Mod (fun b => v.ownBlock = some b) w w' → K v' w') :
    runK Try.prog (Builtin.append_ #[27, 27] 27 [v, x].toArray) K w := by
  have hx' : SlR (fun _ => True) 2 (OBlk fun b => B ≤ b ∧ v.ownBlock ≠ some b) w x m := SlR.sub (OwnR.sl hx) (fun _ _ _ => trivial) (by decide) fun r c hc => hc.mod (Mod.refl (fun _ => False) _) (fun _ _ _ h => h) fun b _ hb => ⟨by omega, fun e => by have := hv b e; omega⟩
  obtain ⟨v', w', h1, h2, h3, h4⟩ := OwnR.append (ty := 27) elem_blk h hx' (fun _ _ => OBlk.one) (by omega) hB (by simp only [maxLen]; omega)
    (fun w' hg r y hy => hy.mod (Mod.of_grownBy hg) (fun b _ hd e => hd.2 e) fun _ _ h => h)
  refine runK_i h1 (hK v' w' ?_ (Mod.of_grownBy h3))
  exact SlR.sub (OwnR.sl h2) (fun _ _ _ => trivial) (by decide) fun r c hc => hc.rd.mod (Mod.refl (fun _ => False) _) (fun _ _ _ h => h) fun _ _ _ => trivial

theorem BlocksJoin_ok {S S' D D' : Nat → Prop} {w : World} {a b : Value} {l m : List Cel} (ha : RCels S D w a l) (hb : RCels S' D' w b m) :
    callK Try.prog 3 [a, b] (fun v w' => v = .bool true ∧ Grow w w') w := by
  apply S3_ok
  unfold S3
  obtain ⟨pa, ca, hav, hla⟩ := ha.shape
  obtain ⟨pb, cb, hbv, hlb⟩ := hb.shape
  have kn : ∀ {w1}, Grow w w1 → callK Try.prog 14 [] (fun v w' => v = .bool true ∧ Grow w w') w1 := fun hg => callK_mono known_ok fun v w' ⟨e, h⟩ => ⟨e, hg.trans h⟩
  refine JoinK_i (fun vs w1 => w1 = w ∧ l.length ≤ 250 ∧ m.length ≤ 250) ?_ ?_
  · rintro vs _ ⟨rfl, hl, hm⟩ _
    rename World => w
    refine rowK_empty ?_
    have g0 : Grow w (w.alloc (.cells #[] 26)) := Mod.alloc _ _ _
    have o0 : OwnR w.heap.size 26 2 (RCel fun b => b < w.heap.size) (w.alloc (.cells #[] 26)) (.slice (some ⟨w.heap.size, 0, none⟩) 0 0) [] := OwnR.made (Nat.le_refl _)
    have low : ∀ {S D : Nat → Prop} {v : Value} {l : List Cel}, RCels S D w v l → RCels S (fun b => b < w.heap.size) w v l := fun h => SlR.sub h (fun _ _ h => h) (by decide) fun _ _ h => h.low
    refine app_cel o0 ((low ha).grow g0) (fun _ h => h) (by simp) (by simp; omega) fun v1 w1 o1 m1 => ?_
    have g1 : Grow w w1 := g0.next m1 fun b hb e => by simp only [Value.ownBlock, Option.some.injEq] at e; omega
    refine app_cel o1 ((low hb).grow g1) (fun _ h => h) g1.size (by simp; omega) fun v2 w2 o2 m2 => ?_
    have g2 : Grow w w2 := g1.next m2 fun b hb e => by have := (OwnR.ownB o1 b e).1; omega
    simp only [List.nil_append] at o2
    have s2 := OwnR.sl o2
    obtain ⟨p2, c2, hv2, _⟩ := s2.shape
    subst hv2
    simp only [KS]
    refine LoopK_i (fun vs w1 => ∃ (k : Nat), k ≤ (l ++ m).length ∧ vs = [.int .i64 k] ∧ Grow w2 w1 ∧ ∀ i c, i < k → (l ++ m)[i]? = some c → c.set.length ≤ 30) (fun vs _ => (l ++ m).length - iOf vs 0) ⟨0, Nat.zero_le _, rfl, Mod.refl _ _, fun i c h => by omega⟩ ?_
    rintro vs w3 ⟨k, hk, rfl, g3, hset⟩ _
    simp only [KS]
    by_cases hlt : k < (l ++ m).length
    · rw [if_pos (show (k : Int) < (l ++ m).length by omega)]
      obtain ⟨p, r, rfl, _, hr, hc, sv, rfl, hs⟩ := s2.get hlt
      refine ixK_n hlt ?_
      simp only [KS]
      refine ld1K_i (g3.cell (hc 1 _ rfl) fun h => h) ?_
      obtain ⟨ps, cs, rfl, _⟩ := hs.shape
      simp only [KS]
      by_cases h30 : (30 : Int) < (l ++ m)[k].set.length
      · rw [if_pos h30]; exact kn (g2.trans g3)
      · rw [if_neg h30]
        have hll : (l ++ m).length ≤ 500 := by simp; omega
        refine ⟨⟨k + 1, by omega, by rw [wrap64 (by omega) (by omega)]; rfl, g3, fun i c hi hc' => ?_⟩, ?_⟩
        · by_cases e : i = k
          · subst e; rw [List.getElem?_eq_getElem hlt] at hc'; cases hc'; omega
          · exact hset i c (by omega) hc'
        · simp only [iOf, nth, List.headD_cons]; rw [wrap64 (by omega) (by omega)]; omega
    · rw [if_neg (show ¬ (k : Int) < (l ++ m).length by omega)]
      have hke : k = (l ++ m).length := by omega
      subst hke
      have hall : ∀ c ∈ l ++ m, c.set.length ≤ 30 := fun c hc => by
        obtain ⟨i, hi⟩ := List.mem_iff_getElem?.1 hc
        exact hset i c (List.getElem?_eq_some_iff.1 hi).1 hi
      have g23 := g2.trans g3
      refine callK_mono (of_blk (ha.grow g23) (by omega) fun c hc => by have := hall c (by simp [hc]); omega) ?_
      rintro v4 w4 ⟨o4, g4⟩
      have g24 := g23.trans g4
      refine callK_mono (of_blk (hb.grow g24) (by omega) fun c hc => by have := hall c (by simp [hc]); omega) ?_
      rintro v5 w5 ⟨o5, g5⟩
      have s5 : RCels (fun _ => True) (fun b => b < w.heap.size) w5 (.slice p2 (l ++ m).length c2) (l ++ m) := RCels.grow (RCels.grow (RCels.grow (SlR.sub s2 (fun _ _ _ => trivial) (by decide) fun _ _ h => h) g3) g4) g5
      refine callK_mono (of_blk s5 (by simp; omega) fun c hc => by have := hall c hc; omega) ?_
      rintro v6 w6 ⟨o6, g6⟩
      have o4' := (o4.grow g5 fun _ _ _ h => h).grow g6 fun _ _ _ h => h
      have ll := ofB_len l
      have lm := ofB_len m
      refine app_blk o4' (o5.grow g6 fun _ _ _ h => h) (by have := g4.size; omega) (fun g hg => by have := (OBlks.ownB o4 g hg).2; omega) (by have := g4.size; have := g5.size; have := g6.size; omega) (by omega) fun v7 w7 o7 m7 => ?_
      have g7 : Grow w6 w7 ∨ True := .inr trivial
      refine callK_mono (join_blk o7 (by simp; omega) fun b hb => ?_) ?_
      · rcases List.mem_append.1 hb with hb | hb
        · have := ofB_sets (m := 30) (fun c hc => hall c (by simp [hc])) b hb; omega
        · have := ofB_sets (m := 30) (fun c hc => hall c (by simp [hc])) b hb; omega
      rintro v8 w8 ⟨o8, g8⟩
      have o6' : OBlks w5.heap.size w8 v6 (ofB (l ++ m)) := (o6.grow m7 fun b hb hB e => by have := (OBlks.ownB o4 b e).2; have := g5.size; omega).grow g8 fun _ _ _ h => h
      refine callK_mono (rsame_blk (OBlks.sl o6') (OBlks.sl o8)) ?_
      rintro v9 w9 ⟨rfl, g9⟩
      have g09 : Grow w w9 := ((((g24.trans g5).trans g6).next m7 fun b hb e => by have := (OBlks.ownB o4 b e).1; have := g23.size; omega).trans g8).trans g9
      rw [join_of_app l m (by omega) (by omega)]
      rw [decide_eq_true rfl]
      exact kn g09
  · subst hav hbv
    simp only [KS]
    by_cases h1 : (250 : Int) < l.length
    · rw [if_pos h1]; exact kn (Mod.refl _ _)
    · rw [if_neg h1]
      by_cases h2 : (250 : Int) < m.length
      · rw [if_pos h2]; exact kn (Mod.refl _ _)
      · rw [if_neg h2]
        exact ⟨by trivial, by omega, by omega⟩
end Go.Proofs.Ytmfplfaeibehiaa
