/- Contracts: slices.Grow of nothing, slices.Concat of two rows of ops. Conditions: the sizes. -/
import Derived.Test.YtmfplfaeibehiaaOJ
import Derived.Lib.AppendZeros
namespace Go.K
open Go
theorem cap_run {P : Program} {t ty e : TypeId} {a : Option Addr} {n c : Nat} {w : World} (ht : P.underlying t = some (.slice e)) : (Builtin.cap_ #[t] ty #[.slice a n c]).run P w = .ok (.int .i64 c) w := by
  simp [Builtin.cap_, run_underlying ht, goInt]
theorem sliceHi_run {P : Program} {t e k : Nat} {i : TypeInfo} {a : Option Addr} {n c h : Nat} {w : World} (ht : P.underlying t = some (.slice e)) (hi : P.info? e = some i) (hk : i.size = k) (hh : h ≤ c) :
    (Instr.sliceAt t (.slice a n c) none (some (.int .i64 h)) none).run P w = .ok (.slice (if c = 0 then a else a.map (·.add (0 * k))) h c) w := by
  have hel : P.elem t = e := by simp [Program.elem, ht]
  rw [run_sliceAt_slice _ _ _ _ _ _ (by rw [hel]; exact ht), run_slice_h _ _ _ _ _ (by rw [hel]; exact ht) _ _ (by omega) (by omega), hel]
  simp [sizeOf, typeInfo, hi, hk, sliced]
end Go.K
namespace Go.Proofs.Ytmfplfaeibehiaa
open Go Go.K

theorem grow_nil {n : Nat} {w : World} (hn : n * 88 ≤ 140737488355328) (R : World → List Value → Dop → Prop) :
    callK Try.prog 88 [.slice none 0 0, .int .i64 n] (fun v' w' => OwnR w.heap.size 59 5 R w' v' [] ∧ Grow w w') w := by
  apply S88_ok
  unfold S88
  refine JoinK_i (fun vs w1 => w1 = w) ?_ ?_
  · rintro vs _ rfl _
    rename World => w
    refine runK_i (cap_run (e := 59) (by kernel_rfl)) ?_
    rw [lenK_i, subK_i, subK_i, gtK_i]
    have e0 : IntKind.i64.wrap ((n : Int) - IntKind.i64.wrap (((0 : Nat) : Int) - ((0 : Nat) : Int))) = n := by rw [wrap64 (x := ((0 : Nat) : Int) - ((0 : Nat) : Int)) (by omega) (by omega), wrap64 (by omega) (by omega)]; omega
    rw [e0]
    refine condK_p (fun hp => ?_) fun _ => ⟨OwnR.nil, Mod.refl _ _⟩
    refine runK_i (cap_run (e := 59) (by kernel_rfl)) ?_
    refine runK_i (sliceHi_run (e := 59) (i := Try.t59) (k := 5) (h := 0) (by kernel_rfl) (by kernel_rfl) (by kernel_rfl) (Nat.le_refl _)) ?_
    simp only [if_true]
    obtain ⟨i, z, h1, h2, h3, h4, h5, h6, h7⟩ := elem_dop
    have hbz : i.bytes = 88 := h5
    refine runK_i (Go.Lib.run_append_nil_zeros (P := Try.prog) w 50 3 50 59 i z .i64 .i64 h1 (by kernel_rfl) h2 h3 n (by omega) (by omega) (by omega) (by rw [hbz]; omega)) ?_
    have hge := grownCap_ge w n 0 59
    have hml := grownCap_le_maxLen w n 0 59 (by simp only [maxLen]; omega)
    have hg : Grow w (w.drew.alloc (.cells (Builtin.zeroCells z.cells n ++ Builtin.zeroCells z.cells (grownCap w n 0 59 - n)) 59)) := (Mod.drew _ _).trans (Mod.alloc _ _ _)
    have hh := heap_alloc_new w.drew (.cells (Builtin.zeroCells z.cells n ++ Builtin.zeroCells z.cells (grownCap w n 0 59 - n)) 59)
    generalize w.drew.alloc (.cells (Builtin.zeroCells z.cells n ++ Builtin.zeroCells z.cells (grownCap w n 0 59 - n)) 59) = w2 at hg hh ⊢
    rw [lenK_i]
    refine runK_i (sliceHi_run (e := 59) (i := Try.t59) (k := 5) (h := 0) (by kernel_rfl) (by kernel_rfl) (by kernel_rfl) (Nat.zero_le _)) ⟨?_, hg⟩
    rw [if_neg (by omega)]
    simp only [Option.map_some, addr0, Nat.zero_mul]
    refine ⟨[], ⟨rfl, .inr ⟨_, _, _, rfl, Nat.le_refl _, hh, Nat.zero_le _, hml, ?_, by simp⟩⟩, rfl, by simp, by simp⟩
    simp only [Array.size_append, size_zeroCells, h6, ← Nat.add_mul]
    rw [Nat.add_sub_cancel' hge]
  · rw [ltK_i]
    exact condK_p (fun h => by omega) fun _ => rfl
/-- what a row of two slices reads as -/
theorem concat_dops {S1 D1 S2 D2 : Nat → Prop} {va vb : Value} {l m : List Dop} {p : Addr} {w : World} (ha : RDops S1 D1 w va l) (hb : RDops S2 D2 w vb m) (h0 : w.cell? p = some va) (h1 : w.cell? (p.add 1) = some vb) (hl : (l.length + m.length) * 88 ≤ 140737488355328) :
    callK Try.prog 66 [.slice (some p) 2 2] (fun v' w' => OwnR w.heap.size 59 5 (RDop fun b => (D1 b ∨ D2 b) ∧ b < w.heap.size) w' v' (l ++ m) ∧ Grow w w') w := by
  apply S66_ok
  unfold S66
  obtain ⟨a1, c1, rfl, m1⟩ := ha.shape
  obtain ⟨a2, c2, rfl, m2⟩ := hb.shape
  rw [lenK_i]
  have n0 : ((2 : Nat) : Int) = 2 := rfl
  refine LoopK_i (fun vs w1 => ∃ k : Nat, k ≤ 2 ∧ vs = [.int .i64 (if k = 0 then (0 : Nat) else if k = 1 then l.length else l.length + m.length : Nat), .int .i64 k] ∧ w1 = w) (fun vs _ => 2 - iOf vs 1) ⟨0, by omega, rfl, rfl⟩ ?_
  rintro vs _ ⟨k, hk, rfl, rfl⟩ _
  rename World => w
  simp only [nth_s, nth_z, List.headD_cons, List.tail_cons]
  rw [ltK_i]
  refine condK_p (fun hlt => ?_) fun hge => ?_
  · have hk2 : k = 0 ∨ k = 1 := by omega
    rcases hk2 with rfl | rfl
    · refine ixK_n (by decide) ?_
      have e : (p.add (0 * 1)) = p.add 0 := rfl
      rw [e, Addr.add_zero']
      refine ld1K_i h0 ?_
      rw [lenK_i, addK_i, wrap64 (by simp <;> omega) (by simp <;> omega), ltK_i]
      refine condK_p (fun h => by simp at h <;> omega) fun _ => ?_
      rw [addK_i, loop_step (by omega)]
      exact ⟨⟨1, by omega, by simp, rfl⟩, by rw [iOf1, iOf1]; omega⟩
    · refine ixK_n (by decide) ?_
      refine ld1K_i (show w.cell? (p.add (1 * 1)) = _ from h1) ?_
      rw [lenK_i, addK_i, wrap64 (by simp <;> omega) (by simp <;> omega), ltK_i]
      refine condK_p (fun h => by simp at h <;> omega) fun _ => ?_
      rw [addK_i, loop_step (by omega)]
      exact ⟨⟨2, by omega, by simp, rfl⟩, by rw [iOf1, iOf1]; omega⟩
  · have hk2 : k = 2 := by omega
    subst hk2
    simp only [show ¬ (2 : Nat) = 0 by decide, show ¬ (2 : Nat) = 1 by decide, if_false]
    refine callK_mono (grow_nil hl (RDop fun b => (D1 b ∨ D2 b) ∧ b < w.heap.size)) ?_
    rintro v1 w1 ⟨o1, g1⟩
    rw [lenK_i]
    let R := RDop fun b => (D1 b ∨ D2 b) ∧ b < w.heap.size
    have hz1 := g1.size
    have ha1 : SlR (fun _ => True) 5 R w1 (.slice a1 l.length c1) l := SlR.mono ha.old (fun _ _ _ => trivial) (fun b hb _ => g1.same b hb fun h => h) (by decide) fun r x hx => hx.mod g1 (fun _ _ _ h => h) fun b _ h => ⟨.inl h.1, h.2⟩
    have hb1 : SlR (fun _ => True) 5 R w1 (.slice a2 m.length c2) m := SlR.mono hb.old (fun _ _ _ => trivial) (fun b hb _ => g1.same b hb fun h => h) (by decide) fun r x hx => hx.mod g1 (fun _ _ _ h => h) fun b _ h => ⟨.inr h.1, h.2⟩
    have pst : ∀ {W W' : World} {M : Nat → Prop}, Mod M W W' → (∀ b, M b → w.heap.size ≤ b) → ∀ r y, R W r y → R W' r y := fun hm hM r y hy => hy.mod hm (fun b _ hd hb => by have := hM b hb; omega) fun _ _ h => h
    refine LoopK_i (fun vs w2 => ∃ (k : Nat) (out : Value) (acc : List Dop), k ≤ 2 ∧ vs = [out, .int .i64 k] ∧ acc = (if k = 0 then [] else if k = 1 then l else l ++ m) ∧ OwnR w.heap.size 59 5 R w2 out acc ∧ Grow w w2) (fun vs _ => 2 - iOf vs 1) ⟨0, v1, [], by omega, rfl, rfl, o1, g1⟩ ?_
    rintro vs w2 ⟨k, out, acc, hk, rfl, hacc, ho, g2⟩ _
    simp only [nth_s, nth_z, List.headD_cons, List.tail_cons]
    rw [ltK_i]
    have one : ∀ {W : World} (j : Nat) (y z : List Dop) (x o : Value), SlR (fun _ => True) 5 R w x y → OwnR w.heap.size 59 5 R W o z → Grow w W → (z.length + y.length) * 88 ≤ 140737488355328 →
        runK Try.prog (Builtin.append_ #[50, 50] 50 [o, x].toArray) (fun v' w' => OwnR w.heap.size 59 5 R w' v' (z ++ y) ∧ Grow w w') W := by
      intro W j y z x o hx hz hW hb
      have hx' : SlR (fun _ => True) 5 R W x y := by
        refine SlR.mono (hx.old (by decide)) (fun _ _ _ => trivial) (fun b hb h => hW.same b hb fun h => h) (by decide) fun r q hq => pst hW (fun _ h => h.elim) r q hq
      obtain ⟨v', w', r1, r2, r3, r4⟩ := OwnR.append (ty := 50) elem_dop hz hx' (fun _ _ => RDop.one) hb hW.size (by simp only [maxLen]; omega) fun w' hg r q hq => pst (Mod.of_grownBy hg) (fun b e => (OwnR.ownB hz b e).1) r q hq
      exact runK_i r1 ⟨r2, hW.next (Mod.of_grownBy r3) fun b hb e => by have := (OwnR.ownB hz b e).1; omega⟩
    have ha0 : SlR (fun _ => True) 5 R w (.slice a1 l.length c1) l := SlR.sub ha.old (fun _ _ _ => trivial) (by decide) fun r x hx => hx.mod (Mod.refl (fun _ => False) _) (fun _ _ _ h => h) fun b _ h => ⟨.inl h.1, h.2⟩
    have hb0 : SlR (fun _ => True) 5 R w (.slice a2 m.length c2) m := SlR.sub hb.old (fun _ _ _ => trivial) (by decide) fun r x hx => hx.mod (Mod.refl (fun _ => False) _) (fun _ _ _ h => h) fun b _ h => ⟨.inr h.1, h.2⟩
    refine condK_p (fun hlt => ?_) fun hge => ?_
    · have hk2 : k = 0 ∨ k = 1 := by omega
      rcases hk2 with rfl | rfl
      · refine ixK_n (by decide) ?_
        have e : (p.add (0 * 1)) = p.add 0 := rfl
        rw [e, Addr.add_zero']
        refine ld1K_i (g2.cell h0 fun h => h) ?_
        simp only [if_true] at hacc
        subst hacc
        obtain ⟨v', w', r1, r2, r3⟩ := one 0 l [] _ out ha0 ho g2 (by simp; omega)
        refine runK_i r1 ?_
        rw [addK_i, loop_step (by omega)]
        exact ⟨⟨1, v', _, by omega, rfl, by simp, r2, r3⟩, by rw [iOf1, iOf1]; omega⟩
      · refine ixK_n (by decide) ?_
        refine ld1K_i (g2.cell (show w.cell? (p.add (1 * 1)) = _ from h1) fun h => h) ?_
        simp only [show ¬ (1 : Nat) = 0 by decide, if_true, if_false] at hacc
        subst hacc
        obtain ⟨v', w', r1, r2, r3⟩ := one 0 m acc _ out hb0 ho g2 hl
        refine runK_i r1 ?_
        rw [addK_i, loop_step (by omega)]
        exact ⟨⟨2, v', _, by omega, rfl, by simp, r2, r3⟩, by rw [iOf1, iOf1]; omega⟩
    · have hk2 : k = 2 := by omega
      subst hk2
      simp only [show ¬ (2 : Nat) = 0 by decide, show ¬ (2 : Nat) = 1 by decide, if_false] at hacc
      subst hacc
      exact ⟨ho, g2⟩
end Go.Proofs.Ytmfplfaeibehiaa
