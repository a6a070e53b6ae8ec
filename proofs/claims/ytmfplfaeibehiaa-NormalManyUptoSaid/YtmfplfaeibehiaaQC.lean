/- The law NormalMany: it answers true, and leaves all memory as it was. Condition: how much there is. -/
import Derived.Test.YtmfplfaeibehiaaQB
namespace Go.Proofs.Ytmfplfaeibehiaa
open Go Go.K

abbrev RIn (w0 : World) : World → List Value → Dop → Prop := RDop fun x => x < w0.heap.size
/-- what the law keeps in memory: the delta told so far, the gap's inserts, how much is gone -/
structure MnI (w0 W : World) (b5 b7 b8 b9 : Nat) (ahead : Bool) (y gap : List Dop) (gone : Int) (yv gv : Value) : Prop where
  v5 : Var W b5 (.bool ahead)
  v7 : Var W b7 yv
  v8 : Var W b8 gv
  v9 : Var W b9 (.int .i64 gone)
  ord : w0.heap.size ≤ b5 ∧ b5 < b7 ∧ b7 < b8 ∧ b8 < b9
  oy : OwnR (b9 + 1) TOp 5 (RIn w0) W yv y
  og : OwnR (b9 + 1) TOp 5 (RIn w0) W gv gap
  dj : ∀ g, yv.ownBlock = some g → gv.ownBlock ≠ some g
theorem RIn.mod {w0 W W' : World} {M : Nat → Prop} {r : List Value} {o : Dop} (h : RIn w0 W r o) (hm : Mod M W W') (hM : ∀ x, M x → w0.heap.size ≤ x) : RIn w0 W' r o := RDop.mod h hm (fun x _ hx e => by have := hM x e; omega) fun _ _ h => h
theorem MnI.grow {w0 W W' : World} {b5 b7 b8 b9 : Nat} {ahead : Bool} {y gap : List Dop} {gone : Int} {yv gv : Value} (h : MnI w0 W b5 b7 b8 b9 ahead y gap gone yv gv) (hm : Grow W W') : MnI w0 W' b5 b7 b8 b9 ahead y gap gone yv gv :=
  ⟨h.v5.grow hm, h.v7.grow hm, h.v8.grow hm, h.v9.grow hm, h.ord, OwnR.mod h.oy hm (fun _ _ h => h) fun _ _ _ hx => RIn.mod hx hm fun _ h => h.elim, OwnR.mod h.og hm (fun _ _ h => h) fun _ _ _ hx => RIn.mod hx hm fun _ h => h.elim, h.dj⟩
theorem MnI.sety {w0 W W1 : World} {b5 b7 b8 b9 : Nat} {ahead : Bool} {y y' gap : List Dop} {gone : Int} {yv yv' gv : Value} {K : World → Prop} (h : MnI w0 W b5 b7 b8 b9 ahead y gap gone yv gv) (hm : Mod (fun x => yv.ownBlock = some x) W W1) (ho : OwnR (b9 + 1) TOp 5 (RIn w0) W1 yv' y')
    (hf : ∀ g, yv'.ownBlock = some g → yv.ownBlock = some g ∨ W.heap.size ≤ g) (hK : ∀ W2, MnI w0 W2 b5 b7 b8 b9 ahead y' gap gone yv' gv → Mod (fun x => w0.heap.size ≤ x) W W2 → K W2) : st1K (.pointer (some ⟨b7, 0, none⟩)) yv' K W1 := by
  obtain ⟨o1, o2, o3, o4⟩ := h.ord
  have hy : ∀ x, yv.ownBlock = some x → b9 + 1 ≤ x := fun x hx => (OwnR.ownB h.oy x hx).1
  have hv := OwnR.one ho
  have n : ∀ b, b ≤ b9 → ¬ yv.ownBlock = some b := fun b hb e => by have := hy b e; omega
  refine (h.v7.mod hm (n _ (by omega))).st hv.1 hv.2 fun hset hms => ?_
  refine hK _ ⟨(h.v5.mod hm (n _ (by omega))).mod hms (by omega), hset, (h.v8.mod hm (n _ (by omega))).mod hms (by omega), (h.v9.mod hm (n _ (by omega))).mod hms (by omega), h.ord, OwnR.mod ho hms (fun x hx e => ?_) fun _ _ _ hx => RIn.mod hx hms fun x e => by omega,
    OwnR.mod (OwnR.mod h.og hm (fun x hx e => h.dj x e hx) fun _ _ _ hx => RIn.mod hx hm fun x e => by have := hy x e; omega) hms (fun x hx e => ?_) fun _ _ _ hx => RIn.mod hx hms fun x e => by omega, fun x hx e => ?_⟩ ((hm.mono fun x _ e => by have := hy x e; omega).trans (hms.mono fun x _ e => by omega))
  · have := (OwnR.ownB ho x hx).1; omega
  · have := (OwnR.ownB h.og x hx).1; omega
  · rcases hf x hx with e' | e'
    · exact h.dj x e' e
    · have := (OwnR.ownB h.og x e).2; omega
theorem MnI.setg {w0 W W1 : World} {b5 b7 b8 b9 : Nat} {ahead : Bool} {y gap gap' : List Dop} {gone : Int} {yv gv gv' : Value} {K : World → Prop} (h : MnI w0 W b5 b7 b8 b9 ahead y gap gone yv gv) (hm : Mod (fun x => gv.ownBlock = some x) W W1) (ho : OwnR (b9 + 1) TOp 5 (RIn w0) W1 gv' gap')
    (hf : ∀ g, gv'.ownBlock = some g → gv.ownBlock = some g ∨ W.heap.size ≤ g) (hK : ∀ W2, MnI w0 W2 b5 b7 b8 b9 ahead y gap' gone yv gv' → Mod (fun x => w0.heap.size ≤ x) W W2 → Mod (fun x => x = b8) W1 W2 → K W2) : st1K (.pointer (some ⟨b8, 0, none⟩)) gv' K W1 := by
  obtain ⟨o1, o2, o3, o4⟩ := h.ord
  have hy : ∀ x, gv.ownBlock = some x → b9 + 1 ≤ x := fun x hx => (OwnR.ownB h.og x hx).1
  have hv := OwnR.one ho
  have n : ∀ b, b ≤ b9 → ¬ gv.ownBlock = some b := fun b hb e => by have := hy b e; omega
  refine (h.v8.mod hm (n _ (by omega))).st hv.1 hv.2 fun hset hms => ?_
  refine hK _ ⟨(h.v5.mod hm (n _ (by omega))).mod hms (by omega), (h.v7.mod hm (n _ (by omega))).mod hms (by omega), hset, (h.v9.mod hm (n _ (by omega))).mod hms (by omega), h.ord,
    OwnR.mod (OwnR.mod h.oy hm (fun x hx e => h.dj x hx e) fun _ _ _ hx => RIn.mod hx hm fun x e => by have := hy x e; omega) hms (fun x hx e => ?_) fun _ _ _ hx => RIn.mod hx hms fun x e => by omega, OwnR.mod ho hms (fun x hx e => ?_) fun _ _ _ hx => RIn.mod hx hms fun x e => by omega, fun x hx e => ?_⟩ ((hm.mono fun x _ e => by have := hy x e; omega).trans (hms.mono fun x _ e => by omega)) hms
  · have := (OwnR.ownB h.oy x hx).1; omega
  · have := (OwnR.ownB ho x hx).1; omega
  · rcases hf x e with e' | e'
    · exact h.dj x hx e'
    · have := (OwnR.ownB h.oy x hx).2; omega
theorem MnI.setn {w0 W : World} {b5 b7 b8 b9 : Nat} {ahead : Bool} {y gap : List Dop} {gone gone' : Int} {yv gv : Value} {K : World → Prop} (h : MnI w0 W b5 b7 b8 b9 ahead y gap gone yv gv)
    (hK : ∀ W2, MnI w0 W2 b5 b7 b8 b9 ahead y gap gone' yv gv → Mod (fun x => w0.heap.size ≤ x) W W2 → Mod (fun x => x = b9) W W2 → K W2) : st1K (.pointer (some ⟨b9, 0, none⟩)) (.int .i64 gone') K W := by
  obtain ⟨o1, o2, o3, o4⟩ := h.ord
  refine h.v9.st rfl rfl fun hset hms => ?_
  refine hK _ ⟨h.v5.mod hms (by omega), h.v7.mod hms (by omega), h.v8.mod hms (by omega), hset, h.ord, OwnR.mod h.oy hms (fun x hx e => ?_) fun _ _ _ hx => RIn.mod hx hms fun x e => by omega, OwnR.mod h.og hms (fun x hx e => ?_) fun _ _ _ hx => RIn.mod hx hms fun x e => by omega, h.dj⟩ (hms.mono fun x _ e => by omega) hms
  · have := (OwnR.ownB h.oy x hx).1; omega
  · have := (OwnR.ownB h.og x hx).1; omega
/-- one op put behind the delta -/
theorem MnI.pushy {w0 W : World} {b5 b7 b8 b9 : Nat} {ahead : Bool} {y gap : List Dop} {gone : Int} {yv gv : Value} {o : Dop} {rv sv pv : Value} {parts : List (Nat × Value)} {K : World → Prop} (h : MnI w0 W b5 b7 b8 b9 ahead y gap gone yv gv) (hw : w0.heap.size ≤ W.heap.size) (hx : RIn w0 W (row5 o rv sv pv) o)
    (hf : Instr.fill (fun i => some (i * 5, 5)) ((Array.range (1 * 5)).map (([.int .u8 0, .int .i64 0, .slice none 0 0, .slice none 0 0, .slice none 0 0] : List Value).toArray[· % ([.int .u8 0, .int .i64 0, .slice none 0 0, .slice none 0 0, .slice none 0 0] : List Value).toArray.size]!)) parts = some (row5 o rv sv pv).toArray)
    (hl : y.length ≤ 1000000) (hK : ∀ W2 yv', MnI w0 W2 b5 b7 b8 b9 ahead (y ++ [o]) gap gone yv' gv → Mod (fun x => w0.heap.size ≤ x) W W2 → K W2) :
    rowK TOp 5 1 [.int .u8 0, .int .i64 0, .slice none 0 0, .slice none 0 0, .slice none 0 0] parts (fun t57 w16 => runK Try.prog (Builtin.append_ #[50, 50] 50 [yv, t57].toArray) (fun t58 w17 => st1K (.pointer (some ⟨b7, 0, none⟩)) t58 K w17) w16) W := by
  have hb9 : b9 < W.heap.size := h.v9.lt
  refine push_g elem_dop h.oy (by omega) (cs := row5 o rv sv pv) (x := o) hf rfl hx (fun _ _ _ => RDop.one) (fun W1 W2 r z hz hm hy => RIn.mod hy hm fun x e => ?_) (by omega) (by simp only [maxLen]; omega) fun v' w' h1 h2 h3 => h.sety h2 h1 h3 fun W2 h4 h5 => hK W2 v' h4 h5
  rcases e with e | e
  · have := (OwnR.ownB h.oy x e).1; have := h.ord; omega
  · omega
theorem flush_ok {w0 w : World} {b5 b7 b8 b9 : Nat} {ahead : Bool} {y gap : List Dop} {gone : Int} {yv gv : Value} (h : MnI w0 w b5 b7 b8 b9 ahead y gap gone yv gv) (hw : w0.heap.size ≤ w.heap.size) (hl : y.length + gap.length ≤ 900000) :
    callK Try.prog 45 [.pointer (some ⟨b9, 0, none⟩), .pointer (some ⟨b5, 0, none⟩), .pointer (some ⟨b7, 0, none⟩), .pointer (some ⟨b8, 0, none⟩)] (fun _ w' => (∃ yv' gv', MnI w0 w' b5 b7 b8 b9 ahead (flushM ahead y gap gone) [] 0 yv' gv') ∧ Mod (fun x => w0.heap.size ≤ x) w w') w := by
  apply S45_ok
  unfold S45
  have nilR : ∀ {W : World}, RIn w0 W (row5 (delB gone) (.slice none 0 0) (.slice none 0 0) (.slice none 0 0)) (delB gone) := ⟨_, _, _, rfl, SlR.nil, SlR.nil, SlR.nil⟩
  refine JoinK_i (fun vs w1 => ∃ yv', MnI w0 w1 b5 b7 b8 b9 ahead (if 0 < gone ∧ ahead = true then y ++ [delB gone] else y) gap gone yv' gv ∧ Mod (fun x => w0.heap.size ≤ x) w w1) ?_ ?_
  · rintro vs w1 ⟨yv1, h1, m1⟩ _
    have z1 := m1.size
    refine h1.v7.ld (h1.v8.ld ?_)
    generalize hy1 : (if 0 < gone ∧ ahead = true then y ++ [delB gone] else y) = y1 at h1
    have hy1l : y1.length ≤ y.length + 1 := by rw [← hy1]; split <;> simp
    obtain ⟨v2, w2, r1, r2, r3, r4⟩ := OwnR.append (ty := 50) elem_dop h1.oy (OwnR.sl h1.og) (fun _ _ => RDop.one) (by omega) (by have := h1.v9.lt; omega) (by simp only [maxLen]; omega) fun w' hg r z hz => RIn.mod hz (Mod.of_grownBy hg) fun x e => by have := (OwnR.ownB h1.oy x e).1; have := h1.ord; omega
    refine runK_i r1 ?_
    refine h1.sety (Mod.of_grownBy r3) r2 r4 fun w3 h3 m3 => ?_
    have m03 := m1.trans m3
    refine JoinK_i (fun vs w4 => ∃ yv', MnI w0 w4 b5 b7 b8 b9 ahead (flushM ahead y gap gone) gap gone yv' gv ∧ Mod (fun x => w0.heap.size ≤ x) w w4) ?_ ?_
    · rintro vs w4 ⟨yv4, h4, m4⟩ _
      refine h4.setg (Mod.refl _ _) (gv' := .slice none 0 0) OwnR.nil (fun g hg => nomatch hg) fun w5 h5 m5 _ => ?_
      refine h5.setn fun w6 h6 m6 _ => ?_
      exact ⟨⟨_, _, h6⟩, (m4.trans m5).trans m6⟩
    · refine h3.v9.ld ?_
      have e1 : ∀ (hc : ¬ (0 < gone ∧ ahead = false)), flushM ahead y gap gone = y1 ++ gap := by
        intro hc; unfold flushM; rw [if_neg hc, List.append_nil, hy1]
      rw [gtK_i]
      refine condK_p (fun hg => ?_) fun hg => ⟨_, by rw [e1 fun h => hg h.1]; exact h3, m03⟩
      refine h3.v5.ld ?_
      rw [notK_i]
      cases ahead with
      | true => rw [condK_b]; exact (if_neg (by simp)).mpr ⟨_, by rw [e1 fun h => by cases h.2]; exact h3, m03⟩
      | false =>
        rw [condK_b]
        refine (if_pos (by simp)).mpr (h3.v7.ld (h3.v9.ld ?_))
        refine ⟨(row5 (delB gone) (.slice none 0 0) (.slice none 0 0) (.slice none 0 0)).toArray, by kernel_rfl, ?_⟩
        refine h3.pushy (by have := m03.size; omega) nilR (by kernel_rfl) (by simp; omega) fun w4 yv4 h4 m4 => ⟨yv4, ?_, m03.trans m4⟩
        have : flushM false y gap gone = y1 ++ gap ++ [delB gone] := by unfold flushM; rw [if_pos (show 0 < gone ∧ false = false from ⟨hg, rfl⟩), hy1]
        rw [this]; exact h4
  · refine h.v9.ld ?_
    rw [gtK_i]
    refine condK_p (fun hg => ?_) fun hg => ⟨_, by rw [if_neg (fun h => hg h.1)]; exact h, Mod.refl _ _⟩
    refine h.v5.ld ?_
    cases ahead with
    | false => rw [condK_b]; exact (if_neg (by simp)).mpr ⟨_, by rw [if_neg (fun h => by cases h.2)]; exact h, Mod.refl _ _⟩
    | true =>
      rw [condK_b, if_pos rfl]
      refine h.v7.ld (h.v9.ld ?_)
      refine ⟨(row5 (delB gone) (.slice none 0 0) (.slice none 0 0) (.slice none 0 0)).toArray, by kernel_rfl, ?_⟩
      refine h.pushy hw nilR (by kernel_rfl) (by omega) fun w4 yv4 h4 m4 => ⟨yv4, ?_, m4⟩
      rw [if_pos ⟨hg, rfl⟩]; exact h4
end Go.Proofs.Ytmfplfaeibehiaa
