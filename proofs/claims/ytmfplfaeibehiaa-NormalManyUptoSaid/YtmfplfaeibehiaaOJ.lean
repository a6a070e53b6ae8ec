/- Contracts: a delta in memory of its own. Conditions: the sizes. -/
import Derived.Test.YtmfplfaeibehiaaOI
namespace Go.K
open Go
theorem OwnR.conv {α : Type} {B e k : Nat} {R0 R : World → List Value → α → Prop} {w : World} {g n c : Nat} {l : List α} (h : OwnR B e k R0 w (.slice (some ⟨g, 0, none⟩) n c) l)
    (hR : ∀ i (hi : i < l.length) (r : List Value), r.length = k → (∀ u ∈ r, u.oneCell' = true) → (∀ q u, r[q]? = some u → w.cell? ⟨g, i * k + q, none⟩ = some u) → R w r l[i]) : OwnR B e k R w (.slice (some ⟨g, 0, none⟩) n c) l := by
  obtain ⟨rows, h1, h2, h3, h4⟩ := h
  have hrl : ∀ r ∈ rows, r.length = k := fun r hr => (h3 r hr).1
  have hn : n = l.length := by
    rcases h1.2 with ⟨h', _⟩ | ⟨g', cap', cur, h', _⟩
    · simp at h'
    · simp only [Value.slice.injEq] at h'; exact h'.2.1
  subst hn
  refine ⟨rows, h1, h2, h3, fun i r x hr hx => ?_⟩
  have hi : i < l.length := (List.getElem?_eq_some_iff.1 hx).1
  have hx' : x = l[i] := by rw [List.getElem?_eq_getElem hi] at hx; exact (Option.some.inj hx).symm
  subst hx'
  have hm := List.mem_of_getElem? hr
  refine hR i hi r (hrl r hm) (h3 r hm).2 fun q u hu => ?_
  have hq : q < k := by rw [← hrl r hm]; exact (List.getElem?_eq_some_iff.1 hu).1
  have hlt : i * k + q < l.length * k := by
    have : (i + 1) * k ≤ l.length * k := Nat.mul_le_mul_right _ hi
    rw [Nat.add_mul] at this; omega
  have := h1.cellAt _ hlt
  rw [flat_get rows i q r hrl hr hq] at this
  rw [← hu]; exact this
theorem OwnR.any {α : Type} {B e k : Nat} {R0 : World → List Value → α → Prop} {w : World} {v : Value} {l : List α} (h : OwnR B e k R0 w v l) : OwnR B e k (fun _ _ _ => True) w v l := by
  obtain ⟨rows, h1, h2, h3, _⟩ := h
  exact ⟨rows, h1, h2, h3, fun _ _ _ _ _ => trivial⟩
theorem OwnR.setAny {α : Type} {B e k : Nat} {w : World} {g n c : Nat} {l : List α} (h : OwnR B e k (fun _ _ _ => True) w (.slice (some ⟨g, 0, none⟩) n c) l) {i j : Nat} (hi : i < l.length) (hj : j < k) {u : Value} (hu : u.oneCell' = true) :
    OwnR B e k (fun _ _ _ => True) (w.setCell ⟨g, i * k + j, none⟩ u) (.slice (some ⟨g, 0, none⟩) n c) l := by
  have hs := (OwnR.store (R' := fun _ _ _ => True) (x' := l[i]) h hi hj hu (fun _ _ _ _ => trivial) fun _ _ => trivial).2.2.1
  have e : l.set i l[i] = l := List.set_getElem_self hi
  rw [e] at hs
  have hadd : (⟨g, 0, none⟩ : Addr).add (i * k + j) = ⟨g, i * k + j, none⟩ := by unfold Addr.add; split <;> simp_all
  rw [hadd] at hs
  exact hs
theorem setA (W : World) (g o : Nat) (u : Value) : Mod (fun b => b = g) W (W.setCell ⟨g, o, none⟩ u) := Mod.setCell _ _ _ rfl
theorem OwnR.cellsOf {α : Type} {B e k : Nat} {R : World → List Value → α → Prop} {w : World} {g n c : Nat} {l : List α} (h : OwnR B e k R w (.slice (some ⟨g, 0, none⟩) n c) l) {i : Nat} (hi : i < l.length) :
    ∃ r, r.length = k ∧ (∀ q u, r[q]? = some u → w.cell? ⟨g, i * k + q, none⟩ = some u) ∧ R w r l[i] ∧ ∀ q, q < k → Live w ⟨g, i * k + q, none⟩ := by
  obtain ⟨p, r, e1, _, hr, hc, hR⟩ := (OwnR.sl h).get hi
  cases e1
  have hadd : ∀ q, (⟨g, 0, none⟩ : Addr).add (i * k + q) = ⟨g, i * k + q, none⟩ := fun q => by unfold Addr.add; split <;> simp_all
  refine ⟨r, hr, fun q u hu => by rw [← hadd]; exact hc q u hu, hR, fun q hq => ?_⟩
  obtain ⟨g', e2, _, hl⟩ := OwnR.live h hi hq
  cases e2
  rw [hadd] at hl; exact hl
end Go.K
namespace Go.Proofs.Ytmfplfaeibehiaa
open Go Go.K

/-- the cells of an op at a place of a row -/
def OpAt (W : World) (g j : Nat) (o : Dop) (rv sv pv : Value) : Prop := ∀ q u, [Value.int .u8 o.kind, .int .i64 o.n, rv, sv, pv][q]? = some u → W.cell? ⟨g, j * 5 + q, none⟩ = some u
theorem OpAt.cong {W W' : World} {g j : Nat} {o : Dop} {rv sv pv : Value} (h : OpAt W g j o rv sv pv) (hW : ∀ q, q < 5 → W'.cell? ⟨g, j * 5 + q, none⟩ = W.cell? ⟨g, j * 5 + q, none⟩) : OpAt W' g j o rv sv pv := by
  intro q u hu
  have := (List.getElem?_eq_some_iff.1 hu).1
  simp only [List.length_cons, List.length_nil] at this
  rw [hW q (by omega)]; exact h q u hu
theorem copy_dops {S D : Nat → Prop} {v : Value} {x : List Dop} {w : World} (h : RDops S D w v x) (hb : mDops x ≤ 1099511627776) :
    callK Try.prog 67 [v] (fun v' w' => ODops w.heap.size w' v' x ∧ Grow w w') w := by
  apply S67_ok
  unfold S67
  have hxl := mDops_len x
  refine callK_mono (clone_dops h (by omega)) ?_
  rintro v1 w1 ⟨o1, g1⟩
  obtain ⟨a1, c1, rfl, hc1, hcm, hp, hn⟩ := OwnR.shape o1
  simp only [maxLen] at hcm
  rw [lenK_i]
  cases a1 with
  | none =>
    have := hn rfl
    subst this
    refine LoopK_i (fun vs w2 => vs = [.int .i64 0] ∧ w2 = w1) (fun _ _ => 0) ⟨rfl, rfl⟩ ?_
    rintro vs _ ⟨rfl, rfl⟩ _
    rename World => w1
    rw [nth_z, List.headD_cons, ltK_i]
    exact condK_p (fun h => by simp at h) fun _ => ⟨OwnR.mod o1 (Mod.refl (fun _ => False) _) (fun _ _ h => h) fun r y hy => by simp at hy, g1⟩
  | some p1 =>
    obtain ⟨g, rfl, hg1, hg2, _⟩ := hp _ rfl
    have hsz : ∀ o ∈ x, o.runes.length * 4 ≤ 140737488355328 ∧ o.set.length * 48 ≤ 140737488355328 ∧ o.patch.length * 56 ≤ 140737488355328 := by
      intro o ho
      have := mDops_mem ho
      simp only [mDop, mSet_eq, mPat_eq] at this
      omega
    -- what the row has, i ops done
    let F : Nat → Prop := fun b => w.heap.size ≤ b ∧ b ≠ g
    let D0 : Nat → Prop := fun b => D b ∧ b < w.heap.size
    let Inv : Nat → World → Prop := fun i W => OwnR w.heap.size 59 5 (fun _ _ _ => True) W (.slice (some ⟨g, 0, none⟩) x.length c1) x ∧ Mod (fun b => b = g) w1 W ∧
      ∀ j (hj : j < x.length), ∃ rv sv pv, OpAt W g j x[j] rv sv pv ∧ (j < i → ODop F W [.int .u8 x[j].kind, .int .i64 x[j].n, rv, sv, pv] x[j]) ∧ (i ≤ j → RDop D0 W [.int .u8 x[j].kind, .int .i64 x[j].n, rv, sv, pv] x[j])
    have inv0 : Inv 0 w1 := by
      refine ⟨o1.any, Mod.refl _ _, fun j hj => ?_⟩
      obtain ⟨r, hr, hcl, ho, _⟩ := OwnR.cellsOf o1 hj
      obtain ⟨rv, sv, pv, rfl, q1, q2, q3⟩ := ho
      exact ⟨rv, sv, pv, hcl, fun h => by omega, fun _ => ⟨rv, sv, pv, rfl, q1, q2, q3⟩⟩
    have hz1 := g1.size
    refine LoopK_i (fun vs W => ∃ i : Nat, i ≤ x.length ∧ vs = [.int .i64 i] ∧ Inv i W) (fun vs _ => x.length - iOf vs 0) ⟨0, Nat.zero_le _, rfl, inv0⟩ ?_
    rintro vs w2 ⟨i, hi, rfl, hinv⟩ _
    rw [nth_z, List.headD_cons, ltK_i]
    refine condK_p (fun hlt => ?_) fun hge => ?_
    · have hlt' : i < x.length := by omega
      obtain ⟨oA, mA, rows⟩ := hinv
      have hz2 := mA.size
      obtain ⟨rv, sv, pv, hat, _, hrd⟩ := rows i hlt'
      obtain ⟨_, _, _, e, q1, q2, q3⟩ := hrd (Nat.le_refl _)
      simp only [List.cons.injEq, and_true, true_and] at e
      obtain ⟨rfl, rfl, rfl⟩ := e
      have hmem : x[i] ∈ x := by simp
      obtain ⟨z1, z2, z3⟩ := hsz _ hmem
      have gd : Grow w2 w2.drew := Mod.drew _ _
      refine drawC_i (fun k b => (k = 26 ∨ k = 29 ∨ k = 32) ∧ b = g) ?_
      -- the loads are of cells that the stores turn, which wait for them
      have ld : ∀ q u, [Value.int .u8 x[i].kind, .int .i64 x[i].n, rv, sv, pv][q]? = some u → w2.drew.cell? ((⟨g, 0, none⟩ : Addr).add (i * 5 + q)) = some u := fun q u hu => by rw [addr0]; exact hat q u hu
      have lv : ∀ q, q < 5 → Live w2 ⟨g, i * 5 + q, none⟩ := by
        obtain ⟨_, _, _, _, hl⟩ := OwnR.cellsOf oA hlt'
        exact hl
      refine ixK_n hlt' ?_
      rw [faK_i, Addr.add_add]
      refine sld1_i ⟨ld 2 _ rfl, fun j hj h => by rcases h with ⟨rfl | rfl | rfl, _⟩ <;> exact absurd hj (by decide)⟩ ?_
      refine callK_mono (clone_run (q1.grow gd (by decide) fun _ _ h => h) z1) ?_
      rintro t1 w3 ⟨n1, g3⟩
      refine ⟨Grow.mod g3, ?_⟩
      have g23 := gd.trans g3
      refine ixK_n hlt' ?_
      rw [faK_i, Addr.add_add]
      refine sld1_i ⟨ld 3 _ rfl, fun j hj h => by rcases h with ⟨rfl | rfl | rfl, _⟩ <;> exact absurd hj (by decide)⟩ ?_
      refine callK_mono (copy_set (q2.grow g23 (by decide) fun _ _ h => h) z2) ?_
      rintro t2 w4 ⟨n2, g4⟩
      refine ⟨Grow.mod g4, ?_⟩
      have g24 := g23.trans g4
      refine ixK_n hlt' ?_
      rw [faK_i, Addr.add_add]
      refine sld1_i ⟨ld 4 _ rfl, fun j hj h => by rcases h with ⟨rfl | rfl | rfl, _⟩ <;> exact absurd hj (by decide)⟩ ?_
      refine callK_mono (copy_pat (q3.grow g24 (by decide) fun _ _ h => h) z3) ?_
      rintro t3 w5 ⟨n3, g5⟩
      refine ⟨Grow.mod g5, ?_⟩
      have g25 := g24.trans g5
      have hz5 := g25.size
      have zd : w2.drew.heap.size = w2.heap.size := rfl
      have hz3 := g3.size
      have hz4 := g4.size
      have lv5 : ∀ q, q < 5 → Live w5 ⟨g, i * 5 + q, none⟩ := fun q hq => (lv q hq).mod g25 fun h => h
      have n1' : OwnR 0 21 1 RRune w5 t1 x[i].runes := OwnR.base (OwnR.mod n1 (g4.trans g5) (fun _ _ h => h) fun _ _ _ h => h) fun _ _ => Nat.zero_le _
      have n2' : OSet 0 w5 t2 x[i].set := OwnR.base (OwnR.mod n2 g5 (fun _ _ h => h) fun _ _ _ h => h) fun _ _ => Nat.zero_le _
      have n3' : OwnR 0 61 6 RChg w5 t3 x[i].patch := OwnR.base n3 fun _ _ => Nat.zero_le _
      have b1 : ∀ b, t1.ownBlock = some b → F b := fun b hb => by have := (OwnR.ownB n1 b hb).1; exact ⟨by omega, by omega⟩
      have b2 : ∀ b, t2.ownBlock = some b → F b := fun b hb => by have := (OwnR.ownB n2 b hb).1; exact ⟨by omega, by omega⟩
      have b3 : ∀ b, t3.ownBlock = some b → F b := fun b hb => by have := (OwnR.ownB n3 b hb).1; exact ⟨by omega, by omega⟩
      have oA5 : OwnR w.heap.size 59 5 (fun _ _ _ => True) w5 (.slice (some ⟨g, 0, none⟩) x.length c1) x := OwnR.mod oA g25 (fun _ _ h => h) fun _ _ _ _ => trivial
      have ht1 := OwnR.one n1'
      have ht2 := OwnR.one n2'
      have ht3 := OwnR.one n3'
      refine ixK_n hlt' ?_
      rw [faK_i, Addr.add_add, addr0]
      refine (lv5 2 (by decide)).st ht1.1 ht1.2 ⟨Mod.setCell _ _ _ ⟨.inl rfl, rfl⟩, ?_⟩
      refine ixK_n hlt' ?_
      rw [faK_i, Addr.add_add, addr0]
      refine ((lv5 3 (by decide)).set _ _).st ht2.1 ht2.2 ⟨Mod.setCell _ _ _ ⟨.inr (.inl rfl), rfl⟩, ?_⟩
      refine ixK_n hlt' ?_
      rw [faK_i, Addr.add_add, addr0]
      refine (((lv5 4 (by decide)).set _ _).set _ _).st ht3.1 ht3.2 ⟨Mod.setCell _ _ _ ⟨.inr (.inr rfl), rfl⟩, ?_⟩
      rw [addK_i, loop_step (by omega)]
      refine ⟨⟨i + 1, hlt', rfl, ?_⟩, by rw [iOf0, iOf0]; omega⟩
      have oA6 := OwnR.setAny (OwnR.setAny (OwnR.setAny oA5 hlt' (show 2 < 5 by decide) ht1.1) hlt' (show 3 < 5 by decide) ht2.1) hlt' (show 4 < 5 by decide) ht3.1
      have m56 : Mod (fun b => b = g) w5 (((w5.setCell ⟨g, i * 5 + 2, none⟩ t1).setCell ⟨g, i * 5 + 3, none⟩ t2).setCell ⟨g, i * 5 + 4, none⟩ t3) := ((setA _ _ _ _).trans (setA _ _ _ _)).trans (setA _ _ _ _)
      have oth : ∀ j q, q < 5 → (j ≠ i ∨ q < 2) → (((w5.setCell ⟨g, i * 5 + 2, none⟩ t1).setCell ⟨g, i * 5 + 3, none⟩ t2).setCell ⟨g, i * 5 + 4, none⟩ t3).cell? ⟨g, j * 5 + q, none⟩ = w5.cell? ⟨g, j * 5 + q, none⟩ := by
        intro j q hq hj
        have ne : ∀ q', q' < 5 → 2 ≤ q' → (⟨g, i * 5 + q', none⟩ : Addr) ≠ ⟨g, j * 5 + q, none⟩ := by
          intro q' h1 h2 e
          simp only [Addr.mk.injEq, and_true, true_and] at e
          omega
        rw [World.cell?_setCell_other _ _ _ _ (ne 4 (by omega) (by omega)), World.cell?_setCell_other _ _ _ _ (ne 3 (by omega) (by omega)), World.cell?_setCell_other _ _ _ _ (ne 2 (by omega) (by omega))]
      have same : ∀ j q u, w2.cell? ⟨g, j * 5 + q, none⟩ = some u → w5.cell? ⟨g, j * 5 + q, none⟩ = some u := fun j q u hu => g25.cell hu fun h => h
      generalize hW : (((w5.setCell ⟨g, i * 5 + 2, none⟩ t1).setCell ⟨g, i * 5 + 3, none⟩ t2).setCell ⟨g, i * 5 + 4, none⟩ t3) = W at oA6 m56 oth ⊢
      refine ⟨oA6, mA.trans ((Grow.mod g25).trans m56), fun j hj => ?_⟩
      by_cases hji : j = i
      · subst hji
        refine ⟨t1, t2, t3, fun q u hu => ?_, fun _ => ⟨t1, t2, t3, rfl, own_mod ⟨n1', b1⟩ m56 (fun b _ hb e => hb.2 e) (fun _ _ h => h) fun _ _ h => h, own_mod ⟨n2', b2⟩ m56 (fun b _ hb e => hb.2 e) (fun _ _ h => h) fun _ _ h => h, own_mod ⟨n3', b3⟩ m56 (fun b _ hb e => hb.2 e) (fun _ _ h => h) fun _ _ h => h⟩, fun h => by omega⟩
        have hq := (List.getElem?_eq_some_iff.1 hu).1
        simp only [List.length_cons, List.length_nil] at hq
        have ne : ∀ q q', q ≠ q' → (⟨g, j * 5 + q', none⟩ : Addr) ≠ ⟨g, j * 5 + q, none⟩ := by
          intro q q' h e
          simp only [Addr.mk.injEq, and_true, true_and] at e
          omega
        have some5 : ∀ q, q < 5 → ∃ u, w5.cell? ⟨g, j * 5 + q, none⟩ = some u := fun q hq => Option.isSome_iff_exists.1 (lv5 q hq).1
        rw [← hW]
        match q, hq, hu with
        | 0, _, hu => rw [hW, oth j 0 (by omega) (.inr (by omega))]; exact same _ _ _ (hat 0 u hu)
        | 1, _, hu => rw [hW, oth j 1 (by omega) (.inr (by omega))]; exact same _ _ _ (hat 1 u hu)
        | 2, _, hu =>
          simp only [List.getElem?_cons_succ, List.getElem?_cons_zero, Option.some.injEq] at hu; subst hu
          obtain ⟨u', hu'⟩ := some5 2 (by omega)
          rw [World.cell?_setCell_other _ _ _ _ (ne 2 4 (by decide)), World.cell?_setCell_other _ _ _ _ (ne 2 3 (by decide))]
          exact World.cell?_setCell_same _ _ _ hu'
        | 3, _, hu =>
          simp only [List.getElem?_cons_succ, List.getElem?_cons_zero, Option.some.injEq] at hu; subst hu
          obtain ⟨u', hu'⟩ := some5 3 (by omega)
          rw [World.cell?_setCell_other _ _ _ _ (ne 3 4 (by decide))]
          exact World.cell?_setCell_same _ _ _ ((World.cell?_setCell_other _ _ _ _ (ne 3 2 (by decide))).trans hu')
        | 4, _, hu =>
          simp only [List.getElem?_cons_succ, List.getElem?_cons_zero, Option.some.injEq] at hu; subst hu
          obtain ⟨u', hu'⟩ := some5 4 (by omega)
          exact World.cell?_setCell_same _ _ _ ((World.cell?_setCell_other _ _ _ _ (ne 4 3 (by decide))).trans ((World.cell?_setCell_other _ _ _ _ (ne 4 2 (by decide))).trans hu'))
      · obtain ⟨rv', sv', pv', hat', hod', hrd'⟩ := rows j hj
        refine ⟨rv', sv', pv', OpAt.cong (W := w5) (fun q u hu => same _ _ _ (hat' q u hu)) fun q hq => oth j q hq (.inl hji), fun h => ?_, fun h => ?_⟩
        · exact (ODop.mod (hod' (by omega)) (D' := F) g25 (fun _ _ _ h => h) fun _ _ h => h).mod m56 (fun b _ hb e => hb.2 e) fun _ _ h => h
        · exact (RDop.mod (hrd' (by omega)) (D' := D0) g25 (fun _ _ _ h => h) fun _ _ h => h).mod m56 (fun b _ hb e => by have := hb.2; omega) fun _ _ h => h
    · have : i = x.length := by omega
      subst this
      obtain ⟨oA, mA, rows⟩ := hinv
      refine ⟨OwnR.conv oA fun j hj r hr hone hcl => ?_, g1.next mA fun b hb e => by omega⟩
      obtain ⟨rv, sv, pv, hat, hod, _⟩ := rows j hj
      have e : r = [.int .u8 x[j].kind, .int .i64 x[j].n, rv, sv, pv] := by
        refine List.ext_getElem? fun q => ?_
        by_cases hq : q < 5
        · have h1 : r[q]? = some r[q] := List.getElem?_eq_getElem (by omega)
          have h2 : ([Value.int .u8 x[j].kind, .int .i64 x[j].n, rv, sv, pv])[q]? = some ([Value.int .u8 x[j].kind, .int .i64 x[j].n, rv, sv, pv])[q] := List.getElem?_eq_getElem (by simpa using hq)
          have h3 := hcl q _ h1
          rw [hat q _ h2] at h3
          rw [h1, h2, h3]
        · rw [List.getElem?_eq_none (by omega), List.getElem?_eq_none (by simp; omega)]
      subst e
      exact (hod hj).mod (Mod.refl (fun _ => False) _) (fun _ _ _ h => h) fun b _ hb => ⟨hb.1, fun e => hb.2 (by simpa [Value.ownBlock] using e.symm)⟩
end Go.Proofs.Ytmfplfaeibehiaa
