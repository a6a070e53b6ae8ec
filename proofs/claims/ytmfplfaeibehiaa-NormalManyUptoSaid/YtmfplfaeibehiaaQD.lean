/- The law NormalMany: it answers true, and leaves all memory as it was. Condition: how much there is. -/
import Derived.Test.YtmfplfaeibehiaaQC
namespace Go.Proofs.Ytmfplfaeibehiaa
open Go Go.K

theorem MnI.mod {w0 W W' : World} {M : Nat → Prop} {b5 b7 b8 b9 : Nat} {ahead : Bool} {y gap : List Dop} {gone : Int} {yv gv : Value} (h : MnI w0 W b5 b7 b8 b9 ahead y gap gone yv gv) (hm : Mod M W W') (h5 : ¬ M b5) (h7 : ¬ M b7) (h8 : ¬ M b8) (h9 : ¬ M b9)
    (hy : ∀ x, yv.ownBlock = some x → ¬ M x) (hg : ∀ x, gv.ownBlock = some x → ¬ M x) (hM : ∀ x, M x → w0.heap.size ≤ x) : MnI w0 W' b5 b7 b8 b9 ahead y gap gone yv gv :=
  ⟨h.v5.mod hm h5, h.v7.mod hm h7, h.v8.mod hm h8, h.v9.mod hm h9, h.ord, OwnR.mod h.oy hm hy fun _ _ _ hx => RIn.mod hx hm hM, OwnR.mod h.og hm hg fun _ _ _ hx => RIn.mod hx hm hM, h.dj⟩
theorem flush_len (ahead : Bool) (y gap : List Dop) (g : Int) : (flushM ahead y gap g).length ≤ y.length + gap.length + 1 := by
  unfold flushM
  by_cases hg : 0 < g
  · cases ahead <;> simp [hg] <;> omega
  · simp [hg]
theorem flush_m (ahead : Bool) (y gap : List Dop) (g : Int) : mDops (flushM ahead y gap g) ≤ mDops y + mDops gap + 1 := by
  have e : mDop (delB g) = 1 := by simp [delB, mDop, mSet, mPat]
  unfold flushM
  by_cases hg : 0 < g
  · cases ahead <;> simp [hg, mDops_app, mDops_one, e] <;> simp [mDops] <;> omega
  · simp [hg, mDops_app]
theorem many_len (ahead : Bool) (x : List Dop) : (manyR ahead x).y.length + (manyR ahead x).gap.length ≤ 2 * x.length ∧ mDops (manyR ahead x).y + mDops (manyR ahead x).gap ≤ 2 * mDops x := by
  induction x using rev_ind with
  | h0 => exact ⟨Nat.le_refl _, Nat.le_refl _⟩
  | h1 x o ih =>
    have e : manyR ahead (x ++ [o]) = manyF ahead (manyR ahead x) o := by simp [manyR]
    have h0 : 1 ≤ mDop o := by simp [mDop]; omega
    rw [e, mDops_app, mDops_one, List.length_append, List.length_singleton]
    unfold manyF
    split
    · have h1 := flush_len ahead (manyR ahead x).y (manyR ahead x).gap (manyR ahead x).gone
      have h2 := flush_m ahead (manyR ahead x).y (manyR ahead x).gap (manyR ahead x).gone
      simp only [List.length_append, List.length_singleton, List.length_nil, mDops_app, mDops_one]
      have h3 : mDops ([] : List Dop) = 0 := rfl
      omega
    · split
      · simp only [List.length_append, List.length_singleton, mDops_app, mDops_one]; omega
      · simp only; omega
open Classical in
theorem NormalMany_ok {S S' D : Nat → Prop} {kv v : Value} {keys : List DKey} {x : List Dop} {w : World} (hk : RKeys S w kv keys) (h : RDops S' D w v x) (ahead : Bool) (hb : mDops x ≤ 1048576) :
    callK Try.prog 11 [kv, v, .bool ahead] (fun v w' => v = .bool true ∧ Grow w w') w := by
  apply S11_ok
  unfold S11
  have kn : ∀ {w1}, Grow w w1 → callK Try.prog 35 [] (fun v w' => v = .bool true ∧ Grow w w') w1 := fun hg => callK_mono known16_ok fun v w' ⟨e, h⟩ => ⟨e, hg.trans h⟩
  have hxl := mDops_len x
  have hold := h.old
  refine ⟨rfl, newK_i ?_⟩
  have V5 := Var.new w 4 (.bool ahead)
  have g1 : Grow w (w.alloc (.cells [Value.bool ahead].toArray 4)) := Mod.alloc _ _ _
  have z1 : (w.alloc (.cells [Value.bool ahead].toArray 4)).heap.size = w.heap.size + 1 := by simp
  generalize hb5 : w.heap.size = b5 at V5
  generalize w.alloc (.cells [Value.bool ahead].toArray 4) = w1 at V5 g1 z1 ⊢
  refine JoinK_i (fun vs w2 => Grow w1 w2 ∧ TameX keys x ∧ x.length ≤ 40) ?_ ?_
  rotate_left
  · obtain ⟨pa, pc, rfl, _⟩ := h.shape
    refine callK_mono (tamex_ok (hk.grow g1 (by decide) fun _ _ h => h) (RDops.grow h g1) (by omega)) ?_
    rintro v2 w2 ⟨rfl, g2⟩
    rw [notK_i]
    refine condK_neg (fun ht => ?_) fun ht => kn (g1.trans g2)
    rw [lenK_i, gtK_i]
    exact condK_p (fun _ => kn (g1.trans g2)) fun hl => ⟨g2, ht, by omega⟩
  rintro vs w2 ⟨g2, ht, h40⟩ _
  have hf := ht.form1
  have hl := ht.len
  obtain ⟨a, c, rfl, hm⟩ := h.shape
  have V5' := V5.grow g2
  have g02 := g1.trans g2
  have z2 := g2.size
  refine newK_i ?_
  have V7 := Var.new w2 50 (.slice none 0 0)
  have g3 : Grow w2 (w2.alloc (.cells [Value.slice none 0 0].toArray 50)) := Mod.alloc _ _ _
  have z3 : (w2.alloc (.cells [Value.slice none 0 0].toArray 50)).heap.size = w2.heap.size + 1 := by simp
  generalize hb7 : w2.heap.size = b7 at V7 ⊢
  generalize w2.alloc (.cells [Value.slice none 0 0].toArray 50) = w3 at V7 g3 z3 ⊢
  refine newK_i ?_
  have V8 := Var.new w3 50 (.slice none 0 0)
  have g4 : Grow w3 (w3.alloc (.cells [Value.slice none 0 0].toArray 50)) := Mod.alloc _ _ _
  have z4 : (w3.alloc (.cells [Value.slice none 0 0].toArray 50)).heap.size = w3.heap.size + 1 := by simp
  generalize hb8 : w3.heap.size = b8 at V8 ⊢
  generalize w3.alloc (.cells [Value.slice none 0 0].toArray 50) = w4 at V8 g4 z4 ⊢
  refine newK_i ?_
  have V9 := Var.new w4 3 (.int .i64 0)
  have g5 : Grow w4 (w4.alloc (.cells [Value.int .i64 0].toArray 3)) := Mod.alloc _ _ _
  have z5 : (w4.alloc (.cells [Value.int .i64 0].toArray 3)).heap.size = w4.heap.size + 1 := by simp
  generalize hb9 : w4.heap.size = b9 at V9 ⊢
  generalize w4.alloc (.cells [Value.int .i64 0].toArray 3) = w5 at V9 g5 z5 ⊢
  have I5 : MnI w w5 b5 b7 b8 b9 ahead [] [] 0 (.slice none 0 0) (.slice none 0 0) :=
    ⟨((V5'.grow g3).grow g4).grow g5, (V7.grow g4).grow g5, V8.grow g5, V9, by omega, OwnR.nil, OwnR.nil, fun g hg => nomatch hg⟩
  have m05 : Mod (fun y => w.heap.size ≤ y) w w5 := Grow.mod (((g02.trans g3).trans g4).trans g5)
  refine I5.setn fun w6 I6 m6 _ => ?_
  have m06 := m05.trans m6
  rw [lenK_i]
  refine LoopK_i (fun vs W => ∃ (k : Nat) (yv gv : Value), k ≤ x.length ∧ vs = [.int .i64 k] ∧ MnI w W b5 b7 b8 b9 ahead (manyR ahead (x.take k)).y (manyR ahead (x.take k)).gap (manyR ahead (x.take k)).gone yv gv ∧ Mod (fun y => w.heap.size ≤ y) w W) (fun vs _ => x.length - iOf vs 0)
    ⟨0, _, _, Nat.zero_le _, rfl, I6, m06⟩ ?_
  rintro vs W ⟨k, yv, gv, hkl, rfl, I, mW⟩ _
  have hlen := many_len ahead (x.take k)
  have htl : (x.take k).length ≤ 40 := by simp; omega
  have htm := mDops_le x k
  have zW := mW.size
  have rd : ∀ {W' : World}, Mod (fun y => w.heap.size ≤ y) w W' → RDops (fun b => S' b ∧ b < w.heap.size) (fun b => D b ∧ b < w.heap.size) W' (.slice a x.length c) x := fun hm => RDops.mod hold hm (fun b _ hb e => by have := hb.2; omega) fun b _ hb e => by have := hb.2; omega
  have fl : ∀ K : Cont, (∀ W' yv' gv', MnI w W' b5 b7 b8 b9 ahead (flushM ahead (manyR ahead (x.take k)).y (manyR ahead (x.take k)).gap (manyR ahead (x.take k)).gone) [] 0 yv' gv' → Mod (fun y => w.heap.size ≤ y) w W' → K (.tuple #[]) W') → (∀ u u' W', K u W' → K u' W') →
      callyK Try.prog okf (.func (.func 45) #[] #[.pointer (some ⟨b9, 0, none⟩), .pointer (some ⟨b5, 0, none⟩), .pointer (some ⟨b7, 0, none⟩), .pointer (some ⟨b8, 0, none⟩)]) [] K W := by
    intro K hK hu
    refine .inl ⟨45, [], [.pointer (some ⟨b9, 0, none⟩), .pointer (some ⟨b5, 0, none⟩), .pointer (some ⟨b7, 0, none⟩), .pointer (some ⟨b8, 0, none⟩)], rfl, by kernel_rfl, ?_⟩
    refine callK_mono (flush_ok I zW (by omega)) ?_
    rintro u W' ⟨⟨yv', gv', h1⟩, h2⟩
    exact hu _ _ _ (hK W' yv' gv' h1 (mW.trans h2))
  rw [nth_z, List.headD_cons, ltK_i]
  refine condK_p (fun hlt => ?_) fun hge => ?_
  · have hlt' : k < x.length := by omega
    have estep : manyR ahead (x.take (k + 1)) = manyF ahead (manyR ahead (x.take k)) x[k] := by
      rw [List.take_add_one, List.getElem?_eq_getElem hlt']; simp only [manyR, Option.toList, List.foldl_append, List.foldl_cons, List.foldl_nil]
    obtain ⟨p, r, rfl, hS, hr, hc, hop⟩ := (rd mW).get hlt'
    have hcell : ∀ {W' : World}, Mod (fun y => w.heap.size ≤ y) W W' → ∀ j u, r[j]? = some u → W'.cell? ((p.add (k * 5)).add j) = some u := fun hm j u hu => by
      rw [Addr.add_add]; exact hm.cell (hc j u hu) fun e => by rw [add_block] at e; have := hS.2; omega
    obtain ⟨rv, sv, pv, rfl, q1, q2, q3⟩ := hop
    refine ixK_n hlt' ?_
    rw [faK_i]
    refine ld1K_i (hcell (Mod.refl _ _) 0 _ rfl) ?_
    rw [eqK_i]
    refine condK_p (fun k1 => ?_) fun k1 => ?_
    · refine fl _ (fun W1 yv1 gv1 I1 m1 => ?_) fun _ _ _ h => h
      have z1' := m1.size
      obtain ⟨_, r1, e, _, hr1, hc1, hop1⟩ := (rd m1).get hlt'
      cases e
      refine ixK_n hlt' (ldnK_i hr1 (fun j u hu => by rw [Addr.add_add]; exact hc1 j u hu) ?_)
      refine newst_n (vs := r1) hr1 rfl hop1.one fun bb W2 hbb hz2 g2' hc2 hlv2 => ?_
      have I2 := I1.grow g2'
      have m2 := m1.trans (Grow.mod g2')
      have hop2 := hop1.mod (D' := fun b => b < w.heap.size) g2' (fun _ _ _ h => h) fun _ _ h => h.2
      obtain ⟨rv2, sv2, pv2, rfl, t1, t2, t3⟩ := hop2
      refine JoinK_i (fun vs W3 => ∃ pv3, MnI w W3 b5 b7 b8 b9 ahead (flushM ahead (manyR ahead (x.take k)).y (manyR ahead (x.take k)).gap (manyR ahead (x.take k)).gone) [] 0 yv1 gv1 ∧ Mod (fun y => w.heap.size ≤ y) w W3 ∧ (∀ j u, (row5 x[k] rv2 sv2 pv3)[j]? = some u → W3.cell? ((⟨bb, 0, none⟩ : Addr).add j) = some u) ∧ RIn w W3 (row5 x[k] rv2 sv2 pv3) x[k]) ?_ ?_
      · rintro vs W3 ⟨pv3, I3, m3, hc3, hR3⟩ _
        refine I3.v7.ld ?_
        refine ldnK_i (vs := row5 x[k] rv2 sv2 pv3) rfl hc3 ?_
        have sh : ∃ a1 c1 a2 c2 a3 c3 n1 n2 n3, rv2 = .slice a1 n1 c1 ∧ sv2 = .slice a2 n2 c2 ∧ pv3 = .slice a3 n3 c3 := by
          obtain ⟨_, _, _, e, u1, u2, u3⟩ := hR3
          simp only [List.cons.injEq, and_true, true_and] at e
          obtain ⟨rfl, rfl, rfl⟩ := e
          obtain ⟨a1, c1, e1, _⟩ := u1.shape
          obtain ⟨a2, c2, e2, _⟩ := u2.shape
          obtain ⟨a3, c3, e3, _⟩ := u3.shape
          exact ⟨a1, c1, a2, c2, a3, c3, _, _, _, e1, e2, e3⟩
        have hfl := flush_len ahead (manyR ahead (x.take k)).y (manyR ahead (x.take k)).gap (manyR ahead (x.take k)).gone
        refine I3.pushy m3.size hR3 (by obtain ⟨a1, c1, a2, c2, a3, c3, n1, n2, n3, rfl, rfl, rfl⟩ := sh; kernel_rfl) (by omega) fun W4 yv4 I4 m4 => ?_
        rw [addK_i, loop_step (by omega)]
        refine ⟨⟨k + 1, yv4, gv1, hlt', rfl, ?_, m3.trans m4⟩, by rw [iOf0, iOf0]; omega⟩
        rw [estep]
        unfold manyF
        rw [if_pos k1]
        exact I4
      · rw [faK_i]
        refine ld1K_i (hc2 4 _ rfl) ?_
        obtain ⟨pa, pc, rfl, _⟩ := t3.shape
        rw [lenK_i, eqK_i]
        refine condK_p (fun hp => ?_) fun hp => ⟨_, I2, m2, hc2, ⟨_, _, _, rfl, t1, t2, t3⟩⟩
        have hpe : x[k].patch = [] := len0.1 hp
        refine rowK_empty ?_
        have g3' : Grow W2 (W2.alloc (.cells #[] 61)) := Mod.alloc _ _ _
        generalize W2.alloc (.cells #[] 61) = W3 at g3' ⊢
        rw [faK_i]
        have hlv3 : Live W3 ((⟨bb, 0, none⟩ : Addr).add 4) := (hlv2 4 (by simp)).mod g3' fun h => h
        refine hlv3.st rfl rfl ?_
        rw [addr0]
        have m34 := setA W3 bb 4 (.slice (some ⟨W2.heap.size, 0, none⟩) 0 0)
        have z3' := g3'.size
        have I3 := I2.grow g3'
        obtain ⟨o1, o2, o3, o4⟩ := I1.ord
        have hb9' := I1.v9.lt
        have hy1 : ∀ x, yv1.ownBlock = some x → ¬ x = bb := fun x hx e => by have := (OwnR.ownB I1.oy x hx).2; omega
        have hg1 : ∀ x, gv1.ownBlock = some x → ¬ x = bb := fun x hx e => by have := (OwnR.ownB I1.og x hx).2; omega
        refine ⟨.slice (some ⟨W2.heap.size, 0, none⟩) 0 0, I3.mod m34 (by omega) (by omega) (by omega) (by omega) hy1 hg1 (fun x e => by omega), (m2.trans (Grow.mod g3')).trans (m34.mono fun y _ e => by omega), fun j u hu => ?_, ?_⟩
        · rw [addr0]
          by_cases hj : j = 4
          · subst hj
            cases hu
            rw [addr0] at hlv3
            obtain ⟨u', hu'⟩ := Option.isSome_iff_exists.1 hlv3.1
            exact World.cell?_setCell_same _ _ _ hu'
          · rw [World.cell?_setCell_other _ _ _ _ (by intro e; simp only [Addr.mk.injEq] at e; omega), ← addr0]
            refine g3'.cell (hc2 j u ?_) fun h => h
            have hjl := (List.getElem?_eq_some_iff.1 hu).1
            simp only [List.length_cons, List.length_nil] at hjl
            rw [← hu]
            match j, hjl, hj with
            | 0, _, _ => rfl
            | 1, _, _ => rfl
            | 2, _, _ => rfl
            | 3, _, _ => rfl
            | 4, _, h4 => exact absurd rfl h4
            | n + 5, h4, _ => exact absurd h4 (by omega)
        · have hM : ∀ y, (fun x => x = bb) y → w.heap.size ≤ y := fun y e => by simp only at e; omega
          have hR := RIn.mod (RIn.mod (w0 := w) (r := row5 x[k] rv2 sv2 (.slice pa x[k].patch.length pc)) (o := x[k]) ⟨_, _, _, rfl, t1, t2, t3⟩ g3' fun _ h => h.elim) m34 hM
          obtain ⟨_, _, _, e, u1, u2, u3⟩ := hR
          simp only [List.cons.injEq, and_true, true_and] at e
          obtain ⟨rfl, rfl, rfl⟩ := e
          refine ⟨_, _, _, rfl, u1, u2, ?_⟩
          rw [hpe]
          exact ⟨_, 0, rfl, Nat.le_refl _, by simp [maxLen], fun i y hy => by simp at hy⟩
    · rw [eqK_i]
      have stepS : ∀ {W' : World} {s : ManyS} {yv' gv' : Value}, manyR ahead (x.take (k + 1)) = s → MnI w W' b5 b7 b8 b9 ahead s.y s.gap s.gone yv' gv' → Mod (fun y => w.heap.size ≤ y) w W' →
          (∃ (k' : Nat) (yv gv : Value), k' ≤ x.length ∧ [Value.int .i64 ((k + 1 : Nat) : Int)] = [.int .i64 k'] ∧ MnI w W' b5 b7 b8 b9 ahead (manyR ahead (x.take k')).y (manyR ahead (x.take k')).gap (manyR ahead (x.take k')).gone yv gv ∧ Mod (fun y => w.heap.size ≤ y) w W') ∧ x.length - iOf [Value.int .i64 ((k + 1 : Nat) : Int)] 0 < x.length - iOf [Value.int .i64 k] 0 :=
        fun e hI hm => ⟨⟨k + 1, _, _, hlt', rfl, by rw [e]; exact hI, hm⟩, by rw [iOf0, iOf0]; omega⟩
      have gd : Grow W W.drew := Mod.drew _ _
      have Id := I.grow gd
      have md : Mod (fun y => w.heap.size ≤ y) w W.drew := mW.trans (Grow.mod gd)
      have pin : ∀ b, w.heap.size ≤ b → ¬ b = p.block := fun b hb e => by have := hS.2; omega
      refine condK_p (fun k2 => ?_) fun k2 => ?_
      · obtain ⟨o1, o2, o3, o4⟩ := I.ord
        have gvb : ∀ x, gv.ownBlock = some x → b9 + 1 ≤ x := fun x hx => (OwnR.ownB I.og x hx).1
        refine drawC_i (fun k y => (k = 6 ∧ gv.ownBlock = some y) ∨ (k = 7 ∧ y = b8)) ?_
        refine sld1_i ⟨Id.v8.1, fun j hj e => ?_⟩ ?_
        · rcases e with ⟨_, e⟩ | ⟨rfl, _⟩
          · have : b9 + 1 ≤ b8 := gvb _ e; omega
          · exact absurd hj (by decide)
        refine ixK_n hlt' ?_
        refine sldn_i (vs := row5 x[k] rv sv pv) rfl (fun j u hu => ⟨hcell (Grow.mod gd) j u hu, fun j' hj' e => ?_⟩) ?_
        · rw [add_block, add_block] at e
          rcases e with ⟨_, e⟩ | ⟨_, e⟩
          · exact pin _ (by have := gvb _ e; omega) rfl
          · exact pin b8 (by omega) e.symm
        have sh : ∃ a1 c1 a2 c2 a3 c3 n1 n2 n3, rv = .slice a1 n1 c1 ∧ sv = .slice a2 n2 c2 ∧ pv = .slice a3 n3 c3 := by
          obtain ⟨a1, c1, e1, _⟩ := q1.shape
          obtain ⟨a2, c2, e2, _⟩ := q2.shape
          obtain ⟨a3, c3, e3, _⟩ := q3.shape
          exact ⟨a1, c1, a2, c2, a3, c3, _, _, _, e1, e2, e3⟩
        have hRk : RIn w W.drew (row5 x[k] rv sv pv) x[k] := RDop.mod (D := fun b => D b ∧ b < w.heap.size) ⟨_, _, _, rfl, q1, q2, q3⟩ gd (fun _ _ _ h => h) fun _ _ h => h.2
        have zd := md.size
        have b9l := Id.v9.lt
        refine push_g2 elem_dop Id.og (by omega) (cs := row5 x[k] rv sv pv) (x := x[k]) (by obtain ⟨a1, c1, a2, c2, a3, c3, n1, n2, n3, rfl, rfl, rfl⟩ := sh; kernel_rfl) rfl hRk (fun _ _ _ => RDop.one) (fun W1 W2 r z hz hm hy => RIn.mod hy hm fun y e => ?_) (by omega) (by simp only [maxLen]; omega) (fun _ g => Grow.mod g) fun W1 v' W2 h1 m1 m2 f2 => ?_
        · rcases e with e | e
          · have := gvb y e; omega
          · omega
        refine ⟨m1.mono fun y _ e => .inl ⟨rfl, e⟩, ?_⟩
        refine Id.setg m2 h1 f2 fun W3 I3 m3 m3' => ⟨m3'.mono fun y _ e => .inr ⟨rfl, e⟩, ?_⟩
        rw [addK_i, loop_step (by omega)]
        refine stepS (s := ⟨(manyR ahead (x.take k)).y, (manyR ahead (x.take k)).gap ++ [x[k]], (manyR ahead (x.take k)).gone⟩) ?_ I3 (md.trans m3)
        rw [estep]; unfold manyF; rw [if_neg k1, if_pos k2]
      · refine drawC_i (fun k y => k = 7 ∧ y = b9) ?_
        obtain ⟨o1, o2, o3, o4⟩ := I.ord
        refine sld1_i ⟨Id.v9.1, fun j hj e => by obtain ⟨rfl, _⟩ := e; exact absurd hj (by decide)⟩ ?_
        refine ixK_n hlt' ?_
        rw [faK_i]
        refine sld1_i ⟨hcell (Grow.mod gd) 1 _ rfl, fun j hj e => ?_⟩ ?_
        · rw [add_block, add_block] at e; exact pin b9 (by omega) e.2.symm
        rw [addK_i]
        refine Id.setn fun W3 I3 m3 m3' => ⟨m3'.mono fun y _ e => ⟨rfl, e⟩, ?_⟩
        rw [addK_i, loop_step (by omega)]
        refine stepS (s := ⟨(manyR ahead (x.take k)).y, (manyR ahead (x.take k)).gap, IntKind.i64.wrap ((manyR ahead (x.take k)).gone + x[k].n)⟩) ?_ I3 (md.trans m3)
        rw [estep]; unfold manyF; rw [if_neg k1, if_neg k2]
  · have hke : k = x.length := by omega
    subst hke
    refine fl _ (fun W1 yv1 gv1 I1 m1 => ?_) fun _ _ _ h => h
    rw [List.take_length] at I1 hlen
    have z1' := m1.size
    refine I1.v7.ld ?_
    have hfm := flush_m ahead (manyR ahead x).y (manyR ahead x).gap (manyR ahead x).gone
    have oy := I1.oy
    refine callK_mono (of_dops (OwnR.sl oy) (by omega)) ?_
    rintro v2 W2 ⟨o2, g2'⟩
    have gw1 : Grow w W1 := m1.mono fun y hy e => by omega
    have gw2 : Grow w W2 := gw1.trans g2'
    refine callK_mono (of_dops (RDops.grow h gw2) (by omega)) ?_
    rintro v3 W3 ⟨o3, g3'⟩
    refine callK_mono (same_dops (RDops.grow (ODops.reads o2) g3') (ODops.reads o3)) ?_
    rintro v4 W4 ⟨rfl, g4'⟩
    have hnm : normB (flushM ahead (manyR ahead x).y (manyR ahead x).gap (manyR ahead x).gone) = normB x := norm_many ahead x hf hl
    rw [decide_eq_true hnm, condK_b, if_pos rfl]
    exact kn ((gw2.trans g3').trans g4')
end Go.Proofs.Ytmfplfaeibehiaa
