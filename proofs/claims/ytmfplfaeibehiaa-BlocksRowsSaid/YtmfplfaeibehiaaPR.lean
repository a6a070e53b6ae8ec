/- The law BlocksRows: it answers true, and leaves all memory as it was. Conditions: the sets' sizes. -/
import Derived.Test.YtmfplfaeibehiaaPQ
namespace Go.Proofs.Ytmfplfaeibehiaa
open Go Go.K

theorem rcutB_pl {l : List Blk} (hn : NonNeg l) (hb : (pl l).length ≤ big) (i j : Int) (hi : i ≤ 9223372036854775807) : pl (rcutB l i j) = ((pl l).take j.toNat).drop i.toNat ∧ PropL (rcutB l i j) := by
  unfold rcutB
  have e1 : maxI i 0 = i.toNat := by unfold maxI; split <;> omega
  by_cases h : maxI i 0 < j
  · rw [if_pos h]
    obtain ⟨h1, h2⟩ := cutT_pl hn hb (i := maxI i 0) (j := j) (by omega) (by omega) (by omega) l.length (Nat.le_refl _)
    rw [List.take_length, e1] at h1
    rw [Int.toNat_natCast] at h1
    exact ⟨by rw [e1]; exact h1, h2⟩
  · rw [if_neg h]
    refine ⟨?_, trivial⟩
    have : (((pl l).take j.toNat).drop i.toNat).length = 0 := by simp; omega
    rw [List.eq_nil_of_length_eq_zero this]; rfl
theorem prop_one {m : List Blk} {s : List Attr} (h : PropL m) (hp : pl m = [s]) : m = [⟨1, s⟩] := by
  refine uniq _ _ h ?_ ?_
  · exact (propL_snoc [] ⟨1, s⟩).2 ⟨trivial, Int.one_pos, fun c hc => by simp at hc⟩
  · rw [hp, pl_one]; rfl
theorem prop_nil {m : List Blk} (h : PropL m) (hp : pl m = []) : m = [] := uniq _ _ h trivial (by rw [hp]; rfl)
/-- the sets' slices of blocks, and that they and the numbers may be written, all in blocks from B to E -/
def WBlks (B E : Nat) (W : World) (m : Value) (l : List Blk) (svs : Nat → Value) : Prop :=
  ∀ i (hi : i < l.length), ∃ g c q sc, m = .slice (some ⟨g, 0, none⟩) l.length c ∧ B ≤ g ∧ g < E ∧ W.cell? ⟨g, i * 2 + 1, none⟩ = some (svs i) ∧ Live W ⟨g, i * 2, none⟩ ∧ svs i = .slice q l[i].set.length sc ∧
    ∀ k, k < l[i].set.length → ∃ g', q = some ⟨g', 0, none⟩ ∧ g' ≠ g ∧ B ≤ g' ∧ g' < E ∧ Live W ⟨g', k * 5, none⟩
theorem WBlks.set {B E : Nat} {W : World} {m : Value} {l : List Blk} {svs : Nat → Value} (h : WBlks B E W m l svs) (A : Addr) (u : Value) (hA : ∀ g c i, m = .slice (some ⟨g, 0, none⟩) l.length c → A ≠ ⟨g, i * 2 + 1, none⟩) : WBlks B E (W.setCell A u) m l svs := by
  intro i hi
  obtain ⟨g, c, q, sc, h1, h2, h3, h4, h5, h6, h7⟩ := h i hi
  refine ⟨g, c, q, sc, h1, h2, h3, ?_, h5.set _ _, h6, fun k hk => ?_⟩
  · rw [World.cell?_setCell_other W _ _ u (hA g c i h1)]; exact h4
  · obtain ⟨g', e1, e2, e3, e4, e5⟩ := h7 k hk
    exact ⟨g', e1, e2, e3, e4, e5.set _ _⟩
theorem WBlks.mod {B E : Nat} {W W' : World} {M : Nat → Prop} {m : Value} {l : List Blk} {svs : Nat → Value} (h : WBlks B E W m l svs) (hm : Mod M W W') (hM : ∀ b, B ≤ b → b < E → ¬ M b) : WBlks B E W' m l svs := by
  intro i hi
  obtain ⟨g, c, q, sc, h1, h2, h3, h4, h5, h6, h7⟩ := h i hi
  refine ⟨g, c, q, sc, h1, h2, h3, hm.cell h4 (hM g h2 h3), h5.mod hm (hM g h2 h3), h6, fun k hk => ?_⟩
  obtain ⟨g', e1, e2, e3, e4, e5⟩ := h7 k hk
  exact ⟨g', e1, e2, e3, e4, e5.mod hm (hM g' e3 e4)⟩
theorem addr0 (g x : Nat) : (⟨g, 0, none⟩ : Addr).add x = ⟨g, x, none⟩ := by unfold Addr.add; split <;> simp_all
theorem OBlks.wr {B : Nat} {W : World} {m : Value} {l : List Blk} (h : OBlks B W m l) : ∃ svs, WBlks B W.heap.size W m l svs := by
  obtain ⟨a, c, rfl, hc, hm, hp, hnil⟩ := OwnR.shape h
  have one : ∀ i (hi : i < l.length), ∃ sv g q sc, a = some ⟨g, 0, none⟩ ∧ B ≤ g ∧ g < W.heap.size ∧ W.cell? ⟨g, i * 2 + 1, none⟩ = some sv ∧ Live W ⟨g, i * 2, none⟩ ∧ sv = .slice q l[i].set.length sc ∧
      ∀ k, k < l[i].set.length → ∃ g', q = some ⟨g', 0, none⟩ ∧ g' ≠ g ∧ B ≤ g' ∧ g' < W.heap.size ∧ Live W ⟨g', k * 5, none⟩ := by
    intro i hi
    obtain ⟨p, r, rfl, hS, hr, hcl, sv, rfl, ho, hd⟩ := (OwnR.sl h).get hi
    obtain ⟨g, rfl, hg1, hg2, hg3⟩ := hp p rfl
    obtain ⟨_, e, _, hlv⟩ := OwnR.live h hi (show 0 < 2 by decide)
    cases e
    rw [addr0] at hlv
    have hc1 := hcl 1 _ rfl
    rw [addr0] at hc1
    obtain ⟨q, sc, rfl, _⟩ := OwnR.shape ho
    refine ⟨_, g, q, sc, rfl, hg1, hg2, hc1, hlv, rfl, fun k hk => ?_⟩
    obtain ⟨g', rfl, _, hl'⟩ := OwnR.live ho hk (show 0 < 5 by decide)
    rw [addr0] at hl'
    have h1 := hd g' rfl
    exact ⟨g', rfl, fun e => h1.2 (by rw [e]; rfl), h1.1, World.block_lt_of_cell? W _ (Option.isSome_iff_exists.1 hl'.1).choose_spec, hl'⟩
  refine ⟨fun i => if hi : i < l.length then (one i hi).choose else .slice none 0 0, fun i hi => ?_⟩
  obtain ⟨g, q, sc, rfl, h1, h2, h3, h4, h5, h6⟩ := (one i hi).choose_spec
  refine ⟨g, c, q, sc, rfl, h1, h2, ?_, h4, ?_, h6⟩
  · simp only [hi, dif_pos]; exact h3
  · simp only [hi, dif_pos]; exact h5
theorem wr_blks {B E : Nat} {W : World} {m : Value} {l : List Blk} {svs : Nat → Value} {Rest : World → Prop} (hw : WBlks B E W m l svs) (hm : ∃ a c, m = .slice a l.length c) (hl : l.length ≤ 4611686018427387904) (hset : ∀ b ∈ l, b.set.length ≤ 4611686018427387904)
    (hR : ∀ W', WBlks B E W' m l svs → Mod (fun b => B ≤ b ∧ b < E) W W' → Rest W') :
    LoopK [.int .i64 0] (fun vs_5 again_2 w22 => ∀ _ : Env, ltK .i64 (nth vs_5 0) (.int .i64 l.length) fun t130 => condK t130
    (ixK 2 m (nth vs_5 0) fun t134 => faK 1 t134 fun t135 => ld1K t135 (fun t136 w23 =>
      lenK t136 fun t137 => LoopK [(.int .i64 0)] (fun vs_6 again_3 w24 => ∀ _ : Env, ltK .i64 (nth vs_6 0) t137 fun t139 => condK t139
        (ixK 2 m (nth vs_5 0) fun t143 => faK 1 t143 fun t144 => ld1K t144 (fun t145 w25 => ixK 5 t145 (nth vs_6 0) fun t147 => faK 0 t147 fun t148 => st1K t148 (.int .i64 (-4)) (fun w26 => addK .i64 (nth vs_6 0) (.int .i64 1) fun t149 => again_3 [t149] w26) w25) w24)
        (ixK 2 m (nth vs_5 0) fun t152 => faK 0 t152 fun t153 => st1K t153 (.int .i64 (-1)) (fun w27 => addK .i64 (nth vs_5 0) (.int .i64 1) fun t154 => again_2 [t154] w27) w24)) w23) w22)
    (Rest w22)) W := by
  obtain ⟨a, c, rfl⟩ := hm
  refine LoopK_i (fun vs w1 => ∃ k : Nat, k ≤ l.length ∧ vs = [.int .i64 k] ∧ WBlks B E w1 (.slice a l.length c) l svs ∧ Mod (fun b => B ≤ b ∧ b < E) W w1) (fun vs _ => l.length - iOf vs 0) ⟨0, Nat.zero_le _, rfl, hw, Mod.refl _ _⟩ ?_
  rintro vs w1 ⟨k, hk, rfl, hw1, hm1⟩ _
  simp only [KS]
  by_cases hlt : k < l.length
  · rw [if_pos (show (k : Int) < l.length by omega)]
    obtain ⟨g, c', q, sc, e1, g1, g2, h3, h4, h5, h6⟩ := hw1 k hlt
    cases e1
    refine ixK_n hlt ?_
    simp only [KS]
    rw [addr0]
    refine ld1K_i h3 ?_
    rw [h5]
    simp only [KS]
    have hsl := hset l[k] (by simp)
    refine LoopK_i (fun vs w2 => ∃ n : Nat, n ≤ l[k].set.length ∧ vs = [.int .i64 n] ∧ WBlks B E w2 (.slice (some ⟨g, 0, none⟩) l.length c) l svs ∧ Mod (fun b => B ≤ b ∧ b < E) W w2) (fun vs _ => l[k].set.length - iOf vs 0) ⟨0, Nat.zero_le _, rfl, hw1, hm1⟩ ?_
    rintro vs w2 ⟨n, hn, rfl, hw2, hm2⟩ _
    simp only [KS]
    obtain ⟨g_, c'', q', sc', e1, _, _, h3', h4', h5', h6'⟩ := hw2 k hlt
    cases e1
    rw [h5] at h5'
    cases h5'
    by_cases hlt2 : n < l[k].set.length
    · rw [if_pos (show (n : Int) < l[k].set.length by omega)]
      obtain ⟨g', rfl, hne, b1, b2, lv⟩ := h6' n hlt2
      refine ixK_n hlt ?_
      simp only [KS]
      rw [addr0]
      refine ld1K_i h3' ?_
      rw [h5]
      refine ixK_n hlt2 ?_
      simp only [KS]
      rw [addr0, Nat.add_zero]
      refine lv.st rfl rfl ⟨⟨n + 1, by omega, by rw [wrap64 (by omega) (by omega)]; rfl, hw2.set _ _ ?_, hm2.trans (Mod.setCell _ _ _ ⟨b1, b2⟩)⟩, ?_⟩
      · rintro g0 c0 i0 e0 e2
        cases e0
        simp only [Addr.mk.injEq] at e2
        exact hne e2.1
      · simp only [iOf, nth, List.headD_cons]; rw [wrap64 (by omega) (by omega)]; omega
    · rw [if_neg (show ¬ (n : Int) < l[k].set.length by omega)]
      refine ixK_n hlt ?_
      simp only [KS]
      rw [addr0, Nat.add_zero]
      refine h4'.st rfl rfl ⟨⟨k + 1, by omega, by rw [wrap64 (by omega) (by omega)]; rfl, hw2.set _ _ ?_, hm2.trans (Mod.setCell _ _ _ ⟨g1, g2⟩)⟩, ?_⟩
      · rintro g0 c0 i0 e0 e2
        cases e0
        simp only [Addr.mk.injEq] at e2
        omega
      · simp only [iOf, nth, List.headD_cons]; rw [wrap64 (by omega) (by omega)]; omega
  · rw [if_neg (show ¬ (k : Int) < l.length by omega)]
    exact hR w1 hw1 hm1
open Classical in
theorem BlocksRows_ok {S D : Nat → Prop} {w : World} {a : Value} {l : List Blk} {i j : Int} (ha : RBlks S D w a l) (wi : (Lit.int .i64 i).wf = true) (wj : (Lit.int .i64 j).wf = true) (hsz : ∀ b ∈ l, b.set.length * 48 ≤ 140737488355328) :
    callK Try.prog 7 [a, .int .i64 i, .int .i64 j] (fun v w' => v = .bool true ∧ Grow w w') w := by
  apply S7_ok
  unfold S7
  have kn : ∀ {w1}, Grow w w1 → callK Try.prog 14 [] (fun v w' => v = .bool true ∧ Grow w w') w1 := fun hg => callK_mono known_ok fun v w' ⟨e, h⟩ => ⟨e, hg.trans h⟩
  refine callK_mono (tame_ok ha) ?_
  rintro v1 w1 ⟨rfl, g1⟩
  simp only [KS]
  by_cases tl : TameB l
  · rw [if_neg (fun h => h tl)]
    have hl200 := tl.1
    have sl := tl.sets
    have hnn := tl.nn
    have hle := tl.le
    have hbg := tl.big
    have wi' : -9223372036854775808 ≤ i ∧ i ≤ 9223372036854775807 := by
      have h := wi
      simp [Lit.wf] at h
      exact h
    refine callK_mono (rcopy_blk (ha.grow g1) (by omega) hsz) ?_
    rintro v2 w2 ⟨o2, g2⟩
    have g02 := g1.trans g2
    have r2 := OBlks.reads o2
    refine callK_mono (join_blk r2 (by omega) hsz) ?_
    rintro v3 w3 ⟨o3, g3⟩
    refine callK_mono (cut_blk (r2.grow g3) (by omega) hsz) ?_
    rintro v4 w4 ⟨o4, g4⟩
    have g04 := (g02.trans g3).trans g4
    refine callK_mono (rjoin_blk (ha.grow g04) (by omega) hsz) ?_
    rintro v5 w5 ⟨o5, g5⟩
    refine callK_mono (rcut_blk (ha.grow (g04.trans g5)) (by omega) hsz) ?_
    rintro v6 w6 ⟨o6, g6⟩
    have g46 := g5.trans g6
    have g36 := g4.trans g46
    have g26 := g3.trans g36
    have g06 := g02.trans g26
    obtain ⟨jpl, jnn⟩ := joinB_pl hle
    have jpr := joinB_prop hle
    obtain ⟨c1, c2⟩ := cutB_pl hnn hle i j
    obtain ⟨c3, c4⟩ := rcutB_pl hnn hle i j wi'.2
    have ecut : cutB l i j = rcutB l i j := uniq _ _ c2 c4 (by rw [c1, c3])
    have clen := cutB_len (l := l) (i := i) (j := j)
    have cset := cutB_sets (i := i) (j := j) sl
    have jlen := joinB_len l
    have jset := joinB_sets sl
    refine JoinK_i (fun vs w1 => Grow w6 w1) ?_ ?_
    · rintro vs w7 g7 _
      refine callK_mono (at_blk (r2.grow (g26.trans g7)) hsz) ?_
      rintro v8 w8 ⟨g8, hat⟩
      have g68 := g7.trans g8
      have g08 := g06.trans g68
      -- what stands there, in both cases
      have key : ∃ (sv : Value) (ok : Bool) (one : List Blk) (set : List Attr), v8 = .tuple #[sv, .bool ok] ∧ OSet w7.heap.size w8 sv set ∧ ((ok = true ∧ one = [⟨1, set⟩]) ∨ (ok = false ∧ one = [] ∧ set = [] ∧ sv = .slice none 0 0)) ∧
          (i = 9223372036854775807 → one = []) ∧ (i ≠ 9223372036854775807 → rcutB l i (IntKind.i64.wrap (i + 1)) = one) := by
        have pb : (pl l).length ≤ 4611686018427387904 := hle
        rcases hat with ⟨sv, k, hk, hh, _, rfl, ho⟩ | ⟨hno, rfl⟩
        · obtain ⟨h0, hp⟩ := hit_pl hnn hle hk hh
          have hlt : i.toNat < (pl l).length := (List.getElem?_eq_some_iff.1 hp).1
          refine ⟨sv, true, _, _, rfl, ho, .inl ⟨rfl, rfl⟩, fun e => by omega, fun _ => ?_⟩
          rw [wrap64 (by omega) (by omega)]
          obtain ⟨d1, d2⟩ := rcutB_pl hnn hle i (i + 1) wi'.2
          refine prop_one d2 ?_
          rw [d1, show (i + 1).toNat = i.toNat + 1 by omega, List.take_add_one, hp]
          rw [List.drop_append_of_le_length (by simp; omega), List.drop_of_length_le (by simp; omega)]
          rfl
        · have hout : ¬ (0 ≤ i ∧ i < (pl l).length) := by
            rintro ⟨h0, h1⟩
            obtain ⟨k, hk, hh⟩ := hit_ex hnn hle h0 h1
            exact hno k hk hh
          refine ⟨_, false, [], [], rfl, OwnR.nil, .inr ⟨rfl, rfl, rfl, rfl⟩, fun _ => rfl, fun hne => ?_⟩
          rw [wrap64 (by omega) (by omega)]
          obtain ⟨d1, d2⟩ := rcutB_pl hnn hle i (i + 1) wi'.2
          refine prop_nil d2 ?_
          rw [d1]
          refine List.eq_nil_of_length_eq_zero ?_
          simp only [List.length_drop, List.length_take]
          omega
      obtain ⟨sv, ok, one, set, rfl, osv, hok, hi1, hi2⟩ := key
      refine extK_i (vs := [sv, .bool ok]) (by rfl) ?_
      refine extK_i (vs := [sv, .bool ok]) (by rfl) ?_
      simp only [KS]
      refine callK_mono (rcut_blk (ha.grow g08) (by omega) hsz) ?_
      rintro v9 w9 ⟨o9, g9⟩
      refine JoinK_i (fun vs W => ∃ m9 : Value, vs = [m9] ∧ OBlks w8.heap.size W m9 one ∧ Grow w8 W) ?_ ?_
      · rintro vs w10 ⟨m9, rfl, o10, g10⟩ _
        refine JoinK_i (fun vs W => Grow w8 W) ?_ ?_
        · rintro vs w11 g11 _
          have osv11 : OSet w7.heap.size w11 sv set := OSet.mod osv g11 fun _ _ _ h => h
          obtain ⟨qa, qc, rfl, qlc, qcm, qp, qn⟩ := OwnR.shape osv11
          simp only [KS]
          have slen : set.length ≤ 4611686018427387904 := by
            rcases hok with ⟨_, e⟩ | ⟨_, _, e, _⟩
            · by_cases hi : i = 9223372036854775807
              · have := hi1 hi; rw [e] at this; cases this
              · have h9 := hi2 hi
                rw [e] at h9
                have hs9 : ∀ b ∈ rcutB l i (IntKind.i64.wrap (i + 1)), b.set.length ≤ 30 := by
                  intro b hb
                  unfold rcutB at hb
                  split at hb
                  · have key : ∀ (i j : Int) k, ∀ b ∈ cutT l i j k, b.set.length ≤ 30 := by
                      intro i j k
                      induction k with
                      | zero => intro b hb; simp [cutT] at hb
                      | succ k ih =>
                        intro b hb
                        simp only [cutT] at hb
                        split at hb
                        · rename_i c hc
                          rcases addB_sets b hb with e | ⟨d, hd, e⟩
                          · rw [e]; exact sl c (List.mem_of_getElem? hc)
                          · rw [e]; exact ih d hd
                        · exact ih b hb
                    exact key _ _ _ b hb
                  · simp at hb
                rw [h9] at hs9
                have := hs9 ⟨1, set⟩ (by simp)
                simp only at this
                omega
            · rw [e]; simp
          have n7 := g7.size
          have n8 := g8.size
          refine wr_loop (n := set.length) (M := fun _ => True) (fun W => Mod (fun b => w7.heap.size ≤ b) w11 W ∧ ∀ i, i < set.length → ∃ g, qa = some ⟨g, 0, none⟩ ∧ w7.heap.size ≤ g ∧ Live W ⟨g, i * 5 + 0, none⟩) rfl rfl (by omega) ⟨Mod.refl _ _, fun i hi => ?_⟩ ?_ ?_
          · obtain ⟨g, rfl, _, hl'⟩ := OwnR.live osv11 hi (show 0 < 5 by decide)
            rw [addr0] at hl'
            obtain ⟨g', e, h1, _⟩ := qp _ rfl
            cases e
            exact ⟨g, rfl, h1, hl'⟩
          · rintro W ⟨m1, lv⟩ i hi
            obtain ⟨g, rfl, hg, hl'⟩ := lv i hi
            refine ⟨_, _, rfl, by rw [addr0]; exact hl', m1.trans (Mod.setCell _ _ _ (by rw [add_block]; exact hg)), fun i' hi' => ?_⟩
            obtain ⟨g', e, hg', hl''⟩ := lv i' hi'
            cases e
            exact ⟨g, rfl, hg, hl''.set _ _⟩
          · rintro w12 ⟨m12, _⟩
            have m612 : Mod (fun b => w6.heap.size ≤ b) w6 w12 := (Grow.mod (g68.trans g11)).trans (m12.mono fun b _ h => by omega)
            have z3 := g3.size
            have z4 := g4.size
            have z46 := g46.size
            have n26 := g26.size
            obtain ⟨s3, wb3⟩ := o3.wr
            obtain ⟨s4, wb4⟩ := o4.wr
            have wb3' : WBlks w2.heap.size w3.heap.size w12 v3 (joinB l) s3 := (wb3.mod g36 fun _ _ _ h => h).mod m612 fun b _ _ h => by omega
            have wb4' : WBlks w3.heap.size w4.heap.size w12 v4 (cutB l i j) s4 := (wb4.mod g46 fun _ _ _ h => h).mod m612 fun b _ _ h => by omega
            obtain ⟨a3, c3', e3, _⟩ := OwnR.shape o3
            obtain ⟨a4, c4', e4, _⟩ := OwnR.shape o4
            refine runK_i (v := .agg #[v3, v4]) (w' := w12) (by subst e3; subst e4; kernel_rfl) ?_
            refine LoopK_i (fun vs W => ∃ k : Nat, k ≤ 2 ∧ vs = [.int .i64 k] ∧ WBlks w2.heap.size w3.heap.size W v3 (joinB l) s3 ∧ WBlks w3.heap.size w4.heap.size W v4 (cutB l i j) s4 ∧ Mod (fun b => w2.heap.size ≤ b) w12 W) (fun vs _ => 2 - iOf vs 0) ⟨0, by omega, rfl, wb3', wb4', Mod.refl _ _⟩ ?_
            rintro vs w13 ⟨k, hk, rfl, x3, x4, m13⟩ _
            simp only [KS]
            by_cases hlt : k < 2
            · rw [if_pos (show (k : Int) < 2 by omega)]
              have hk2 : k = 0 ∨ k = 1 := by omega
              rcases hk2 with rfl | rfl
              · refine runK_i (v := v3) (w' := w13) (by subst e3; subst e4; kernel_rfl) ?_
                rw [e3]
                simp only [KS]
                rw [← e3]
                refine wr_blks x3 ⟨_, _, e3⟩ (by omega) (fun b hb => by have := jset b hb; omega) fun w14 y3 m14 => ?_
                refine ⟨⟨1, by omega, by rw [wrap64 (by omega) (by omega)]; rfl, y3, x4.mod m14 fun b h1 _ h2 => by omega, m13.trans (m14.mono fun b _ h => h.1)⟩, ?_⟩
                simp only [iOf, nth, List.headD_cons]; rw [wrap64 (by omega) (by omega)]; omega
              · refine runK_i (v := v4) (w' := w13) (by subst e3; subst e4; kernel_rfl) ?_
                rw [e4]
                simp only [KS]
                rw [← e4]
                refine wr_blks x4 ⟨_, _, e4⟩ (by omega) (fun b hb => by have := cset b hb; omega) fun w14 y4 m14 => ?_
                refine ⟨⟨2, by omega, by rw [wrap64 (by omega) (by omega)]; rfl, x3.mod m14 fun b h1 _ h2 => by omega, y4, m13.trans (m14.mono fun b _ h => by omega)⟩, ?_⟩
                simp only [iOf, nth, List.headD_cons]; rw [wrap64 (by omega) (by omega)]; omega
            · rw [if_neg (show ¬ (k : Int) < 2 by omega)]
              have m213 : Mod (fun b => w2.heap.size ≤ b) w2 w13 := ((Grow.mod g26).trans (m612.mono fun b _ h => by omega)).trans m13
              have g013 : Grow w w13 := g02.next m213 fun b hb h => by have := g02.size; omega
              refine callK_mono (rsame_blk (r2.mod m213 (fun b _ h1 h2 => by omega) fun b _ h1 h2 => by omega) (ha.grow g013)) ?_
              rintro v14 w14 ⟨rfl, g14⟩
              rw [decide_eq_true rfl]
              simp only [KS]
              exact kn (g013.trans g14)
        · obtain ⟨ma, mc, rfl, _⟩ := OwnR.shape o10
          rcases hok with ⟨rfl, rfl⟩ | ⟨rfl, rfl, rfl, rfl⟩
          · obtain ⟨p, r, rfl, hS, hr, hcl, sv9, rfl, ho9, _⟩ := (OwnR.sl o10).get (i := 0) (by simp)
            simp only [KS, List.length_singleton]
            rw [if_neg (by decide)]
            refine ixK_n (j := 0) (by decide) ?_
            rw [faK_i, Addr.add_add]
            refine ld1K_i (hcl 1 _ rfl) ?_
            refine callK_mono (rsame_set (SlR.sub (OwnR.sl (OSet.mod osv g10 fun _ _ _ h => h)) (S' := fun _ => True) (fun _ _ _ => trivial) (by decide) fun _ _ h => h) (SlR.sub (OwnR.sl ho9) (S' := fun _ => True) (fun _ _ _ => trivial) (by decide) fun _ _ h => h)) ?_
            rintro v11 w11 ⟨rfl, g11⟩
            have e2 : decide (set = ([(⟨1, set⟩ : Blk)])[0].set) = true := by simp
            rw [e2]
            simp only [KS]
            exact g10.trans g11
          · simp only [KS, List.length_nil]
            rw [if_neg (by decide), if_neg (by decide)]
            exact g10
      · by_cases hi : i = 9223372036854775807
        · simp only [KS]
          rw [if_pos hi]
          refine ⟨_, rfl, ?_, g9⟩
          rw [hi1 hi]; exact OwnR.nil
        · simp only [KS]
          rw [if_neg hi]
          refine ⟨_, rfl, ?_, g9⟩
          rw [← hi2 hi]; exact o9
    · refine callK_mono (rsame_blk ((OBlks.reads o3).grow g36) ((OBlks.reads o5).grow g6)) ?_
      rintro v7 w7 ⟨rfl, g7⟩
      rw [decide_eq_true rfl]
      simp only [KS]
      refine callK_mono (rsame_blk ((OBlks.reads o4).grow (g46.trans g7)) ((OBlks.reads o6).grow g7)) ?_
      rintro v8 w8 ⟨rfl, g8⟩
      rw [decide_eq_true ecut]
      simp only [KS]
      have g68 := g7.trans g8
      refine callK_mono (proper_blk (r2.grow (g26.trans g68))) ?_
      rintro v9 w9 ⟨rfl, g9⟩
      refine callK_mono (rproper_blk (ha.grow ((g06.trans g68).trans g9)) (by omega) hsz) ?_
      rintro v10 w10 ⟨rfl, g10⟩
      have ep : decide (ProperB l) = decide (joinB l = l) := by
        rw [decide_eq_decide]
        constructor
        · intro h; exact uniq _ _ jpr ((propL_iff _).1 h) jpl
        · intro h; rw [← h]; exact (propL_iff _).2 jpr
      rw [ep]
      simp only [KS]
      have g610 := (g68.trans g9).trans g10
      rw [if_neg (by simp)]
      refine callK_mono (len_blk (r2.grow (g26.trans g610))) ?_
      rintro v11 w11 ⟨rfl, g11⟩
      refine callK_mono (rlen_blk (ha.grow ((g06.trans g610).trans g11))) ?_
      rintro v12 w12 ⟨rfl, g12⟩
      simp only [KS]
      rw [if_neg (by simp)]
      exact (g610.trans g11).trans g12
  · rw [if_pos tl]
    have unt : ∀ K : Cont, (∀ w', Grow w w' → callK Try.prog 14 [] K w') → callK Try.prog 23 [a] (fun _ w2 => callK Try.prog 20 [a, .int .i64 i] (fun _ w3 => callK Try.prog 19 [a] (fun _ w4 => callK Try.prog 14 [] K w4) w3) w2) w1 := by
      intro K hK
      refine callK_mono (proper_blk (ha.grow g1)) ?_
      rintro v2 w2 ⟨_, g2⟩
      have g02 := g1.trans g2
      refine callK_mono (at_blk (ha.grow g02) hsz) ?_
      rintro v3 w3 ⟨g3, _⟩
      have g03 := g02.trans g3
      refine callK_mono (len_blk (ha.grow g03)) ?_
      rintro v4 w4 ⟨_, g4⟩
      exact hK _ (g03.trans g4)
    obtain ⟨pa, pc, rfl, _⟩ := ha.shape
    rw [lenK_i]
    exact ltK_ab (unt _ fun w' g => kn g) (kn g1)
end Go.Proofs.Ytmfplfaeibehiaa
