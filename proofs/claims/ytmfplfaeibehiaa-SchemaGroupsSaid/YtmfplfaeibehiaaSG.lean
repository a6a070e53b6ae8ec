/- What is known of schemas; the law SchemaGroups: it answers true, and leaves all memory as it was. No conditions. -/
import Derived.Test.YtmfplfaeibehiaaSF
namespace Go.Proofs.Ytmfplfaeibehiaa
open Go Go.K

theorem eqIn_key (a b : DKey) (w : World) : (Op.equalIn 10000 72 (.agg a.cells.toArray) (.agg b.cells.toArray)).run Try.prog w = .ok (decide (a = b)) w := by
  have hS : Try.prog.underlying 72 = some (.struct (Try.prog.fieldsOf 72)) := by kernel_rfl
  rw [show (10000 : Nat) = 9999 + 1 from rfl, run_equalIn_agg w 9999 _ _ _ hS Try.stoodInHeld72]
  simp only [Program.fieldsOf, Try.underlying72, DKey.cells]
  have a1 := Try.isAgg3
  have a2 := Try.isAgg4
  have a3 := Try.isAgg5
  have e1 : ∀ a b : Int, (Op.equalIn 9999 3 (.int .i64 a) (.int .i64 b)).run Try.prog w = .ok (a == b) w := fun a b => run_equalIn_int w 9998 _ _ _ a b Try.underlying3
  have e2 : ∀ a b : Bool, (Op.equalIn 9999 4 (.bool a) (.bool b)).run Try.prog w = .ok (a == b) w := fun a b => run_equalIn_bool w 9998 _ a b Try.underlying4
  have e3 : ∀ a b : Int, (Op.equalIn 9999 5 (.int .u8 a) (.int .u8 b)).run Try.prog w = .ok (a == b) w := fun a b => run_equalIn_int w 9998 _ _ _ a b Try.underlying5
  have q : decide (a = b) = (a.id == b.id && (a.block == b.block && (a.kind == b.kind && (a.after == b.after && (a.before == b.before && a.group == b.group))))) := by
    cases a; cases b
    rw [Bool.eq_iff_iff]
    simp [DKey.mk.injEq]
  rw [q]
  simp [Op.eqFields, part, a1, a2, a3, e1, e2, e3]
  by_cases h1 : a.id = b.id <;> by_cases h2 : a.block = b.block <;> by_cases h3 : a.kind = b.kind <;> by_cases h4 : a.after = b.after <;> by_cases h5 : a.before = b.before <;> by_cases h6 : a.group = b.group <;> simp [h1, h2, h3, h4, h5, h6]
theorem run_ne_key (xo yo : Operand) (a b : DKey) (w : World) :
    (binS .neq 72 xo yo (.agg a.cells.toArray) (.agg b.cells.toArray)).run Try.prog w = .ok (.bool (!decide (a = b))) w := by
  simp only [binS, Sem.run_bind, run_eqGuard_agg w .neq _ xo yo _ _ Try.eqGuardType72, Result.andThen_ok]
  rw [run_neq_struct, eqIn_key]; rfl

theorem strict_uniq : ∀ {l l' : List DKey}, l.Perm l' → l.Pairwise (fun x y => x.id < y.id) → l'.Pairwise (fun x y => x.id < y.id) → l = l' := by
  intro l
  induction l with
  | nil => intro l' hp _ _; exact (List.nil_perm.1 hp).symm
  | cons x l ih =>
    intro l' hp h h'
    cases l' with
    | nil => exact absurd hp.length_eq (by simp)
    | cons y l' =>
      rw [List.pairwise_cons] at h h'
      have e : x = y := by
        have hx : x ∈ y :: l' := hp.mem_iff.1 List.mem_cons_self
        have hy : y ∈ x :: l := hp.mem_iff.2 List.mem_cons_self
        rcases List.mem_cons.1 hx with e | hx
        · exact e
        · rcases List.mem_cons.1 hy with e | hy
          · exact e.symm
          · have h1 := h.1 y hy
            have h2 := h'.1 x hx
            omega
      subst e
      rw [ih (List.perm_cons x |>.1 hp) h.2 h'.2]
theorem mayk_perm {L L' : List DKey} (hp : L.Perm L') : MayKeys L ↔ MayKeys L' := by
  rw [mayk_iff, mayk_iff, hp.length_eq]
  exact ⟨fun ⟨h1, h2, h3⟩ => ⟨h1, fun k hk => h2 k (hp.mem_iff.2 hk), h3.perm hp⟩, fun ⟨h1, h2, h3⟩ => ⟨h1, fun k hk => h2 k (hp.mem_iff.1 hk), h3.perm hp.symm⟩⟩
theorem strict_dist {L : List DKey} (h : L.Pairwise fun x y => x.id < y.id) : Dist L := List.Pairwise.imp (fun {x y} h => by omega) h
theorem mem_group {ks : List DKey} (hd : Dist ks) {a : DKey} (ha : a ∈ ks) (n : Int) : n ∈ groupK ks a.id ↔ a.group ≠ 0 ∧ ∃ o ∈ ks, o.group = a.group ∧ o.id ≠ a.id ∧ o.id = n := by
  unfold groupK
  rw [(findK_iff hd).2 ⟨ha, rfl⟩]
  simp only
  by_cases h0 : a.group = 0
  · simp [h0]
  · rw [if_neg h0]
    simp only [List.mem_map, List.mem_filter, decide_eq_true_eq, ne_eq, h0, not_false_eq_true, true_and]
    exact ⟨fun ⟨o, ⟨h1, h2, h3⟩, h4⟩ => ⟨o, h1, h2, h3, h4⟩, fun ⟨o, h1, h2, h3, h4⟩ => ⟨o, ⟨h1, h2, h3⟩, h4⟩⟩
theorem group_symm {ks : List DKey} (hd : Dist ks) {a b : DKey} (ha : a ∈ ks) (hb : b ∈ ks) : b.id ∈ groupK ks a.id ↔ a.id ∈ groupK ks b.id := by
  have one : ∀ {x y : DKey}, x ∈ ks → y ∈ ks → x.id = y.id → x = y := fun {x y} hx hy e => by
    have h1 := (findK_iff hd (id := y.id)).2 ⟨hx, e⟩
    have h2 := (findK_iff hd (id := y.id)).2 ⟨hy, rfl⟩
    rw [h1] at h2; exact Option.some.inj h2
  rw [mem_group hd ha, mem_group hd hb]
  constructor
  · rintro ⟨h1, o, ho, h2, h3, h4⟩
    have := one ho hb h4
    subst this
    exact ⟨by rw [h2]; exact h1, a, ha, h2.symm, fun e => h3 e.symm, rfl⟩
  · rintro ⟨h1, o, ho, h2, h3, h4⟩
    have := one ho ha h4
    subst this
    exact ⟨by rw [h2]; exact h1, b, hb, h2.symm, fun e => h3 e.symm, rfl⟩
theorem group_self {ks : List DKey} (hd : Dist ks) {a : DKey} (ha : a ∈ ks) : a.id ∉ groupK ks a.id := by
  rw [mem_group hd ha]
  rintro ⟨_, o, _, _, h3, h4⟩
  exact h3 h4
theorem group_len {ks : List DKey} {id : Int} : (groupK ks id).length ≤ ks.length := by
  unfold groupK
  split
  · simp
  · split
    · simp
    · rw [List.length_map]; exact List.length_filter_le _ _

def key04 : List DKey := [⟨9, true, 1, false, false, 1⟩, ⟨5, true, 2, false, false, 1⟩, ⟨7, true, 3, false, false, 1⟩, ⟨1, false, 4, false, false, 0⟩]
theorem sl_keys {w : World} (l : List DKey) (hl : l.length ≤ 1000) : RKeys (fun b => b = w.heap.size) (w.alloc (.cells (l.map DKey.cells).flatten.toArray 72)) (.slice (some ⟨w.heap.size, 0, none⟩) l.length l.length) l := by
  refine SlR.made (t := 72) (l.map DKey.cells) (fun r hr => by obtain ⟨x, _, rfl⟩ := List.mem_map.1 hr; rfl) (by simp) (by simp only [maxLen]; omega) fun i r x hr hx => ?_
  rw [List.getElem?_map, hx] at hr
  exact (Option.some.inj hr).symm
theorem known04_ok {w : World} : callK Try.prog 46 [] (fun v w' => v = .bool true ∧ Grow w w') w := by
  apply S46_ok
  unfold S46
  refine ⟨(⟨9, true, 1, false, false, 1⟩ : DKey).cells.toArray, by kernel_rfl, ⟨(⟨5, true, 2, false, false, 1⟩ : DKey).cells.toArray, by kernel_rfl, ⟨(⟨7, true, 3, false, false, 1⟩ : DKey).cells.toArray, by kernel_rfl, ⟨(⟨1, false, 4, false, false, 0⟩ : DKey).cells.toArray, by kernel_rfl, ?_⟩⟩⟩⟩
  refine rowK_i (cs := (key04.map DKey.cells).flatten) (by kernel_rfl) ?_
  have hK := sl_keys (w := w) key04 (by decide)
  have g1 : Grow w (w.alloc (.cells (key04.map DKey.cells).flatten.toArray 72)) := Mod.alloc _ _ _
  show callK Try.prog 47 [.slice (some ⟨w.heap.size, 0, none⟩) 4 4] _ _
  generalize w.alloc (.cells (key04.map DKey.cells).flatten.toArray 72) = w1 at hK g1 ⊢
  refine callK_mono (new_key_ok hK) ?_
  rintro _ w2 ⟨g2, hr⟩
  have hM : MayKeys key04 := mayk_iff.2 ⟨by decide, fun k hk => by
    simp only [key04, List.mem_cons, List.not_mem_nil, or_false] at hk
    rcases hk with rfl | rfl | rfl | rfl <;> (unfold KeyOK; decide), by unfold Dist; decide⟩
  rcases hr with ⟨_, sv, ks, rfl, hp, hs, hS⟩ | ⟨hn, _⟩
  rotate_left
  · exact (hn hM).elim
  have hks : ks = [⟨1, false, 4, false, false, 0⟩, ⟨5, true, 2, false, false, 1⟩, ⟨7, true, 3, false, false, 1⟩, ⟨9, true, 1, false, false, 1⟩] := strict_uniq (hp.trans (by decide)) hs (by decide)
  subst hks
  refine extK_i (vs := [_, _]) (by rfl) (extK_i (vs := [_, _]) (by rfl) ?_)
  refine callK_mono (sgroup_ok hS (by decide) 7) ?_
  rintro gv w3 ⟨og, g3⟩
  have eg : groupK [⟨1, false, 4, false, false, 0⟩, ⟨5, true, 2, false, false, 1⟩, ⟨7, true, 3, false, false, 1⟩, ⟨9, true, 1, false, false, 1⟩] 7 = [5, 9] := by decide
  rw [eg] at og
  refine ⟨(⟨3, false, 1, false, false, 0⟩ : DKey).cells.toArray, by kernel_rfl, ⟨(⟨3, false, 1, false, false, 0⟩ : DKey).cells.toArray, by kernel_rfl, ?_⟩⟩
  refine rowK_i (cs := (([⟨3, false, 1, false, false, 0⟩, ⟨3, false, 1, false, false, 0⟩] : List DKey).map DKey.cells).flatten) (by kernel_rfl) ?_
  have hK2 := sl_keys (w := w3) [⟨3, false, 1, false, false, 0⟩, ⟨3, false, 1, false, false, 0⟩] (by decide)
  have g4 : Grow w3 (w3.alloc (.cells (([⟨3, false, 1, false, false, 0⟩, ⟨3, false, 1, false, false, 0⟩] : List DKey).map DKey.cells).flatten.toArray 72)) := Mod.alloc _ _ _
  show callK Try.prog 47 [.slice (some ⟨w3.heap.size, 0, none⟩) 2 2] _ _
  generalize w3.alloc (.cells (([⟨3, false, 1, false, false, 0⟩, ⟨3, false, 1, false, false, 0⟩] : List DKey).map DKey.cells).flatten.toArray 72) = w4 at hK2 g4 ⊢
  refine callK_mono (new_key_ok hK2) ?_
  rintro _ w5 ⟨g5, hr2⟩
  rcases hr2 with ⟨hM2, _⟩ | ⟨_, rfl⟩
  · exact absurd (mayk_iff.1 hM2).2.2 (by unfold Dist; decide)
  refine extK_i (vs := [_, _]) (by rfl) (extK_i (vs := [_, _]) (by rfl) ?_)
  have g35 := g4.trans g5
  have g05 := ((g1.trans g2).trans g3).trans g35
  rw [eqK_i, decide_eq_true rfl]
  refine condK_t ?_
  have hg := (OwnR.sl (OwnR.mod (R' := RNum) og g35 (fun _ _ h => h) fun _ _ _ h => h))
  obtain ⟨ga, gc, rfl, _⟩ := hg.shape
  rw [lenK_i, eqK_i]
  refine condK_p (fun _ => ?_) fun hne => (hne rfl).elim
  obtain ⟨p, r, rfl, _, _, hc, rfl⟩ := hg.get (i := 0) (by decide)
  obtain ⟨p', r', e, _, _, hc', rfl⟩ := hg.get (i := 1) (by decide)
  cases e
  refine ixK_n (j := 0) (by decide) (ld1K_i (hc 0 _ rfl) ?_)
  rw [eqK_i]
  refine condK_p (fun _ => ?_) fun hne => (hne rfl).elim
  refine ixK_n (j := 1) (by decide) (ld1K_i (hc' 0 _ rfl) ?_)
  rw [eqK_i]
  refine condK_p (fun _ => ?_) fun hne => (hne rfl).elim
  rw [eqK_i, decide_eq_true rfl]
  refine condK_t ?_
  refine callK_mono (slen_ok (hS.grow (g3.trans g35))) ?_
  rintro _ _ ⟨rfl, rfl⟩
  rw [eqK_i]
  exact ⟨rfl, g05⟩

theorem SchemaGroups_ok {S : Nat → Prop} {kv : Value} {keys : List DKey} {w : World} (h : RKeys S w kv keys) :
    callK Try.prog 13 [kv] (fun v w' => v = .bool true ∧ Grow w w') w := by
  apply S13_ok
  unfold S13
  have kn : ∀ {w1 : World}, Grow w w1 → callK Try.prog 46 [] (fun v w' => v = .bool true ∧ Grow w w') w1 := fun g => callK_mono known04_ok fun _ _ h => ⟨h.1, g.trans h.2⟩
  obtain ⟨a, c, rfl, hmx⟩ := h.shape
  simp only [maxLen] at hmx
  rw [lenK_i, gtK_i]
  refine condK_p (fun _ => kn (Mod.refl _ _)) fun h64 => ?_
  rw [lenK_i]
  refine LoopK_i (fun vs W => ∃ (i : Nat) (bv : Value), i ≤ keys.length ∧ vs = [bv, .int .i64 i] ∧ OwnR w.heap.size 72 6 RKey W bv (keys.reverse.take i) ∧ Grow w W) (fun vs _ => keys.length - iOf vs 1) ⟨0, _, Nat.zero_le _, rfl, OwnR.nil, Mod.refl _ _⟩ ?_
  rintro vs W ⟨i, bv, hi, rfl, ob, gW⟩ _
  show ltK .i64 (.int .i64 i) _ _
  rw [ltK_i]
  refine condK_p (fun hlt => ?_) fun hge => ?_
  · have hlt' : i < keys.length := by omega
    rw [lenK_i, subK_i, wrap64 (by omega) (by omega)]
    show subK .i64 (.int .i64 ((keys.length : Int) - 1)) (.int .i64 i) _
    rw [subK_i, wrap64 (by omega) (by omega)]
    have ej : ((keys.length : Int) - 1 - i) = ((keys.length - 1 - i : Nat) : Int) := by omega
    rw [ej]
    have hj : keys.length - 1 - i < keys.length := by omega
    obtain ⟨p, r, rfl, _, hr, hc, rfl⟩ := (h.grow gW (by decide) fun _ _ h => h).get hj
    refine ixK_n hj (ldnK_i hr (fun j u hu => by rw [Addr.add_add]; exact hc j u hu) ?_)
    have hlen : (keys.reverse.take i).length = i := by simp; omega
    refine push_n (w0 := w) elem_key ob gW (cs := keys[keys.length - 1 - i].cells) (x := keys[keys.length - 1 - i]) (by kernel_rfl) rfl rfl (fun _ _ _ => RKey.one) (fun _ _ _ _ _ _ h => h) (by omega) (by simp only [maxLen]; omega) fun v' w' o' g' => ?_
    show addK .i64 (.int .i64 i) _ _
    rw [addK_i, loop_step (by omega)]
    refine ⟨⟨i + 1, v', hlt', rfl, ?_, g'⟩, by rw [iOf1, iOf1]; omega⟩
    have : keys.reverse.take (i + 1) = keys.reverse.take i ++ [keys[keys.length - 1 - i]] := by
      rw [List.take_add_one, List.getElem?_eq_getElem (by simpa using hlt'), List.getElem_reverse]; rfl
    rw [this]; exact o'
  · have : i = keys.length := by omega
    subst this
    rw [show keys.reverse.take keys.length = keys.reverse from List.take_of_length_le (by simp)] at ob
    have hp : keys.reverse.Perm keys := List.reverse_perm keys
    refine callK_mono (new_key_ok (h.grow gW (by decide) fun _ _ h => h)) ?_
    rintro _ W1 ⟨g1, hr1⟩
    have gW1 := gW.trans g1
    have second := new_key_ok (OwnR.sl (OwnR.mod (R' := RKey) ob g1 (fun _ _ h => h) fun _ _ _ h => h))
    rcases hr1 with ⟨hM, sv, ks, rfl, hp1, hs1, hS1⟩ | ⟨hn, rfl⟩
    rotate_left
    · refine extK_i (vs := [_, _]) (by rfl) (extK_i (vs := [_, _]) (by rfl) ?_)
      refine callK_mono second ?_
      rintro _ W2 ⟨g2, hr2⟩
      rcases hr2 with ⟨hM2, _⟩ | ⟨_, rfl⟩
      · exact (hn ((mayk_perm hp).1 hM2)).elim
      refine extK_i (vs := [_, _]) (by rfl) (extK_i (vs := [_, _]) (by rfl) ?_)
      rw [neK_i]
      refine condK_neg (fun _ => ?_) fun hne => (hne rfl).elim
      rw [neK_i]
      exact condK_neg (fun e => by cases e) fun _ => kn (gW1.trans g2)
    · refine extK_i (vs := [_, _]) (by rfl) (extK_i (vs := [_, _]) (by rfl) ?_)
      refine callK_mono second ?_
      rintro _ W2 ⟨g2, hr2⟩
      rcases hr2 with ⟨_, tv, ks2, rfl, hp2, hs2, hS2⟩ | ⟨hn, _⟩
      rotate_left
      · exact (hn ((mayk_perm hp).2 hM)).elim
      have e2 : ks2 = ks := strict_uniq (hp2.trans (hp.trans hp1.symm)) hs2 hs1
      subst e2
      have gW2 := gW1.trans g2
      refine extK_i (vs := [_, _]) (by rfl) (extK_i (vs := [_, _]) (by rfl) ?_)
      rw [neK_i]
      refine condK_neg (fun _ => ?_) fun hne => (hne rfl).elim
      rw [neK_i]
      refine condK_neg (fun _ => ?_) fun hne => (hne rfl).elim
      have hkl : ks2.length = keys.length := hp1.length_eq
      refine callK_mono (skeys_ok (hS1.grow g2) (by omega)) ?_
      rintro lv W3 ⟨o3, g3⟩
      refine callK_mono (skeys_ok (hS2.grow g3) (by omega)) ?_
      rintro mv W4 ⟨o4, g4⟩
      have gW4 := (gW2.trans g3).trans g4
      have hl := OwnR.sl (OwnR.mod (R' := RKey) o3 g4 (fun _ _ h => h) fun _ _ _ h => h)
      have hm := OwnR.sl o4
      have hS := (hS1.grow g2).grow (g3.trans g4)
      have hd := strict_dist hs1
      clear o3 o4 ob second
      obtain ⟨la, lc, rfl, _⟩ := hl.shape
      obtain ⟨ma, mc, rfl, _⟩ := hm.shape
      rw [List.pairwise_iff_getElem] at hs1
      refine JoinK_i (fun _ W5 => W5 = W4) ?_ ?_
      · rintro _ _ rfl _
        rename World => W4
        rw [lenK_i]
        refine LoopK_i (fun vs W5 => ∃ i : Nat, i ≤ ks2.length ∧ vs = [.int .i64 i] ∧ Grow W4 W5) (fun vs _ => ks2.length - iOf vs 0) ⟨0, Nat.zero_le _, rfl, Mod.refl _ _⟩ ?_
        rintro vs W5 ⟨i, hi, rfl, g5⟩ _
        rw [nth_z, List.headD_cons, ltK_i]
        refine condK_p (fun hlt => ?_) fun hge => kn (gW4.trans g5)
        have hlt' : i < ks2.length := by omega
        obtain ⟨p, r, rfl, _, hr, hc, rfl⟩ := hl.get hlt'
        obtain ⟨p', r', rfl, _, hr', hc', rfl⟩ := hm.get hlt'
        refine JoinK_i (fun _ W6 => Grow W4 W6) ?_ ?_
        · rintro _ W6 g6 _
          rw [lenK_i]
          refine LoopK_i (fun vs W7 => ∃ k : Nat, k ≤ ks2.length ∧ vs = [.int .i64 k] ∧ Grow W4 W7) (fun vs _ => ks2.length - iOf vs 0) ⟨0, Nat.zero_le _, rfl, g6⟩ ?_
          rintro vs W7 ⟨k, hk, rfl, g7⟩ _
          rw [nth_z, List.headD_cons, ltK_i]
          refine condK_p (fun hkl' => ?_) fun hkg => ?_
          · have hk' : k < ks2.length := by omega
            obtain ⟨_, r2, e, _, hr2, hc2, rfl⟩ := hl.get hk'
            cases e
            refine drawC_i (fun _ _ => False) ?_
            have g7d : Grow W4 W7.drew := g7.trans (Mod.drew _ _)
            have mi : ks2[i] ∈ ks2 := List.getElem_mem hlt'
            have mk : ks2[k] ∈ ks2 := List.getElem_mem hk'
            have ci := g7d.cell (hc 0 _ rfl) fun h => h
            have ck := g7d.cell (hc2 0 _ rfl) fun h => h
            refine ixK_n hlt' ?_
            rw [faK_i, Addr.add_add]
            refine sld1_i ⟨ci, fun _ _ h => h⟩ ?_
            refine callK_mono (sgroup_ok (hS.grow g7d) (by omega) _) ?_
            rintro v8 W8 ⟨o8, g8⟩
            refine ⟨g8, ?_⟩
            refine ixK_n hk' ?_
            rw [faK_i, Addr.add_add]
            refine sld1_i ⟨ck, fun _ _ h => h⟩ ?_
            refine callK_mono (has_ok (OwnR.sl o8)) ?_
            rintro _ _ ⟨rfl, rfl⟩
            refine ⟨Mod.refl _ _, ?_⟩
            rename World => W8
            refine ixK_n hk' ?_
            rw [faK_i, Addr.add_add]
            refine sld1_i ⟨ck, fun _ _ h => h⟩ ?_
            refine callK_mono (sgroup_ok (hS.grow (g7d.trans g8)) (by omega) _) ?_
            rintro v9 W9 ⟨o9, g9⟩
            refine ⟨g9, ?_⟩
            refine ixK_n hlt' ?_
            rw [faK_i, Addr.add_add]
            refine sld1_i ⟨ci, fun _ _ h => h⟩ ?_
            refine callK_mono (has_ok (OwnR.sl o9)) ?_
            rintro _ _ ⟨rfl, rfl⟩
            refine ⟨Mod.refl _ _, ?_⟩
            rename World => W9
            rw [bneK_i, decide_eq_decide.2 (group_symm hd mi mk), beq_self_eq_true, Bool.not_true]
            refine condK_f ?_
            have g79 := (g7d.trans g8).trans g9
            rw [eqK_i]
            refine condK_p (fun he => ?_) fun he => ?_
            · refine ixK_n hlt' ?_
              rw [faK_i, Addr.add_add]
              refine sld1_i ⟨ci, fun _ _ h => h⟩ ?_
              refine callK_mono (sgroup_ok (hS.grow g79) (by omega) _) ?_
              rintro va Wa ⟨oa, ga⟩
              refine ⟨ga, ?_⟩
              refine ixK_n hlt' ?_
              rw [faK_i, Addr.add_add]
              refine sld1_i ⟨ci, fun _ _ h => h⟩ ?_
              refine callK_mono (has_ok (OwnR.sl oa)) ?_
              rintro _ _ ⟨rfl, rfl⟩
              refine ⟨Mod.refl _ _, ?_⟩
              rw [decide_eq_false (group_self hd mi)]
              refine condK_f ?_
              rw [addK_i, loop_step (by omega)]
              exact ⟨⟨k + 1, hk', rfl, g79.trans ga⟩, by rw [iOf0, iOf0]; omega⟩
            · rw [addK_i, loop_step (by omega)]
              exact ⟨⟨k + 1, hk', rfl, g79⟩, by rw [iOf0, iOf0]; omega⟩
          · rw [addK_i, loop_step (by omega)]
            exact ⟨⟨i + 1, hlt', rfl, g7⟩, by rw [iOf0, iOf0]; omega⟩
        · refine drawK_i (fun W' => Grow W4 W') (g5.trans (Mod.drew _ _)) ?_
          refine ixK_n hlt' (qldnK_i hr (fun w2 h2 j u hu => by rw [Addr.add_add]; exact h2.cell (hc j u hu) fun h => h) ?_)
          refine ixK_n hlt' (qldnK_i hr' (fun w2 h2 j u hu => by rw [Addr.add_add]; exact h2.cell (hc' j u hu) fun h => h) ?_)
          refine ⟨_, fun w2 _ => run_ne_key _ _ _ _ w2, ?_⟩
          refine condK_neg (fun _ => ?_) fun hne => (hne rfl).elim
          rw [gtK_i]
          refine condK_p (fun hi0 => ?_) fun _ W6 g6 => g6
          rw [subK_i, wrap64 (by omega) (by omega), show ((i : Int) - 1) = ((i - 1 : Nat) : Int) by omega]
          have hi1 : i - 1 < ks2.length := by omega
          obtain ⟨_, r2, e, _, hr2, hc2, rfl⟩ := hl.get hi1
          cases e
          refine ixK_n hi1 ?_
          rw [faK_i, Addr.add_add]
          refine qld1K_i (fun w2 h2 => h2.cell (hc2 0 _ rfl) fun h => h) ?_
          refine ixK_n hlt' ?_
          rw [faK_i, Addr.add_add]
          refine qld1K_i (fun w2 h2 => h2.cell (hc 0 _ rfl) fun h => h) ?_
          rw [geK_i]
          intro W6 g6
          refine condK_p (fun hge => ?_) fun _ => g6
          have := hs1 (i - 1) i hi1 hlt' (by omega)
          omega
      · rw [lenK_i, lenK_i, neK_i]
        refine condK_neg (fun _ => ?_) fun hne => (hne rfl).elim
        rw [lenK_i, lenK_i, neK_i]
        exact condK_neg (fun _ => rfl) fun hne => (hne (by rw [hkl])).elim
end Go.Proofs.Ytmfplfaeibehiaa
