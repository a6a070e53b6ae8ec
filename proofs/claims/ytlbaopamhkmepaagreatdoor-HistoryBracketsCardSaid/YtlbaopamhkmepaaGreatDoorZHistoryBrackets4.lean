/- Contracts of the history: Push outside a bracket, Depths, Open, Begin, Undo, Redo. Conditions: the sizes. Contracts of the history: Undo, Redo; the history as the laws use it. Conditions: the sizes. What is known of the history; the law HistoryNone. Conditions: the sizes. What is known of the history; the law HistoryNone. No conditions. The plain law of patches: one behind the other, and on sets: the program's merges and the document's one by one agree where keys rise. No program in sight, no conditions. The plain law of composing deltas: cut in ones; the maker that is told the parts comes to the same. No program in sight, no conditions. The plain law of composing deltas: what may be, composed, may be; how long it gets. No program in sight. By a program of ours: of each function below the predicate that its code comes to, and that it is sound. No conditions. -/
import Derived.Test.YtlbaopamhkmepaaGreatDoorZHistoryBrackets3
namespace Go.K
open Go
theorem SlR.takeN {α : Type} {S : Nat → Prop} {k : Nat} {R : World → List Value → α → Prop} {w : World} {a : Option Addr} {n c : Nat} {l : List α} (h : SlR S k R w (.slice a n c) l) {j : Nat} (hj : j ≤ l.length) : SlR S k R w (.slice a j c) (l.take j) := by
  obtain ⟨_, _, e, h1, h2, h3⟩ := h
  cases e
  refine ⟨_, _, by rw [List.length_take, Nat.min_eq_left hj], by rw [List.length_take]; omega, h2, fun i x hx => ?_⟩
  rw [List.getElem?_take] at hx
  split at hx
  · exact h3 i x hx
  · cases hx
theorem sliced_zero {p : Addr} {j c s : Nat} : sliced (some p) 0 j c s = .slice (some p) j c := by
  have e : p.add 0 = p := Addr.add_zero' p
  unfold sliced
  simp [e]
theorem concat_of_pos {α : Type} {l : List α} (h : 0 < l.length) : ∃ l' g, l = l' ++ [g] := by
  rcases List.eq_nil_or_concat l with rfl | ⟨l', g, e⟩
  · simp at h
  · exact ⟨l', g, by rw [e, List.concat_eq_append]⟩
end Go.K
namespace Go.Proofs.YtlbaopamhkmepaaGreatDoor
open Go Go.K
section
variable {F C M : Nat → Prop} {W W' : World} {b : Nat} {sv : Value} {ks : List DKey} {uv rv ov : Value} {mx : Nat} {us rs own : List Grp} {op : Bool} {h : Hist}
theorem depths_ok (hh : HistI F W b ks h) : callK Tryz.prog 20 [.pointer (some ⟨b, 0, none⟩)] (fun v' w' => v' = .tuple #[.int .i64 h.us.length, .int .i64 h.rs.length] ∧ Grow W w') W := by
  apply S20_ok
  unfold S20
  refine callK_mono (hready_ok hh) ?_
  rintro _ _ ⟨rfl, rfl⟩
  rename World => W
  obtain ⟨C, sv, uv, rv, ov, hR⟩ := hh
  rw [notK_i]
  refine condK_f (drawK_i (fun W' => Grow W W') (Mod.drew _ _) (nilckK_s ?_))
  rw [faK_i, addr0]
  refine qld1K_i (fun w2 g => g.cell (hR.cells 3 _ rfl) fun h => h) ?_
  obtain ⟨a, c, e, _⟩ := hR.und.shape (by decide)
  obtain ⟨a', c', e', _⟩ := hR.red.shape (by decide)
  rw [e, lenK_i]
  refine nilckK_s ?_
  rw [faK_i, addr0]
  refine qld1K_i (fun w2 g => g.cell (hR.cells 4 _ rfl) fun h => h) ?_
  rw [e', lenK_i]
  exact fun W' g => ⟨rfl, g⟩
theorem open_ok (hh : HistI F W b ks h) : callK Tryz.prog 33 [.pointer (some ⟨b, 0, none⟩)] (fun v' w' => v' = .bool h.op ∧ w' = W) W := by
  apply S33_ok
  unfold S33
  refine callK_mono (hready_ok hh) ?_
  rintro _ _ ⟨rfl, rfl⟩
  rename World => W
  obtain ⟨C, sv, uv, rv, ov, hR⟩ := hh
  refine condK_t (nilckK_s ?_)
  rw [faK_i, addr0]
  exact ld1K_i (hR.cells 5 _ rfl) ⟨rfl, rfl⟩
theorem begin_ok (hh : HistI F W b ks h) : callK Tryz.prog 27 [.pointer (some ⟨b, 0, none⟩)] (fun v' w' => (h.op = true ∧ v' = .int .i64 9 ∧ w' = W) ∨ (h.op = false ∧ v' = .int .i64 0 ∧ HAfter F W w' b ks { h with op := true, own := [] })) W := by
  apply S27_ok
  unfold S27
  refine callK_mono (hready_ok hh) ?_
  rintro _ _ ⟨rfl, rfl⟩
  rename World => W
  obtain ⟨C, sv, uv, rv, ov, hR⟩ := hh
  rw [notK_i]
  refine condK_f (nilckK_s ?_)
  rw [faK_i, addr0]
  refine ld1K_i (hR.cells 5 _ rfl) ?_
  cases ho : h.op with
  | true => exact condK_t (.inl ⟨rfl, rfl, rfl⟩)
  | false =>
    refine condK_f (nilckK_s ?_)
    rw [faK_i, addr0]
    refine hR.setOp fun W1 hR1 m1 => nilckK_s ?_
    rw [faK_i, addr0]
    refine hR1.setOwn SlR.nil fun W2 hR2 m2 => .inr ⟨rfl, rfl, F, fun _ h => .inl h, ⟨C, sv, uv, rv, _, hR2⟩, (m1.trans m2).mono fun x _ e => by rw [e]; exact hR.fb.1⟩
/-- Push, without a bracket -/
theorem push_ok {S D S' D' : Nat → Prop} {dv uu : Value} {x y : List Dop} (hh : HistI F W b ks h) (hop : h.op = false) (hl : h.us.length ≤ h.max) (hmx : h.max ≤ 65536) (hd : RDops S D W dv x) (hu : RDops S' D' W uu y) (bx : mDops x ≤ 1099511627776) (by' : mDops y ≤ 1099511627776) (hF : ∀ z, F z → z < W.heap.size) :
    callK Tryz.prog 18 [.pointer (some ⟨b, 0, none⟩), dv, uu] (fun v' w' => v' = .int .i64 0 ∧ HAfter F W w' b ks { h with us := keepL h.max h.us ⟨x, y⟩, rs := [] }) W := by
  apply S18_ok
  unfold S18
  refine callK_mono (hready_ok hh) ?_
  rintro _ _ ⟨rfl, rfl⟩
  rename World => W
  obtain ⟨C, sv, uv, rv, ov, hR⟩ := hh
  rw [notK_i]
  refine condK_f ?_
  refine callK_mono (copy_dops hd bx) ?_
  rintro cv w2 ⟨o2, g2⟩
  refine callK_mono (copy_dops (hu.grow g2) by') ?_
  rintro cu w3 ⟨o3, g3⟩
  have g23 := g2.trans g3
  obtain ⟨ca, cc, ecv, _⟩ := (ODops.sl o2).shape
  obtain ⟨ca', cc', ecu, _⟩ := (ODops.sl o3).shape
  refine ⟨#[cv, cu], by rw [ecv, ecu]; kernel_rfl, ?_⟩
  refine newst_n (vs := [cv, cu]) rfl rfl (fun u hu => by simp at hu; rcases hu with rfl | rfl; rw [ecv]; rfl; rw [ecu]; rfl) fun b7 w4 hb7 hz7 g4 hc4 _ => ?_
  have z2 := g2.size
  have z3 := g3.size
  have r2 : RDops (fun z => W.heap.size ≤ z ∧ z < w4.heap.size) (fun z => W.heap.size ≤ z ∧ z < w4.heap.size) w4 cv x := (ODops.reads o2).to (g3.trans g4) (fun _ _ _ h => h) (fun _ _ _ h => h) (fun z _ hz => ⟨hz.1, by omega⟩) fun z _ hz => ⟨hz.1, by omega⟩
  have r3 : RDops (fun z => W.heap.size ≤ z ∧ z < w4.heap.size) (fun z => W.heap.size ≤ z ∧ z < w4.heap.size) w4 cu y := (ODops.reads o3).to g4 (fun _ _ _ h => h) (fun _ _ _ h => h) (fun z _ hz => ⟨by omega, by omega⟩) fun z _ hz => ⟨by omega, by omega⟩
  have hR4 := (hR.grow (g23.trans g4)).more (F' := fun z => F z ∨ W.heap.size ≤ z ∧ z < w4.heap.size) (C' := fun z => C z ∨ W.heap.size ≤ z ∧ z < w4.heap.size) (fun _ h => .inl h) (fun _ h => .inl h) (fun z hz => by
    rcases hz with hz | hz
    · have := hR.cf z hz; exact ⟨.inl this.1, by omega, .inl hz⟩
    · exact ⟨.inr hz, hz.2, .inr fun hf => by have := hF z hf; omega⟩)
  have hg : RGrp (fun z => C z ∨ W.heap.size ≤ z ∧ z < w4.heap.size) w4 [cv, cu] ⟨x, y⟩ := ⟨cv, cu, rfl, r2.to (Mod.refl (fun _ => False) _) (fun _ _ _ h => h) (fun _ _ _ h => h) (fun _ _ h => .inr h) fun _ _ h => .inr h, r3.to (Mod.refl (fun _ => False) _) (fun _ _ _ h => h) (fun _ _ _ h => h) (fun _ _ h => .inr h) fun _ _ h => .inr h⟩
  have g04 := g23.trans g4
  refine JoinK_i (fun _ w6 => ∃ F' uv', (∀ z, F' z → F z ∨ W.heap.size ≤ z ∧ z < w6.heap.size) ∧ HistR F' (fun z => C z ∨ W.heap.size ≤ z ∧ z < w4.heap.size) w6 b sv ks uv' rv ov h.max (keepL h.max h.us ⟨x, y⟩) h.rs h.op h.own ∧ Mod F W w6) ?_ ?_
  · rintro _ w6 ⟨F', uv', hF', hR6, m6⟩ _
    refine nilckK_s ?_
    rw [faK_i, addr0]
    refine hR6.setR (F' := F') (M := fun _ => False) (Mod.refl _ _) (fun _ h => h.elim) (fun _ h => h) (.inl OwnR.nil) (fun g hg => nomatch hg) fun w7 hR7 m7 => ⟨rfl, F', fun z hz => ?_, ⟨_, sv, uv', _, ov, hR7⟩, m6.trans (m7.mono fun z _ e => by rw [e]; exact hR.fb.1)⟩
    have := m7.size
    rcases hF' z hz with h | h
    · exact .inl h
    · exact .inr ⟨h.1, by omega⟩
  refine nilckK_s ?_
  rw [faK_i, addr0]
  refine ld1K_i (hR4.cells 5 _ rfl) ?_
  rw [hop]
  refine condK_f ?_
  refine ldnK_i (vs := [cv, cu]) rfl hc4 ?_
  rw [← hop]
  refine callK_mono (keep_ok hR4 hl hmx hg) ?_
  rintro _ w6 ⟨F', uv', hF', hR6, m6⟩
  have z4 := g04.size
  have z6 := m6.size
  refine ⟨F', uv', fun z hz => ?_, hR6, (g04.mono fun _ _ h => h.elim : Mod F W w4).next m6 fun z hz e => ?_⟩
  · rcases hF' z hz with (h | h) | h
    · exact .inl h
    · exact .inr ⟨h.1, by omega⟩
    · exact .inr ⟨by omega, h.2⟩
  · rcases e with e | e
    · exact e
    · omega
/-- slices.Clone of groups -/
theorem clone_grp {S : Nat → Prop} {v : Value} {l : List Grp} (h : SlR S 2 (RGrp C) W v l) (hC : ∀ x, C x → x < W.heap.size) (hl : l.length ≤ 1099511627) :
    callK Tryz.prog 88 [v] (fun v' w' => OwnR W.heap.size TGrp 2 (RGrp C) w' v' l ∧ Grow W w') W := by
  apply S88_ok
  unfold S88
  obtain ⟨a, c, rfl, hm⟩ := h.shape
  cases a with
  | none =>
    have : l = [] := by
      cases l with
      | nil => rfl
      | cons x l => obtain ⟨p, r, e, _⟩ := h.get (i := 0) (by simp); cases e
    subst this
    simp only [KS]
    exact ⟨OwnR.nil, Mod.refl _ _⟩
  | some p =>
    simp only [KS]
    refine rowK_empty ?_
    have hg : Grow W (W.alloc (.cells #[] TGrp)) := Mod.alloc _ _ _
    have hbx : (W.alloc (.cells #[] TGrp)).heap[W.heap.size]? = some (.cells #[] TGrp (0, 0)) := by show (W.heap.push _)[W.heap.size]? = _; simp
    obtain ⟨v', w', h1, h2, h3, _⟩ := append_new (ty := 65) elem_grp hbx (h.grow hg (by decide) fun r x hx => hx.mod hg fun _ _ _ h => h) (fun _ _ _ => RGrp.one) (by omega) (fun w2 hg2 r y hr => hr.mod (Mod.of_grownBy hg2) fun x hx hC' e => by have := hC x hC'; simp only [Option.some.injEq] at e; omega)
    exact runK_i h1 ⟨h2, hg.trans h3⟩
/-- the newest group of one stack to the other one -/
theorem moveU_ok (h : HistR F C W b sv ks uv rv ov mx us rs false own) (hl1 : us.length ≤ 65536) (hl2 : rs.length ≤ 65536) (hF : ∀ x, F x → x < W.heap.size) :
    callK Tryz.prog 52 [.pointer (some ⟨b, 0, none⟩), .pointer (some ⟨b, 3, none⟩), .pointer (some ⟨b, 4, none⟩)] (fun v' w' => (us = [] ∧ v' = .tuple #[.agg #[.slice none 0 0, .slice none 0 0], .int .i64 10] ∧ Grow W w') ∨
      ∃ l g r F' uv' rv', us = l ++ [g] ∧ v' = .tuple #[.agg (List.toArray r), .int .i64 0] ∧ r.length = 2 ∧ RGrp C w' r g ∧ (∀ x, F' x → F x ∨ W.heap.size ≤ x ∧ x < w'.heap.size) ∧ HistR F' C w' b sv ks uv' rv' ov mx l (rs ++ [g]) false own ∧ Mod F W w') W := by
  apply S52_ok
  unfold S52
  have hlt := h.lt
  have hoA := h.und.ownB
  have hoB := h.red.ownB
  refine newz_i fun b6 w1 hb6 hz1 g1 _ hl6 => ?_
  have hR1 := h.grow g1
  obtain ⟨a, c, e, hcap, hcm, hel⟩ := h.und.sl (by decide)
  have hsl := hR1.und.sl (by decide)
  rw [e] at hsl
  refine nilckK_s ?_
  refine ld1K_i (hR1.cells 3 _ rfl) ?_
  rw [e, lenK_i, subK_i, wrap64 (by omega) (by omega)]
  refine nilckK_s ?_
  rw [faK_i, addr0]
  refine ld1K_i (hR1.cells 5 _ rfl) ?_
  refine condK_f ?_
  rw [ltK_i]
  refine condK_p (fun hneg => ?_) fun hpos => ?_
  · refine ⟨#[.slice none 0 0, .slice none 0 0], by kernel_rfl, ?_⟩
    refine stn_over (vs := [.slice none 0 0, .slice none 0 0]) rfl (fun u hu => by simp at hu; subst hu; rfl) (fun j hj => hl6 j hj) fun W'' m hc _ => ?_
    exact ldnK_i rfl hc (.inl ⟨List.eq_nil_of_length_eq_zero (by omega), rfl, g1.next m fun x hx e => by omega⟩)
  obtain ⟨l, g, hlg⟩ := concat_of_pos (l := us) (by omega)
  have hlen : us.length = l.length + 1 := by rw [hlg]; simp
  have en : ((us.length : Int) - 1) = ((l.length : Nat) : Int) := by omega
  rw [en]
  refine nilckK_s ?_
  refine ld1K_i (hR1.cells 3 _ rfl) ?_
  rw [e]
  have hi : l.length < us.length := by omega
  obtain ⟨p, r, rfl, _, hr, hc, hre⟩ := hsl.get hi
  have hge : us[l.length] = g := by
    have : us[l.length]? = some g := by rw [hlg]; simp
    rw [List.getElem?_eq_getElem hi] at this
    exact Option.some.inj this
  rw [hge] at hre
  refine ixK_n hi (ldnK_i hr (fun j u hu => by rw [Addr.add_add]; exact hc j u hu) ?_)
  refine newst_n (vs := r) hr rfl hre.one fun b9 w3 hb9 hz9 g3 hc9 _ => ?_
  have g13 := g1.trans g3
  have hR3 := hR1.grow g3
  refine nilckK_s ?_
  refine ld1K_i (hR3.cells 3 _ rfl) ?_
  rw [e]
  refine runK_i (slice_h_run (e := TGrp) (k := 2) (i := Tryz.t95) (j := l.length) (by kernel_rfl) (by kernel_rfl) (by kernel_rfl) (by omega) w3) ?_
  rw [sliced_zero]
  have hsl3 := hR3.und.sl (by decide)
  rw [e] at hsl3
  have htk := hsl3.takeN (j := l.length) (by omega)
  have etk : us.take l.length = l := by rw [hlg]; simp
  rw [etk] at htk
  refine callK_mono (clone_grp htk (fun x hx => (hR3.cf x hx).2) (by omega)) ?_
  rintro cl w4 ⟨ho4, g4⟩
  have g34 := g3.trans g4
  have g14 := g13.trans g4
  have hR4 := hR3.grow g4
  have ho4' := OwnR.ownB ho4
  refine nilckK_s ?_
  have z1 := g1.size
  have z3 := g3.size
  have z4 := g4.size
  refine hR3.setU (F' := fun x => F x ∨ w3.heap.size ≤ x ∧ x < w4.heap.size) (M := fun _ => False) g4 (fun _ h => h.elim) (fun _ h => .inl h) (.inl (ho4.base fun _ _ => Nat.zero_le _)) (fun y hy => .inr ⟨(ho4' y hy).1, .inr ⟨(ho4' y hy).1, (ho4' y hy).2⟩⟩) fun w5 hR5 m5 => ?_
  have z5 := m5.size
  have gd : Grow w5 w5.drew := Mod.drew _ _
  have zd : w5.drew.heap.size = w5.heap.size := rfl
  have hR5d := hR5.grow gd
  obtain ⟨dv, uu, rfl, hd, hu⟩ := hre
  have hre : RGrp C w1 [dv, uu] g := ⟨dv, uu, rfl, hd, hu⟩
  have m35 : Mod (fun y => y = b) w3 w5.drew := ((g4.mono fun _ _ h => h.elim).trans m5).next gd fun _ _ h => h.elim
  have hb9c : ∀ j v, ([dv, uu] : List Value)[j]? = some v → w5.drew.cell? ((⟨b9, 0, none⟩ : Addr).add j) = some v := fun j v hv => m35.cell (hc9 j v hv) (by rw [add_block]; exact fun e => by have e' : b9 = b := e; omega)
  refine drawC_i (fun k y => (k = 6 ∧ rv.ownBlock = some y) ∨ (k = 8 ∧ y = b)) ?_
  refine nilckK_s ?_
  refine sld1_i ⟨hR5d.cells 4 _ rfl, fun j hj e => by
    rcases e with ⟨rfl, e⟩ | ⟨rfl, _⟩
    · exact (h.rF b e).2.2.1 rfl
    · exact absurd hj (by decide)⟩ ?_
  refine sldn_i (vs := [dv, uu]) rfl (fun q v hv => ⟨hb9c q v hv, fun j hj e => by
    rcases e with ⟨rfl, e⟩ | ⟨rfl, e⟩
    · rw [add_block] at e; have := hoB b9 e; omega
    · rw [add_block] at e; have e' : b9 = b := e; omega⟩) ?_
  have hCb : ∀ x, C x → ¬ x = b := fun x hx e => h.fb.2 (e ▸ hx)
  have hg5 : RGrp C w5.drew [dv, uu] g := (hre.mod g3 fun _ _ _ h => h).mod m35 fun x _ hx => hCb x hx
  refine StkR.push elem_grp hR5d.red (cs := [dv, uu]) (x := g) (by kernel_rfl) rfl hg5 (fun _ _ _ => RGrp.one) (fun w2 w3 r y hs hm hr => hr.mod hm fun x hx hC e => ?_) (by omega) (by simp only [maxLen]; omega) (fun w2 g => g.mono fun _ _ h => h.elim) fun w7 bv' w8 ho m78 m8 hn => ⟨m78.mono fun x _ e => .inl ⟨rfl, e⟩, ?_⟩
  · rcases e with e | e
    · exact (h.rF x e).2.1 hC
    · have := (h.cf x hC).2; omega
  refine nilckK_s ?_
  have z8 := m8.size
  have hlt8 := OwnR.ownB ho
  refine hR5d.setR (F' := fun x => F x ∨ w3.heap.size ≤ x ∧ x < w8.heap.size) m8 (fun _ h => h) (fun x h => by rcases h with h | h; exact .inl h; exact .inr ⟨h.1, by omega⟩) (.inl ho) (fun y hy => by
    rcases hn y hy with e | e
    · exact .inl e
    · exact .inr ⟨e, .inr ⟨by omega, (hlt8 y hy).2⟩⟩) fun w9 hR9 m9 => ⟨m9.mono fun x _ e => .inr ⟨rfl, e⟩, ?_⟩
  have z9 := m9.size
  have m59 : Mod (fun y => rv.ownBlock = some y ∨ y = b) w5.drew w9 := (m8.mono fun _ _ h => .inl h).trans (m9.mono fun _ _ h => .inr h)
  have hb9d : ∀ j v, ([dv, uu] : List Value)[j]? = some v → w9.cell? ((⟨b9, 0, none⟩ : Addr).add j) = some v := fun j v hv => m59.cell (hb9c j v hv) (by
    rw [add_block]
    rintro (e | e)
    · have := hoB b9 e; omega
    · have e' : b9 = b := e; omega)
  refine ldnK_i (vs := [dv, uu]) rfl hb9d ?_
  have hg9 : RGrp C w9 [dv, uu] g := hg5.mod m59 fun x _ hx e => by
    rcases e with e | e
    · exact (h.rF x e).2.1 hx
    · exact hCb x hx e
  refine stn_over (vs := [dv, uu]) rfl hg9.one (fun j hj => ((((hl6 j hj).mod g3 fun h => h).mod m35 fun e => by rw [add_block] at e; have e' : b6 = b := e; omega).mod m59 fun e => by
    rw [add_block] at e
    rcases e with e | e
    · have := hoB b6 e; omega
    · have e' : b6 = b := e; omega)) fun w10 m10 hc10 _ => ?_
  have z10 := m10.size
  refine ldnK_i rfl hc10 (.inr ⟨l, g, [dv, uu], fun x => F x ∨ w3.heap.size ≤ x ∧ x < w8.heap.size, _, _, hlg, rfl, rfl, hg9.mod m10 fun x _ hx e => by have := (h.cf x hx).2; omega, fun x hx => ?_, hR9.mod m10 fun x hx e => ?_, ?_⟩)
  · rcases hx with hx | hx
    · exact .inl hx
    · exact .inr ⟨by omega, by omega⟩
  · rcases hx with hx | hx
    · have := hF x hx; omega
    · omega
  · refine (((g13.mono fun _ _ h => h.elim : Mod F W w3).next m35 fun x hx e => by rw [e]; exact h.fb.1).next m59 fun x hx e => ?_).next m10 fun x hx e => by omega
    rcases e with e | e
    · exact (h.rF x e).1
    · rw [e]; exact h.fb.1
/-- the newest group of one stack to the other one -/
theorem moveR_ok (h : HistR F C W b sv ks uv rv ov mx us rs false own) (hl1 : us.length ≤ 65536) (hl2 : rs.length ≤ 65536) (hF : ∀ x, F x → x < W.heap.size) :
    callK Tryz.prog 52 [.pointer (some ⟨b, 0, none⟩), .pointer (some ⟨b, 4, none⟩), .pointer (some ⟨b, 3, none⟩)] (fun v' w' => (rs = [] ∧ v' = .tuple #[.agg #[.slice none 0 0, .slice none 0 0], .int .i64 10] ∧ Grow W w') ∨
      ∃ l g r F' uv' rv', rs = l ++ [g] ∧ v' = .tuple #[.agg (List.toArray r), .int .i64 0] ∧ r.length = 2 ∧ RGrp C w' r g ∧ (∀ x, F' x → F x ∨ W.heap.size ≤ x ∧ x < w'.heap.size) ∧ HistR F' C w' b sv ks uv' rv' ov mx (us ++ [g]) l false own ∧ Mod F W w') W := by
  apply S52_ok
  unfold S52
  have hlt := h.lt
  have hoA := h.red.ownB
  have hoB := h.und.ownB
  refine newz_i fun b6 w1 hb6 hz1 g1 _ hl6 => ?_
  have hR1 := h.grow g1
  obtain ⟨a, c, e, hcap, hcm, hel⟩ := h.red.sl (by decide)
  have hsl := hR1.red.sl (by decide)
  rw [e] at hsl
  refine nilckK_s ?_
  refine ld1K_i (hR1.cells 4 _ rfl) ?_
  rw [e, lenK_i, subK_i, wrap64 (by omega) (by omega)]
  refine nilckK_s ?_
  rw [faK_i, addr0]
  refine ld1K_i (hR1.cells 5 _ rfl) ?_
  refine condK_f ?_
  rw [ltK_i]
  refine condK_p (fun hneg => ?_) fun hpos => ?_
  · refine ⟨#[.slice none 0 0, .slice none 0 0], by kernel_rfl, ?_⟩
    refine stn_over (vs := [.slice none 0 0, .slice none 0 0]) rfl (fun u hu => by simp at hu; subst hu; rfl) (fun j hj => hl6 j hj) fun W'' m hc _ => ?_
    exact ldnK_i rfl hc (.inl ⟨List.eq_nil_of_length_eq_zero (by omega), rfl, g1.next m fun x hx e => by omega⟩)
  obtain ⟨l, g, hlg⟩ := concat_of_pos (l := rs) (by omega)
  have hlen : rs.length = l.length + 1 := by rw [hlg]; simp
  have en : ((rs.length : Int) - 1) = ((l.length : Nat) : Int) := by omega
  rw [en]
  refine nilckK_s ?_
  refine ld1K_i (hR1.cells 4 _ rfl) ?_
  rw [e]
  have hi : l.length < rs.length := by omega
  obtain ⟨p, r, rfl, _, hr, hc, hre⟩ := hsl.get hi
  have hge : rs[l.length] = g := by
    have : rs[l.length]? = some g := by rw [hlg]; simp
    rw [List.getElem?_eq_getElem hi] at this
    exact Option.some.inj this
  rw [hge] at hre
  refine ixK_n hi (ldnK_i hr (fun j u hu => by rw [Addr.add_add]; exact hc j u hu) ?_)
  refine newst_n (vs := r) hr rfl hre.one fun b9 w3 hb9 hz9 g3 hc9 _ => ?_
  have g13 := g1.trans g3
  have hR3 := hR1.grow g3
  refine nilckK_s ?_
  refine ld1K_i (hR3.cells 4 _ rfl) ?_
  rw [e]
  refine runK_i (slice_h_run (e := TGrp) (k := 2) (i := Tryz.t95) (j := l.length) (by kernel_rfl) (by kernel_rfl) (by kernel_rfl) (by omega) w3) ?_
  rw [sliced_zero]
  have hsl3 := hR3.red.sl (by decide)
  rw [e] at hsl3
  have htk := hsl3.takeN (j := l.length) (by omega)
  have etk : rs.take l.length = l := by rw [hlg]; simp
  rw [etk] at htk
  refine callK_mono (clone_grp htk (fun x hx => (hR3.cf x hx).2) (by omega)) ?_
  rintro cl w4 ⟨ho4, g4⟩
  have g34 := g3.trans g4
  have g14 := g13.trans g4
  have hR4 := hR3.grow g4
  have ho4' := OwnR.ownB ho4
  refine nilckK_s ?_
  have z1 := g1.size
  have z3 := g3.size
  have z4 := g4.size
  refine hR3.setR (F' := fun x => F x ∨ w3.heap.size ≤ x ∧ x < w4.heap.size) (M := fun _ => False) g4 (fun _ h => h.elim) (fun _ h => .inl h) (.inl (ho4.base fun _ _ => Nat.zero_le _)) (fun y hy => .inr ⟨(ho4' y hy).1, .inr ⟨(ho4' y hy).1, (ho4' y hy).2⟩⟩) fun w5 hR5 m5 => ?_
  have z5 := m5.size
  have gd : Grow w5 w5.drew := Mod.drew _ _
  have zd : w5.drew.heap.size = w5.heap.size := rfl
  have hR5d := hR5.grow gd
  obtain ⟨dv, uu, rfl, hd, hu⟩ := hre
  have hre : RGrp C w1 [dv, uu] g := ⟨dv, uu, rfl, hd, hu⟩
  have m35 : Mod (fun y => y = b) w3 w5.drew := ((g4.mono fun _ _ h => h.elim).trans m5).next gd fun _ _ h => h.elim
  have hb9c : ∀ j v, ([dv, uu] : List Value)[j]? = some v → w5.drew.cell? ((⟨b9, 0, none⟩ : Addr).add j) = some v := fun j v hv => m35.cell (hc9 j v hv) (by rw [add_block]; exact fun e => by have e' : b9 = b := e; omega)
  refine drawC_i (fun k y => (k = 6 ∧ uv.ownBlock = some y) ∨ (k = 8 ∧ y = b)) ?_
  refine nilckK_s ?_
  refine sld1_i ⟨hR5d.cells 3 _ rfl, fun j hj e => by
    rcases e with ⟨rfl, e⟩ | ⟨rfl, _⟩
    · exact (h.uF b e).2.2 rfl
    · exact absurd hj (by decide)⟩ ?_
  refine sldn_i (vs := [dv, uu]) rfl (fun q v hv => ⟨hb9c q v hv, fun j hj e => by
    rcases e with ⟨rfl, e⟩ | ⟨rfl, e⟩
    · rw [add_block] at e; have := hoB b9 e; omega
    · rw [add_block] at e; have e' : b9 = b := e; omega⟩) ?_
  have hCb : ∀ x, C x → ¬ x = b := fun x hx e => h.fb.2 (e ▸ hx)
  have hg5 : RGrp C w5.drew [dv, uu] g := (hre.mod g3 fun _ _ _ h => h).mod m35 fun x _ hx => hCb x hx
  refine StkR.push elem_grp hR5d.und (cs := [dv, uu]) (x := g) (by kernel_rfl) rfl hg5 (fun _ _ _ => RGrp.one) (fun w2 w3 r y hs hm hr => hr.mod hm fun x hx hC e => ?_) (by omega) (by simp only [maxLen]; omega) (fun w2 g => g.mono fun _ _ h => h.elim) fun w7 bv' w8 ho m78 m8 hn => ⟨m78.mono fun x _ e => .inl ⟨rfl, e⟩, ?_⟩
  · rcases e with e | e
    · exact (h.uF x e).2.1 hC
    · have := (h.cf x hC).2; omega
  refine nilckK_s ?_
  have z8 := m8.size
  have hlt8 := OwnR.ownB ho
  refine hR5d.setU (F' := fun x => F x ∨ w3.heap.size ≤ x ∧ x < w8.heap.size) m8 (fun _ h => h) (fun x h => by rcases h with h | h; exact .inl h; exact .inr ⟨h.1, by omega⟩) (.inl ho) (fun y hy => by
    rcases hn y hy with e | e
    · exact .inl e
    · exact .inr ⟨e, .inr ⟨by omega, (hlt8 y hy).2⟩⟩) fun w9 hR9 m9 => ⟨m9.mono fun x _ e => .inr ⟨rfl, e⟩, ?_⟩
  have z9 := m9.size
  have m59 : Mod (fun y => uv.ownBlock = some y ∨ y = b) w5.drew w9 := (m8.mono fun _ _ h => .inl h).trans (m9.mono fun _ _ h => .inr h)
  have hb9d : ∀ j v, ([dv, uu] : List Value)[j]? = some v → w9.cell? ((⟨b9, 0, none⟩ : Addr).add j) = some v := fun j v hv => m59.cell (hb9c j v hv) (by
    rw [add_block]
    rintro (e | e)
    · have := hoB b9 e; omega
    · have e' : b9 = b := e; omega)
  refine ldnK_i (vs := [dv, uu]) rfl hb9d ?_
  have hg9 : RGrp C w9 [dv, uu] g := hg5.mod m59 fun x _ hx e => by
    rcases e with e | e
    · exact (h.uF x e).2.1 hx
    · exact hCb x hx e
  refine stn_over (vs := [dv, uu]) rfl hg9.one (fun j hj => ((((hl6 j hj).mod g3 fun h => h).mod m35 fun e => by rw [add_block] at e; have e' : b6 = b := e; omega).mod m59 fun e => by
    rw [add_block] at e
    rcases e with e | e
    · have := hoB b6 e; omega
    · have e' : b6 = b := e; omega)) fun w10 m10 hc10 _ => ?_
  have z10 := m10.size
  refine ldnK_i rfl hc10 (.inr ⟨l, g, [dv, uu], fun x => F x ∨ w3.heap.size ≤ x ∧ x < w8.heap.size, _, _, hlg, rfl, rfl, hg9.mod m10 fun x _ hx e => by have := (h.cf x hx).2; omega, fun x hx => ?_, hR9.mod m10 fun x hx e => ?_, ?_⟩)
  · rcases hx with hx | hx
    · exact .inl hx
    · exact .inr ⟨by omega, by omega⟩
  · rcases hx with hx | hx
    · have := hF x hx; omega
    · omega
  · refine (((g13.mono fun _ _ h => h.elim : Mod F W w3).next m35 fun x hx e => by rw [e]; exact h.fb.1).next m59 fun x hx e => ?_).next m10 fun x hx e => by omega
    rcases e with e | e
    · exact (h.uF x e).1
    · rw [e]; exact h.fb.1
end
end Go.Proofs.YtlbaopamhkmepaaGreatDoor

namespace Go.Proofs.YtlbaopamhkmepaaGreatDoor
open Go Go.K
section
variable {F C M : Nat → Prop} {W W' : World} {b : Nat} {sv : Value} {ks : List DKey} {h : Hist}
theorem undo_ok (hh : HistI F W b ks h) (hop : h.op = false) (hl1 : h.us.length ≤ 65536) (hl2 : h.rs.length ≤ 65536) (hF : ∀ x, F x → x < W.heap.size) (hb : ∀ g ∈ h.us, mDops g.u ≤ 1099511627776) :
    callK Tryz.prog 19 [.pointer (some ⟨b, 0, none⟩)] (fun v' w' => (h.us = [] ∧ ∃ cv, v' = .tuple #[cv, .int .i64 10] ∧ Grow W w') ∨
      ∃ l g cv n, h.us = l ++ [g] ∧ v' = .tuple #[cv, .int .i64 0] ∧ W.heap.size ≤ n ∧ ODops n w' cv g.u ∧ ∃ F', (∀ x, F' x → (F x ∨ W.heap.size ≤ x) ∧ x < n) ∧ HistI F' w' b ks { h with us := l, rs := h.rs ++ [g] } ∧ n ≤ w'.heap.size ∧ Mod F W w') W := by
  apply S19_ok
  unfold S19
  refine callK_mono (hready_ok hh) ?_
  rintro _ _ ⟨rfl, rfl⟩
  rename World => W
  obtain ⟨C, sv, uv, rv, ov, hR⟩ := hh
  rw [hop] at hR
  rw [notK_i]
  refine condK_f ?_
  refine JoinK_i (fun vs w2 => (h.us = [] ∧ ∃ b4, vs = [.pointer (some ⟨b4, 0, none⟩), .int .i64 10] ∧ (∀ j v, ([.slice none 0 0, .slice none 0 0] : List Value)[j]? = some v → w2.cell? ((⟨b4, 0, none⟩ : Addr).add j) = some v) ∧ Grow W w2) ∨
    ∃ l g b4 r F' uv' rv', h.us = l ++ [g] ∧ vs = [.pointer (some ⟨b4, 0, none⟩), .int .i64 0] ∧ RGrp C w2 r g ∧ (∀ j v, r[j]? = some v → w2.cell? ((⟨b4, 0, none⟩ : Addr).add j) = some v) ∧ (∀ x, F' x → (F x ∨ W.heap.size ≤ x) ∧ x < w2.heap.size) ∧ HistR F' C w2 b sv ks uv' rv' ov h.max l (h.rs ++ [g]) false h.own ∧ Mod F W w2) ?_ ?_
  · rintro _ w2 (⟨hn, b4, rfl, hc, g2⟩ | ⟨l, g, b4, r, F', uv', rv', hlg, rfl, ⟨dv, uu, rfl, hd, hu⟩, hc, hF', hR2, m2⟩) _
    · simp only [nth_s, nth_z, List.headD_cons, List.tail_cons]
      rw [faK_i]
      refine ld1K_i (hc 1 _ rfl) ?_
      refine callK_mono (copy_dops (S := fun _ => False) (D := fun _ => False) (x := []) SlR.nil (by simp [mDops])) ?_
      rintro cv w3 ⟨_, g3⟩
      exact .inl ⟨hn, cv, rfl, g2.trans g3⟩
    · simp only [nth_s, nth_z, List.headD_cons, List.tail_cons]
      rw [faK_i]
      refine ld1K_i (hc 1 _ rfl) ?_
      refine callK_mono (copy_dops hu (hb g (by rw [hlg]; simp))) ?_
      rintro cv w3 ⟨o3, g3⟩
      exact .inr ⟨l, g, cv, w2.heap.size, hlg, rfl, m2.size, o3, F', hF', ⟨C, sv, uv', rv', ov, by rw [hop]; exact hR2.grow g3⟩, g3.size, m2.next g3 fun _ _ h => h.elim⟩
  have gd : Grow W W.drew := Mod.drew _ _
  have zd : W.drew.heap.size = W.heap.size := rfl
  refine drawC_i (fun k y => (k = 7 ∧ F y) ∨ (k = 12 ∧ W.heap.size ≤ y)) ?_
  refine nilckK_s ?_
  rw [faK_i, addr0]
  refine nilckK_s ?_
  rw [faK_i, addr0]
  refine ⟨?_, ?_⟩
  · refine callK_mono (moveU_ok (hR.grow gd) hl1 hl2 hF) ?_
    rintro _ w5 (⟨hn, rfl, g5⟩ | ⟨l, g, r, F', uv', rv', hlg, rfl, hr2, hg, hF', hR5, m5⟩)
    · refine ⟨g5.mono fun _ _ h => h.elim, ?_⟩
      refine extK_i (vs := [_, _]) (by rfl) (extK_i (vs := [_, _]) (by rfl) ?_)
      refine newz_i fun b4 w6 hb4 hz6 g6 _ hl6 => ⟨g6.mono fun _ _ h => h.elim, ?_⟩
      have z5 := g5.size
      refine stn_over (vs := [.slice none 0 0, .slice none 0 0]) rfl (fun u hu => by simp at hu; subst hu; rfl) (fun j hj => hl6 j hj) fun w7 m7 hc7 _ => ⟨m7.mono fun x _ e => .inr ⟨rfl, by omega⟩, .inl ⟨hn, b4, rfl, hc7, ((gd.trans g5).trans g6).next m7 fun x hx e => by omega⟩⟩
    · refine ⟨m5.mono fun x _ e => .inl ⟨rfl, e⟩, ?_⟩
      refine extK_i (vs := [_, _]) (by rfl) (extK_i (vs := [_, _]) (by rfl) ?_)
      refine newz_i fun b4 w6 hb4 hz6 g6 _ hl6 => ⟨g6.mono fun _ _ h => h.elim, ?_⟩
      have z5 := m5.size
      have hg6 := hg.mod g6 fun _ _ _ h => h
      have hR6 := hR5.grow g6
      refine stn_over (vs := r) hr2 hg6.one (fun j hj => hl6 j hj) fun w7 m7 hc7 _ => ⟨m7.mono fun x _ e => .inr ⟨rfl, by omega⟩, .inr ⟨l, g, b4, r, F', uv', rv', hlg, rfl, hg6.mod m7 fun x _ hx e => ?_, hc7, fun x hx => ?_, hR6.mod m7 fun x hx e => ?_, ?_⟩⟩
      · have := (hR5.cf x hx).2; omega
      · have := m7.size
        rcases hF' x hx with e | e
        · exact ⟨.inl e, by have := hF x e; omega⟩
        · exact ⟨.inr (by omega), by omega⟩
      · rcases hF' x hx with e' | e'
        · have := hF x e'; omega
        · omega
      · exact (((gd.mono fun _ _ h => h.elim : Mod F W W.drew).trans m5).next g6 fun _ _ h => h.elim).next m7 fun x hx e => by omega
  · refine newz_i fun b4 w8 hb4 hz8 g8 _ hl8 => ⟨g8.mono fun _ _ h => h.elim, ?_⟩
    have z8 := g8.size
    have hF8 : ∀ x, F x → x < w8.heap.size := fun x hx => by have := hF x hx; omega
    refine callK_mono (moveU_ok ((hR.grow gd).grow g8) hl1 hl2 hF8) ?_
    rintro _ w9 (⟨hn, rfl, g9⟩ | ⟨l, g, r, F', uv', rv', hlg, rfl, hr2, hg, hF', hR9, m9⟩)
    · refine ⟨g9.mono fun _ _ h => h.elim, ?_⟩
      refine extK_i (vs := [_, _]) (by rfl) (extK_i (vs := [_, _]) (by rfl) ?_)
      refine stn_over (vs := [.slice none 0 0, .slice none 0 0]) rfl (fun u hu => by simp at hu; subst hu; rfl) (fun j hj => (hl8 j hj).mod g9 fun h => h) fun w7 m7 hc7 _ => ⟨m7.mono fun x _ e => .inr ⟨rfl, by omega⟩, .inl ⟨hn, b4, rfl, hc7, ((gd.trans g8).trans g9).next m7 fun x hx e => by omega⟩⟩
    · refine ⟨m9.mono fun x _ e => .inl ⟨rfl, e⟩, ?_⟩
      refine extK_i (vs := [_, _]) (by rfl) (extK_i (vs := [_, _]) (by rfl) ?_)
      have z9 := m9.size
      have b4F : ¬ F b4 := fun e => by have := hF b4 e; omega
      refine stn_over (vs := r) hr2 hg.one (fun j hj => (hl8 j hj).mod m9 (by rw [add_block]; exact b4F)) fun w7 m7 hc7 _ => ⟨m7.mono fun x _ e => .inr ⟨rfl, by omega⟩, .inr ⟨l, g, b4, r, F', uv', rv', hlg, rfl, hg.mod m7 fun x _ hx e => ?_, hc7, fun x hx => ?_, hR9.mod m7 fun x hx e => ?_, ?_⟩⟩
      · exact b4F (e ▸ (hR.cf x hx).1)
      · have := m7.size
        rcases hF' x hx with e | e
        · exact ⟨.inl e, by have := hF x e; omega⟩
        · exact ⟨.inr (by omega), by omega⟩
      · rcases hF' x hx with e' | e'
        · exact b4F (e ▸ e')
        · omega
      · exact (((gd.trans g8).mono fun _ _ h => h.elim : Mod F W w8).trans m9).next m7 fun x hx e => by omega
theorem redo_ok (hh : HistI F W b ks h) (hop : h.op = false) (hl1 : h.us.length ≤ 65536) (hl2 : h.rs.length ≤ 65536) (hF : ∀ x, F x → x < W.heap.size) (hb : ∀ g ∈ h.rs, mDops g.d ≤ 1099511627776) :
    callK Tryz.prog 21 [.pointer (some ⟨b, 0, none⟩)] (fun v' w' => (h.rs = [] ∧ ∃ cv, v' = .tuple #[cv, .int .i64 10] ∧ Grow W w') ∨
      ∃ l g cv n, h.rs = l ++ [g] ∧ v' = .tuple #[cv, .int .i64 0] ∧ W.heap.size ≤ n ∧ ODops n w' cv g.d ∧ ∃ F', (∀ x, F' x → (F x ∨ W.heap.size ≤ x) ∧ x < n) ∧ HistI F' w' b ks { h with us := h.us ++ [g], rs := l } ∧ n ≤ w'.heap.size ∧ Mod F W w') W := by
  apply S21_ok
  unfold S21
  refine callK_mono (hready_ok hh) ?_
  rintro _ _ ⟨rfl, rfl⟩
  rename World => W
  obtain ⟨C, sv, uv, rv, ov, hR⟩ := hh
  rw [hop] at hR
  rw [notK_i]
  refine condK_f ?_
  refine JoinK_i (fun vs w2 => (h.rs = [] ∧ ∃ b4, vs = [.pointer (some ⟨b4, 0, none⟩), .int .i64 10] ∧ (∀ j v, ([.slice none 0 0, .slice none 0 0] : List Value)[j]? = some v → w2.cell? ((⟨b4, 0, none⟩ : Addr).add j) = some v) ∧ Grow W w2) ∨
    ∃ l g b4 r F' uv' rv', h.rs = l ++ [g] ∧ vs = [.pointer (some ⟨b4, 0, none⟩), .int .i64 0] ∧ RGrp C w2 r g ∧ (∀ j v, r[j]? = some v → w2.cell? ((⟨b4, 0, none⟩ : Addr).add j) = some v) ∧ (∀ x, F' x → (F x ∨ W.heap.size ≤ x) ∧ x < w2.heap.size) ∧ HistR F' C w2 b sv ks uv' rv' ov h.max (h.us ++ [g]) l false h.own ∧ Mod F W w2) ?_ ?_
  · rintro _ w2 (⟨hn, b4, rfl, hc, g2⟩ | ⟨l, g, b4, r, F', uv', rv', hlg, rfl, ⟨dv, uu, rfl, hd, hu⟩, hc, hF', hR2, m2⟩) _
    · simp only [nth_s, nth_z, List.headD_cons, List.tail_cons]
      rw [faK_i]
      refine ld1K_i (hc 0 _ rfl) ?_
      refine callK_mono (copy_dops (S := fun _ => False) (D := fun _ => False) (x := []) SlR.nil (by simp [mDops])) ?_
      rintro cv w3 ⟨_, g3⟩
      exact .inl ⟨hn, cv, rfl, g2.trans g3⟩
    · simp only [nth_s, nth_z, List.headD_cons, List.tail_cons]
      rw [faK_i]
      refine ld1K_i (hc 0 _ rfl) ?_
      refine callK_mono (copy_dops hd (hb g (by rw [hlg]; simp))) ?_
      rintro cv w3 ⟨o3, g3⟩
      exact .inr ⟨l, g, cv, w2.heap.size, hlg, rfl, m2.size, o3, F', hF', ⟨C, sv, uv', rv', ov, by rw [hop]; exact hR2.grow g3⟩, g3.size, m2.next g3 fun _ _ h => h.elim⟩
  have gd : Grow W W.drew := Mod.drew _ _
  have zd : W.drew.heap.size = W.heap.size := rfl
  refine drawC_i (fun k y => (k = 7 ∧ F y) ∨ (k = 12 ∧ W.heap.size ≤ y)) ?_
  refine nilckK_s ?_
  rw [faK_i, addr0]
  refine nilckK_s ?_
  rw [faK_i, addr0]
  refine ⟨?_, ?_⟩
  · refine callK_mono (moveR_ok (hR.grow gd) hl1 hl2 hF) ?_
    rintro _ w5 (⟨hn, rfl, g5⟩ | ⟨l, g, r, F', uv', rv', hlg, rfl, hr2, hg, hF', hR5, m5⟩)
    · refine ⟨g5.mono fun _ _ h => h.elim, ?_⟩
      refine extK_i (vs := [_, _]) (by rfl) (extK_i (vs := [_, _]) (by rfl) ?_)
      refine newz_i fun b4 w6 hb4 hz6 g6 _ hl6 => ⟨g6.mono fun _ _ h => h.elim, ?_⟩
      have z5 := g5.size
      refine stn_over (vs := [.slice none 0 0, .slice none 0 0]) rfl (fun u hu => by simp at hu; subst hu; rfl) (fun j hj => hl6 j hj) fun w7 m7 hc7 _ => ⟨m7.mono fun x _ e => .inr ⟨rfl, by omega⟩, .inl ⟨hn, b4, rfl, hc7, ((gd.trans g5).trans g6).next m7 fun x hx e => by omega⟩⟩
    · refine ⟨m5.mono fun x _ e => .inl ⟨rfl, e⟩, ?_⟩
      refine extK_i (vs := [_, _]) (by rfl) (extK_i (vs := [_, _]) (by rfl) ?_)
      refine newz_i fun b4 w6 hb4 hz6 g6 _ hl6 => ⟨g6.mono fun _ _ h => h.elim, ?_⟩
      have z5 := m5.size
      have hg6 := hg.mod g6 fun _ _ _ h => h
      have hR6 := hR5.grow g6
      refine stn_over (vs := r) hr2 hg6.one (fun j hj => hl6 j hj) fun w7 m7 hc7 _ => ⟨m7.mono fun x _ e => .inr ⟨rfl, by omega⟩, .inr ⟨l, g, b4, r, F', uv', rv', hlg, rfl, hg6.mod m7 fun x _ hx e => ?_, hc7, fun x hx => ?_, hR6.mod m7 fun x hx e => ?_, ?_⟩⟩
      · have := (hR5.cf x hx).2; omega
      · have := m7.size
        rcases hF' x hx with e | e
        · exact ⟨.inl e, by have := hF x e; omega⟩
        · exact ⟨.inr (by omega), by omega⟩
      · rcases hF' x hx with e' | e'
        · have := hF x e'; omega
        · omega
      · exact (((gd.mono fun _ _ h => h.elim : Mod F W W.drew).trans m5).next g6 fun _ _ h => h.elim).next m7 fun x hx e => by omega
  · refine newz_i fun b4 w8 hb4 hz8 g8 _ hl8 => ⟨g8.mono fun _ _ h => h.elim, ?_⟩
    have z8 := g8.size
    have hF8 : ∀ x, F x → x < w8.heap.size := fun x hx => by have := hF x hx; omega
    refine callK_mono (moveR_ok ((hR.grow gd).grow g8) hl1 hl2 hF8) ?_
    rintro _ w9 (⟨hn, rfl, g9⟩ | ⟨l, g, r, F', uv', rv', hlg, rfl, hr2, hg, hF', hR9, m9⟩)
    · refine ⟨g9.mono fun _ _ h => h.elim, ?_⟩
      refine extK_i (vs := [_, _]) (by rfl) (extK_i (vs := [_, _]) (by rfl) ?_)
      refine stn_over (vs := [.slice none 0 0, .slice none 0 0]) rfl (fun u hu => by simp at hu; subst hu; rfl) (fun j hj => (hl8 j hj).mod g9 fun h => h) fun w7 m7 hc7 _ => ⟨m7.mono fun x _ e => .inr ⟨rfl, by omega⟩, .inl ⟨hn, b4, rfl, hc7, ((gd.trans g8).trans g9).next m7 fun x hx e => by omega⟩⟩
    · refine ⟨m9.mono fun x _ e => .inl ⟨rfl, e⟩, ?_⟩
      refine extK_i (vs := [_, _]) (by rfl) (extK_i (vs := [_, _]) (by rfl) ?_)
      have z9 := m9.size
      have b4F : ¬ F b4 := fun e => by have := hF b4 e; omega
      refine stn_over (vs := r) hr2 hg.one (fun j hj => (hl8 j hj).mod m9 (by rw [add_block]; exact b4F)) fun w7 m7 hc7 _ => ⟨m7.mono fun x _ e => .inr ⟨rfl, by omega⟩, .inr ⟨l, g, b4, r, F', uv', rv', hlg, rfl, hg.mod m7 fun x _ hx e => ?_, hc7, fun x hx => ?_, hR9.mod m7 fun x hx e => ?_, ?_⟩⟩
      · exact b4F (e ▸ (hR.cf x hx).1)
      · have := m7.size
        rcases hF' x hx with e | e
        · exact ⟨.inl e, by have := hF x e; omega⟩
        · exact ⟨.inr (by omega), by omega⟩
      · rcases hF' x hx with e' | e'
        · exact b4F (e ▸ e')
        · omega
      · exact (((gd.trans g8).mono fun _ _ h => h.elim : Mod F W w8).trans m9).next m7 fun x hx e => by omega
end
/-- a history of the law's own (w0: the world in which the law began) -/
structure HL (w0 : World) (F : Nat → Prop) (W : World) (b : Nat) (ks : List DKey) (h : Hist) : Prop where
  his : HistI F W b ks h
  hF : ∀ x, F x → w0.heap.size ≤ x ∧ x < W.heap.size
  g : Grow w0 W
section
variable {w0 W W' : World} {F : Nat → Prop} {b : Nat} {ks : List DKey} {h h' : Hist}
theorem HL.grow (hh : HL w0 F W b ks h) (g : Grow W W') : HL w0 F W' b ks h := ⟨hh.his.grow g, fun x hx => ⟨(hh.hF x hx).1, Nat.lt_of_lt_of_le (hh.hF x hx).2 g.size⟩, hh.g.trans g⟩
theorem HL.after (hh : HL w0 F W b ks h) (ha : HAfter F W W' b ks h') : ∃ F', HL w0 F' W' b ks h' ∧ (∀ x, F' x → F x ∨ W.heap.size ≤ x) ∧ Mod F W W' := by
  obtain ⟨F', h1, h2, h3⟩ := ha
  have s := h3.size
  have s0 := hh.g.size
  refine ⟨F', ⟨h2, fun x hx => ?_, hh.g.next h3 fun x hx e => by have := (hh.hF x e).1; omega⟩, fun x hx => ?_, h3⟩
  · rcases h1 x hx with e | e
    · have := hh.hF x e; exact ⟨this.1, by omega⟩
    · exact ⟨by omega, e.2⟩
  · rcases h1 x hx with e | e
    · exact .inl e
    · exact .inr e.1
theorem HL.push {S D S' D' : Nat → Prop} {dv uu : Value} {x y : List Dop} (hh : HL w0 F W b ks h) (hop : h.op = false) (hl : h.us.length ≤ h.max) (hmx : h.max ≤ 65536) (hd : RDops S D W dv x) (hu : RDops S' D' W uu y) (bx : mDops x ≤ 1099511627776) (by' : mDops y ≤ 1099511627776) :
    callK Tryz.prog 18 [.pointer (some ⟨b, 0, none⟩), dv, uu] (fun v' w' => v' = .int .i64 0 ∧ ∃ F', HL w0 F' w' b ks { h with us := keepL h.max h.us ⟨x, y⟩, rs := [] } ∧ (∀ x, F' x → F x ∨ W.heap.size ≤ x) ∧ Mod F W w') W :=
  callK_mono (push_ok hh.his hop hl hmx hd hu bx by' fun x hx => (hh.hF x hx).2) fun _ _ h' => ⟨h'.1, hh.after h'.2⟩
theorem HL.undo (hh : HL w0 F W b ks h) (hop : h.op = false) (hl1 : h.us.length ≤ 65536) (hl2 : h.rs.length ≤ 65536) (hb : ∀ g ∈ h.us, mDops g.u ≤ 1099511627776) :
    callK Tryz.prog 19 [.pointer (some ⟨b, 0, none⟩)] (fun v' w' => (h.us = [] ∧ ∃ cv, v' = .tuple #[cv, .int .i64 10] ∧ Grow W w') ∨
      ∃ l g cv n F', h.us = l ++ [g] ∧ v' = .tuple #[cv, .int .i64 0] ∧ W.heap.size ≤ n ∧ ODops n w' cv g.u ∧ HL w0 F' w' b ks { h with us := l, rs := h.rs ++ [g] } ∧ (∀ x, F' x → (F x ∨ W.heap.size ≤ x) ∧ x < n) ∧ Mod F W w') W := by
  refine callK_mono (undo_ok hh.his hop hl1 hl2 (fun x hx => (hh.hF x hx).2) hb) ?_
  rintro v w' (h1 | ⟨l, g, cv, n, h1, h2, h3, h4, F', h5, h6, h7, h8⟩)
  · exact .inl h1
  · have s0 := hh.g.size
    refine .inr ⟨l, g, cv, n, F', h1, h2, h3, h4, ⟨h6, fun x hx => ?_, hh.g.next h8 fun x hx e => by have := (hh.hF x e).1; omega⟩, h5, h8⟩
    obtain ⟨e, hn⟩ := h5 x hx
    rcases e with e | e
    · exact ⟨(hh.hF x e).1, by omega⟩
    · exact ⟨by omega, by omega⟩
theorem HL.redo (hh : HL w0 F W b ks h) (hop : h.op = false) (hl1 : h.us.length ≤ 65536) (hl2 : h.rs.length ≤ 65536) (hb : ∀ g ∈ h.rs, mDops g.d ≤ 1099511627776) :
    callK Tryz.prog 21 [.pointer (some ⟨b, 0, none⟩)] (fun v' w' => (h.rs = [] ∧ ∃ cv, v' = .tuple #[cv, .int .i64 10] ∧ Grow W w') ∨
      ∃ l g cv n F', h.rs = l ++ [g] ∧ v' = .tuple #[cv, .int .i64 0] ∧ W.heap.size ≤ n ∧ ODops n w' cv g.d ∧ HL w0 F' w' b ks { h with us := h.us ++ [g], rs := l } ∧ (∀ x, F' x → (F x ∨ W.heap.size ≤ x) ∧ x < n) ∧ Mod F W w') W := by
  refine callK_mono (redo_ok hh.his hop hl1 hl2 (fun x hx => (hh.hF x hx).2) hb) ?_
  rintro v w' (h1 | ⟨l, g, cv, n, h1, h2, h3, h4, F', h5, h6, h7, h8⟩)
  · exact .inl h1
  · have s0 := hh.g.size
    refine .inr ⟨l, g, cv, n, F', h1, h2, h3, h4, ⟨h6, fun x hx => ?_, hh.g.next h8 fun x hx e => by have := (hh.hF x e).1; omega⟩, h5, h8⟩
    obtain ⟨e, hn⟩ := h5 x hx
    rcases e with e | e
    · exact ⟨(hh.hF x e).1, by omega⟩
    · exact ⟨by omega, by omega⟩
end
end Go.Proofs.YtlbaopamhkmepaaGreatDoor

namespace Go.K
open Go
/-- a new row of one element -/
theorem OwnR.row1 {α : Type} {B e k : Nat} {R : World → List Value → α → Prop} {w : World} {cs : List Value} {x : α} (hB : B ≤ w.heap.size) (hcs : cs.length = k) (h1 : ∀ u ∈ cs, u.oneCell' = true) (hx : R (w.alloc (.cells cs.toArray e)) cs x) :
    OwnR B e k R (w.alloc (.cells cs.toArray e)) (.slice (some ⟨w.heap.size, 0, none⟩) 1 1) [x] := by
  refine ⟨[cs], ⟨by simp [hcs], .inr ⟨w.heap.size, 1, cs.toArray, rfl, hB, heap_alloc_new w _, by simp, by simp [maxLen], by simp [hcs], by simp [← hcs]⟩⟩, rfl, fun r hr => ?_, fun i r y hr hy => ?_⟩
  · simp only [List.mem_singleton] at hr
    subst hr
    exact ⟨hcs, h1⟩
  · have hi : i = 0 := by have := (List.getElem?_eq_some_iff.1 hr).1; simp at this; exact this
    subst hi
    cases hr; cases hy
    exact hx
end Go.K
namespace Go.Proofs.YtlbaopamhkmepaaGreatDoor
open Go Go.K

def insO (r : Int) : Dop := ⟨2, 0, [r], [], []⟩
def delO (n : Int) : Dop := ⟨3, n, [], [], []⟩
/-- an insert of one rune, and what takes it away -/
theorem in_ok {r : Int} {w : World} : callK Tryz.prog 17 [.int .i32 r] (fun v' w' => Grow w w' ∧ ∃ dv uv, v' = .tuple #[dv, uv] ∧ ODops w.heap.size w' dv [insO r] ∧ ODops w.heap.size w' uv [delO 1] ∧ (∀ g, uv.ownBlock = some g → dv.ownBlock ≠ some g ∧ (∀ x, w.heap.size ≤ x → x < w'.heap.size → x = g ∨ x < g))) w := by
  apply S17_ok
  unfold S17
  refine rowK_i (cs := [.int .i32 r]) (by kernel_rfl) ?_
  have g1 : Grow w (w.alloc (.cells [Value.int .i32 r].toArray 21)) := Mod.alloc _ _ _
  have o1 : OwnR w.heap.size 21 1 RRune (w.alloc (.cells [Value.int .i32 r].toArray 21)) (.slice (some ⟨w.heap.size, 0, none⟩) 1 1) [r] := OwnR.row1 (Nat.le_refl _) rfl (fun u hu => by simp at hu; subst hu; rfl) rfl
  have z1 : (w.alloc (.cells [Value.int .i32 r].toArray 21)).heap.size = w.heap.size + 1 := by simp
  generalize w.alloc (.cells [Value.int .i32 r].toArray 21) = w1 at g1 o1 z1 ⊢
  refine ⟨#[.int .u8 2, .int .i64 0, .slice (some ⟨w.heap.size, 0, none⟩) 1 1, .slice none 0 0, .slice none 0 0], by kernel_rfl, ?_⟩
  refine rowK_i (cs := [.int .u8 2, .int .i64 0, .slice (some ⟨w.heap.size, 0, none⟩) 1 1, .slice none 0 0, .slice none 0 0]) (by kernel_rfl) ?_
  have g2 : Grow w1 (w1.alloc (.cells [Value.int .u8 2, .int .i64 0, .slice (some ⟨w.heap.size, 0, none⟩) 1 1, .slice none 0 0, .slice none 0 0].toArray 39)) := Mod.alloc _ _ _
  have o2 : ODops w.heap.size (w1.alloc (.cells [Value.int .u8 2, .int .i64 0, .slice (some ⟨w.heap.size, 0, none⟩) 1 1, .slice none 0 0, .slice none 0 0].toArray 39)) (.slice (some ⟨w1.heap.size, 0, none⟩) 1 1) [insO r] := by
    refine OwnR.row1 (by omega) rfl (fun u hu => by simp at hu; rcases hu with rfl | rfl | rfl | rfl <;> rfl) ⟨_, _, _, rfl, ⟨OwnR.mod (o1.base fun _ _ => Nat.zero_le _) g2 (fun _ _ h => h) fun _ _ _ h => h, fun g hg => ?_⟩, ⟨OwnR.nil, fun g hg => nomatch hg⟩, ⟨OwnR.nil, fun g hg => nomatch hg⟩⟩
    have e : w.heap.size = g := Option.some.inj hg
    exact ⟨by omega, fun e2 => by have e3 : w1.heap.size = g := Option.some.inj e2; omega⟩
  have z2 : (w1.alloc (.cells [Value.int .u8 2, .int .i64 0, .slice (some ⟨w.heap.size, 0, none⟩) 1 1, .slice none 0 0, .slice none 0 0].toArray 39)).heap.size = w1.heap.size + 1 := by simp
  generalize w1.alloc (.cells [Value.int .u8 2, .int .i64 0, .slice (some ⟨w.heap.size, 0, none⟩) 1 1, .slice none 0 0, .slice none 0 0].toArray 39) = w2 at g2 o2 z2 ⊢
  refine ⟨#[.int .u8 3, .int .i64 1, .slice none 0 0, .slice none 0 0, .slice none 0 0], by kernel_rfl, ?_⟩
  refine rowK_i (cs := [.int .u8 3, .int .i64 1, .slice none 0 0, .slice none 0 0, .slice none 0 0]) (by kernel_rfl) ?_
  have g3 : Grow w2 (w2.alloc (.cells [Value.int .u8 3, .int .i64 1, .slice none 0 0, .slice none 0 0, .slice none 0 0].toArray 39)) := Mod.alloc _ _ _
  refine ⟨(g1.trans g2).trans g3, _, _, rfl, ODops.grow o2 g3 fun _ _ _ h => h, ?_, fun g hg => ?_⟩
  · exact OwnR.row1 (by omega) rfl (fun u hu => by simp at hu; rcases hu with rfl | rfl | rfl <;> rfl) ⟨_, _, _, rfl, ⟨OwnR.nil, fun g hg => nomatch hg⟩, ⟨OwnR.nil, fun g hg => nomatch hg⟩, ⟨OwnR.nil, fun g hg => nomatch hg⟩⟩
  · have e : w2.heap.size = g := Option.some.inj hg
    refine ⟨fun e2 => by have e3 : w1.heap.size = g := Option.some.inj e2; omega, fun x _ hx => ?_⟩
    have : (w2.alloc (.cells [Value.int .u8 3, .int .i64 1, .slice none 0 0, .slice none 0 0, .slice none 0 0].toArray 39)).heap.size = w2.heap.size + 1 := by simp
    omega
/-- what was told and stays: it lies between lo and hi, the history does not -/
structure HK (F : Nat → Prop) (W : World) (lo hi : Nat) (v : Value) (l : List Dop) : Prop where
  rd : RDops (fun z => lo ≤ z ∧ z < hi) (fun z => lo ≤ z ∧ z < hi) W v l
  sz : hi ≤ W.heap.size
  ap : ∀ x, F x → x < lo ∨ hi ≤ x
theorem HK.next {F F' : Nat → Prop} {W W' : World} {lo hi : Nat} {v : Value} {l : List Dop} (h : HK F W lo hi v l) (hm : Mod F W W') (hF : ∀ x, F' x → F x ∨ W.heap.size ≤ x) : HK F' W' lo hi v l := by
  have hn : ∀ b, b < W.heap.size → (lo ≤ b ∧ b < hi) → ¬ F b := fun b _ hb hf => by rcases h.ap b hf with e | e <;> omega
  refine ⟨h.rd.mod hm hn hn, Nat.le_trans h.sz hm.size, fun x hx => ?_⟩
  rcases hF x hx with e | e
  · exact h.ap x e
  · have := h.sz; exact .inr (by omega)
theorem HK.grow {F : Nat → Prop} {W W' : World} {lo hi : Nat} {v : Value} {l : List Dop} (h : HK F W lo hi v l) (g : Grow W W') : HK F W' lo hi v l := ⟨h.rd.grow g, Nat.le_trans h.sz g.size, h.ap⟩
theorem HK.new {F : Nat → Prop} {W : World} {n : Nat} {v : Value} {l : List Dop} (h : ODops n W v l) (hF : ∀ x, F x → x < n ∨ W.heap.size ≤ x) : HK F W n W.heap.size v l := ⟨ODops.reads h, Nat.le_refl _, hF⟩
theorem mins (r : Int) : mDops [insO r] ≤ 1099511627776 := by simp [mDops, mDop, insO, mSet, mPat]
theorem mdel (n : Int) : mDops [delO n] ≤ 1099511627776 := by simp [mDops, mDop, delO, mSet, mPat]
def gin (r n : Int) : Grp := ⟨[insO r], [delO n]⟩
end Go.Proofs.YtlbaopamhkmepaaGreatDoor

namespace Go.Proofs.YtlbaopamhkmepaaGreatDoor
open Go Go.K

theorem newnil_ok {w : World} : callK Tryz.prog 14 [.slice none 0 0] (fun v' w' => Grow w w' ∧ ∃ sv, v' = .tuple #[sv, .int .i64 0] ∧ SchR (fun x => w.heap.size ≤ x) w' sv []) w := by
  refine callK_mono (new_key_ok (S := fun _ => False) (keys := []) SlR.nil) ?_
  rintro v w' ⟨g, hr⟩
  refine ⟨g, ?_⟩
  rcases hr with ⟨_, sv, ks, rfl, hp, _, hS⟩ | ⟨hn, _⟩
  · have : ks = [] := List.perm_nil.1 hp
    subst this
    exact ⟨sv, rfl, hS⟩
  · exact absurd ((mayk_iff (keys := [])).2 ⟨by simp, (fun x hx => by simp at hx), List.Pairwise.nil⟩) hn
theorem HL.new {w0 W : World} {C : Nat → Prop} {sv : Value} {ks : List DKey} {mx : Nat} (hS : SchR C W sv ks) (hC : ∀ x, x < W.heap.size → C x → w0.heap.size ≤ x) (g : Grow w0 W) (hmx : mx ≤ 65536) :
    callK Tryz.prog 15 [sv, .int .i64 mx] (fun v' w' => ∃ b F, v' = .tuple #[.pointer (some ⟨b, 0, none⟩), .int .i64 0] ∧ HL w0 F w' b ks ⟨mx, [], [], false, []⟩) W := by
  refine callK_mono (hnew_ok hS hmx) ?_
  rintro _ w' ⟨g', b, hb, rfl, hH⟩
  have := g.size
  have := g'.size
  exact ⟨b, _, rfl, hH, fun x hx => by rcases hx with ⟨h1, h2⟩ | ⟨h1, h2⟩; exact ⟨hC x h2 h1, by omega⟩; exact ⟨by omega, h2⟩, g.trans g'⟩
theorem concat_inj {α : Type} {l l' : List α} {g g' : α} (h : l ++ [g] = l' ++ [g']) : l = l' ∧ g = g' := by
  have := List.append_inj' h rfl
  exact ⟨this.1, by simpa using this.2⟩
/-- the three groups of the known case -/
def kus : Nat → List Grp
  | 0 => []
  | 1 => [gin 97 1]
  | 2 => [gin 97 1, gin 98 1]
  | _ => [gin 98 1, gin 99 1]
set_option maxRecDepth 20000 in
theorem known27_ok {w : World} : callK Tryz.prog 16 [] (fun v w' => v = .bool true ∧ Grow w w') w := by
  apply S16_ok
  unfold S16
  refine callK_mono newnil_ok ?_
  rintro _ w1 ⟨g1, sv, rfl, hS⟩
  refine extK_i (vs := [_, _]) (by rfl) (extK_i (vs := [_, _]) (by rfl) ?_)
  refine callK_mono (HL.new (mx := 2) hS (fun x _ hx => hx) g1 (by decide)) ?_
  rintro _ w2 ⟨b, F, rfl, hH⟩
  refine extK_i (vs := [_, _]) (by rfl) (extK_i (vs := [_, _]) (by rfl) ?_)
  refine JoinK_i (fun _ W => W = w2) ?_ ?_
  rotate_left
  · rw [neK_i]
    refine condK_neg (fun _ => ?_) fun e => (e rfl).elim
    rw [neK_i]
    refine condK_neg (fun _ => ?_) fun e => (e rfl).elim
    exact pnilK_s (condK_f rfl)
  rintro _ _ rfl _
  rename World => w2
  refine runK_i (v := .agg #[.int .i32 97, .int .i32 98, .int .i32 99]) (w' := w2) (by kernel_rfl) ?_
  refine LoopK_i (fun vs W => ∃ (i : Nat) (F : Nat → Prop), i ≤ 3 ∧ vs = [.int .i64 i] ∧ HL w F W b [] ⟨2, kus i, [], false, []⟩) (fun vs _ => 3 - iOf vs 0) ⟨0, F, by omega, rfl, hH⟩ ?_
  rintro vs W ⟨i, F, hi, rfl, hH⟩ _
  rw [nth_z, List.headD_cons, ltK_i]
  refine condK_p (fun hlt => ?_) fun hge => ?_
  · have step : ∀ (r : Int), keepL 2 (kus i) (gin r 1) = kus (i + 1) → (kus i).length ≤ 2 → (Instr.index 93 (.agg #[.int .i32 97, .int .i32 98, .int .i32 99]) (.int .i64 i)).run Tryz.prog W = .ok (.int .i32 r) W →
        runK Tryz.prog (Instr.index 93 (.agg #[.int .i32 97, .int .i32 98, .int .i32 99]) (.int .i64 i)) (fun t43 w6 => callK Tryz.prog 17 [t43] (fun t46 w7 => extK 0 t46 fun t47 => extK 1 t46 fun t48 => callK Tryz.prog 18 [.pointer (some ⟨b, 0, none⟩), t47, t48] (fun t52 w8 => neK .i64 t52 (.int .i64 0) fun t53 => condK t53 ((.bool false : Value) = .bool true ∧ Grow w w8) (addK .i64 (.int .i64 i) (.int .i64 1) fun t54 => (∃ (i : Nat) (F : Nat → Prop), i ≤ 3 ∧ [t54] = [.int .i64 (i : Int)] ∧ HL w F w8 b [] ⟨2, kus i, [], false, []⟩) ∧ 3 - iOf [t54] 0 < 3 - iOf [.int .i64 (i : Int)] 0)) w7) w6) W := by
      intro r hk hl hrun
      refine runK_i hrun (callK_mono in_ok ?_)
      rintro _ w7 ⟨g7, dv, uv, rfl, hd, hu, _⟩
      refine extK_i (vs := [_, _]) (by rfl) (extK_i (vs := [_, _]) (by rfl) ?_)
      refine callK_mono ((hH.grow g7).push rfl hl (show 2 ≤ 65536 by decide) (ODops.sl hd) (ODops.sl hu) (mins r) (mdel 1)) ?_
      rintro _ w8 ⟨rfl, F8, hH8, _, _⟩
      have hH8' : HL w F8 w8 b [] ⟨2, kus (i + 1), [], false, []⟩ := by rw [← hk]; exact hH8
      rw [neK_i]
      refine condK_neg (fun _ => ?_) fun e => (e rfl).elim
      rw [addK_i, loop_step (by omega)]
      exact ⟨⟨i + 1, F8, by omega, rfl, hH8'⟩, by rw [iOf0, iOf0]; omega⟩
    rcases (show i = 0 ∨ i = 1 ∨ i = 2 by omega) with rfl | rfl | rfl
    · exact step 97 rfl (by decide) (by kernel_rfl)
    · exact step 98 rfl (by decide) (by kernel_rfl)
    · exact step 99 rfl (by decide) (by kernel_rfl)
  obtain rfl : i = 3 := by omega
  have b8 : ∀ (us : List Grp), (∀ g ∈ us, g = gin 97 1 ∨ g = gin 98 1 ∨ g = gin 99 1) → (∀ g ∈ us, mDops g.u ≤ 1099511627776) ∧ ∀ g ∈ us, mDops g.d ≤ 1099511627776 := fun us h => ⟨fun g hg => by rcases h g hg with rfl | rfl | rfl <;> exact mdel 1, fun g hg => by rcases h g hg with rfl | rfl | rfl <;> exact mins _⟩
  -- undone: c
  refine callK_mono (hH.undo rfl (by simp [kus]) (by simp) (b8 _ (by simp [kus])).1) ?_
  rintro _ w9 (⟨hn, _⟩ | ⟨l, g, cx, n9, F9, hlg, rfl, hn9, ox, hH9, hF9, m9⟩)
  · cases hn
  obtain ⟨rfl, rfl⟩ := concat_inj (l := [gin 98 1]) (g := gin 99 1) hlg
  have kx : HK F9 w9 n9 w9.heap.size cx [delO 1] := HK.new ox fun x hx => .inl (hF9 x hx).2
  have hH9' : HL w F9 w9 b [] ⟨2, [gin 98 1], [gin 99 1], false, []⟩ := hH9
  refine extK_i (vs := [_, _]) (by rfl) (extK_i (vs := [_, _]) (by rfl) ?_)
  -- undone: b
  refine callK_mono (hH9'.undo rfl (by simp) (by simp) (b8 _ (by simp)).1) ?_
  rintro _ w10 (⟨hn, _⟩ | ⟨l, g, c10, n10, F10, hlg, rfl, hn10, _, hH10, hF10, m10⟩)
  · cases hn
  obtain ⟨rfl, rfl⟩ := concat_inj (l := []) (g := gin 98 1) hlg
  have kx10 := kx.next m10 fun x hx => (hF10 x hx).1
  have hH10' : HL w F10 w10 b [] ⟨2, [], [gin 99 1, gin 98 1], false, []⟩ := hH10
  refine extK_i (vs := [_, _]) (by rfl) (extK_i (vs := [_, _]) (by rfl) ?_)
  -- no more
  refine callK_mono (hH10'.undo rfl (by simp) (by simp) (by simp)) ?_
  rintro _ w11 (⟨_, c11, rfl, g11⟩ | ⟨l, g, _, _, _, hlg, _⟩)
  rotate_left
  · exact absurd hlg (by simp)
  refine extK_i (vs := [_, _]) (by rfl) (extK_i (vs := [_, _]) (by rfl) ?_)
  have hH11 := hH10'.grow g11
  have kx11 := kx10.grow g11
  -- done again: b
  refine callK_mono (hH11.redo rfl (by simp) (by simp) (b8 _ (by simp)).2) ?_
  rintro _ w12 (⟨hn, _⟩ | ⟨l, g, cy, n12, F12, hlg, rfl, hn12, oy, hH12, hF12, m12⟩)
  · cases hn
  obtain ⟨rfl, rfl⟩ := concat_inj (l := [gin 99 1]) (g := gin 98 1) hlg
  have hH12' : HL w F12 w12 b [] ⟨2, [gin 98 1], [gin 99 1], false, []⟩ := hH12
  have kx12 := kx11.next m12 fun x hx => (hF12 x hx).1
  have ky : HK F12 w12 n12 w12.heap.size cy [insO 98] := HK.new oy fun x hx => .inl (hF12 x hx).2
  refine extK_i (vs := [_, _]) (by rfl) (extK_i (vs := [_, _]) (by rfl) ?_)
  refine callK_mono in_ok ?_
  rintro _ w13 ⟨g13, dv, uv, rfl, hd, hu, _⟩
  refine extK_i (vs := [_, _]) (by rfl) (extK_i (vs := [_, _]) (by rfl) ?_)
  have hH13 := hH12'.grow g13
  refine callK_mono (depths_ok hH13.his) ?_
  rintro _ w14 ⟨rfl, g14⟩
  refine extK_i (vs := [_, _]) (by rfl) (extK_i (vs := [_, _]) (by rfl) ?_)
  have hH14 := hH13.grow g14
  rw [eqK_i]; refine condK_p (fun _ => ?_) fun e => (e rfl).elim
  rw [eqK_i]; refine condK_p (fun _ => ?_) fun e => (e rfl).elim
  rw [eqK_i]; refine condK_p (fun _ => ?_) fun e => (e rfl).elim
  rw [eqK_i]; refine condK_p (fun _ => ?_) fun e => (e rfl).elim
  have g24 := g13.trans g14
  refine callK_mono (rsame_dops (kx12.grow g24).rd (ODops.sl (ODops.grow hu g14 fun _ _ _ h => h))) ?_
  rintro _ w15 ⟨rfl, g15⟩
  rw [decide_eq_true rfl]
  refine condK_t ?_
  refine callK_mono (rsame_dops (ky.grow (g24.trans g15)).rd (ODops.sl (ODops.grow hd (g14.trans g15) fun _ _ _ h => h))) ?_
  rintro _ w16 ⟨rfl, g16⟩
  rw [decide_eq_true rfl]
  refine condK_t ?_
  rw [eqK_i]; refine condK_p (fun _ => ?_) fun e => (e rfl).elim
  rw [eqK_i]; refine condK_p (fun _ => ?_) fun e => (e rfl).elim
  have g46 := (g14.trans g15).trans g16
  have hH16 := (hH14.grow g15).grow g16
  refine callK_mono (hH16.push rfl (by simp) (by simp) (ODops.sl (ODops.grow hd g46 fun _ _ _ h => h)) (ODops.sl (ODops.grow hu g46 fun _ _ _ h => h)) (mins 98) (mdel 1)) ?_
  rintro _ w17 ⟨rfl, F17, hH17, _, _⟩
  rw [eqK_i]; refine condK_p (fun _ => ?_) fun e => (e rfl).elim
  refine callK_mono (begin_ok hH17.his) ?_
  rintro _ w18 (⟨h1, _⟩ | ⟨_, rfl, ha⟩)
  · cases h1
  obtain ⟨F18, hH18, _, _⟩ := hH17.after ha
  rw [eqK_i]; refine condK_p (fun _ => ?_) fun e => (e rfl).elim
  refine callK_mono (begin_ok hH18.his) ?_
  rintro _ w19 (⟨_, rfl, rfl⟩ | ⟨h1, _⟩)
  rotate_left
  · cases h1
  rw [eqK_i]; refine condK_p (fun _ => ?_) fun e => (e rfl).elim
  refine callK_mono (open_ok hH18.his) ?_
  rintro _ _ ⟨rfl, rfl⟩
  exact ⟨rfl, hH18.g⟩
end Go.Proofs.YtlbaopamhkmepaaGreatDoor

namespace Go.Proofs.YtlbaopamhkmepaaGreatDoor
open Go Go.K

/-! ### patches one behind the other -/
abbrev RisP (l : List Chg) : Prop := l.Pairwise fun a b => a.key < b.key
abbrev RisS (l : List Attr) : Prop := l.Pairwise fun a b => a.key < b.key
def lowC (c : Chg) : List Chg → List Chg
  | [] => []
  | a :: p => if a.key ≤ c.key then (if a.key < c.key then a :: lowC c p else lowC c p) else []
def highC (c : Chg) : List Chg → List Chg
  | [] => []
  | a :: p => if a.key ≤ c.key then highC c p else a :: p
def comP : List Chg → List Chg → List Chg
  | p, [] => p
  | p, c :: q => lowC c p ++ c :: comP (highC c p) q
theorem lowC_mem {c : Chg} {p : List Chg} {x : Chg} (h : x ∈ lowC c p) : x ∈ p ∧ x.key < c.key := by
  induction p with
  | nil => simp [lowC] at h
  | cons a p ih =>
    simp only [lowC] at h
    split at h
    · split at h
      · rcases List.mem_cons.1 h with rfl | h
        · exact ⟨by simp, by assumption⟩
        · exact ⟨by simp [(ih h).1], (ih h).2⟩
      · exact ⟨by simp [(ih h).1], (ih h).2⟩
    · simp at h
theorem highC_mem {c : Chg} {p : List Chg} {x : Chg} (h : x ∈ highC c p) : x ∈ p := by
  induction p with
  | nil => simp [highC] at h
  | cons a p ih =>
    simp only [highC] at h
    split at h
    · simp [ih h]
    · exact h
theorem highC_gt {c : Chg} {p : List Chg} (hp : RisP p) {x : Chg} (h : x ∈ highC c p) : c.key < x.key := by
  induction p with
  | nil => simp [highC] at h
  | cons a p ih =>
    rw [RisP, List.pairwise_cons] at hp
    simp only [highC] at h
    split at h
    · exact ih hp.2 h
    · rcases List.mem_cons.1 h with rfl | h
      · omega
      · have := hp.1 x h; omega
theorem lowC_ris {c : Chg} {p : List Chg} (hp : RisP p) : RisP (lowC c p) := by
  induction p with
  | nil => exact List.Pairwise.nil
  | cons a p ih =>
    rw [RisP, List.pairwise_cons] at hp
    simp only [lowC]
    split
    · split
      · exact List.pairwise_cons.2 ⟨fun x hx => hp.1 x (lowC_mem hx).1, ih hp.2⟩
      · exact ih hp.2
    · exact List.Pairwise.nil
theorem highC_ris {c : Chg} {p : List Chg} (hp : RisP p) : RisP (highC c p) := by
  induction p with
  | nil => exact List.Pairwise.nil
  | cons a p ih =>
    have hp' := hp
    rw [RisP, List.pairwise_cons] at hp
    simp only [highC]
    split
    · exact ih hp.2
    · exact hp'
theorem comP_mem {p q : List Chg} {x : Chg} (h : x ∈ comP p q) : x ∈ p ∨ x ∈ q := by
  induction q generalizing p with
  | nil => exact .inl h
  | cons c q ih =>
    simp only [comP] at h
    rcases List.mem_append.1 h with h | h
    · exact .inl (lowC_mem h).1
    · rcases List.mem_cons.1 h with rfl | h
      · exact .inr (by simp)
      · rcases ih h with h | h
        · exact .inl (highC_mem h)
        · exact .inr (by simp [h])
theorem comP_ris {p q : List Chg} (hp : RisP p) (hq : RisP q) : RisP (comP p q) := by
  induction q generalizing p with
  | nil => exact hp
  | cons c q ih =>
    rw [RisP, List.pairwise_cons] at hq
    simp only [comP]
    have gt : ∀ x ∈ comP (highC c p) q, c.key < x.key := fun x hx => by
      rcases comP_mem hx with h | h
      · exact highC_gt hp h
      · exact hq.1 x h
    refine List.pairwise_append.2 ⟨lowC_ris hp, List.pairwise_cons.2 ⟨gt, ih (highC_ris hp) hq.2⟩, fun a ha b hb => ?_⟩
    have := (lowC_mem ha).2
    rcases List.mem_cons.1 hb with rfl | hb
    · exact this
    · have := gt b hb; omega
/-! ### patches on sets -/
def lowA (c : Chg) : List Attr → List Attr
  | [] => []
  | a :: s => if a.key < c.key then a :: lowA c s else []
def highA (c : Chg) : List Attr → List Attr
  | [] => []
  | a :: s => if a.key < c.key then highA c s else if a.key = c.key then s else a :: s
def midA (c : Chg) : List Attr := if c.gone then [] else [⟨c.key, c.val⟩]
def appP : List Attr → List Chg → List Attr
  | s, [] => s
  | s, c :: p => lowA c s ++ midA c ++ appP (highA c s) p
def without (l : List Attr) (k : Int) : List Attr := l.filter fun a => decide (a.key ≠ k)
theorem lowA_mem {c : Chg} {p : List Attr} {x : Attr} (h : x ∈ lowA c p) : x ∈ p ∧ x.key < c.key := by
  induction p with
  | nil => simp [lowA] at h
  | cons a p ih =>
    simp only [lowA] at h
    split at h
    · rcases List.mem_cons.1 h with rfl | h
      · exact ⟨by simp, by assumption⟩
      · exact ⟨by simp [(ih h).1], (ih h).2⟩
    · simp at h
theorem highA_mem {c : Chg} {p : List Attr} {x : Attr} (h : x ∈ highA c p) : x ∈ p := by
  induction p with
  | nil => simp [highA] at h
  | cons a p ih =>
    simp only [highA] at h
    split at h
    · simp [ih h]
    · split at h
      · simp [h]
      · exact h
theorem highA_gt {c : Chg} {p : List Attr} (hp : RisS p) {x : Attr} (h : x ∈ highA c p) : c.key < x.key := by
  induction p with
  | nil => simp [highA] at h
  | cons a p ih =>
    rw [RisS, List.pairwise_cons] at hp
    simp only [highA] at h
    split at h
    · exact ih hp.2 h
    · split at h
      · have := hp.1 x h; omega
      · rcases List.mem_cons.1 h with rfl | h
        · omega
        · have := hp.1 x h; omega
theorem lowA_ris {c : Chg} {p : List Attr} (hp : RisS p) : RisS (lowA c p) := by
  induction p with
  | nil => exact List.Pairwise.nil
  | cons a p ih =>
    rw [RisS, List.pairwise_cons] at hp
    simp only [lowA]
    split
    · exact List.pairwise_cons.2 ⟨fun x hx => hp.1 x (lowA_mem hx).1, ih hp.2⟩
    · exact List.Pairwise.nil
theorem highA_ris {c : Chg} {p : List Attr} (hp : RisS p) : RisS (highA c p) := by
  induction p with
  | nil => exact List.Pairwise.nil
  | cons a p ih =>
    have hp' := hp
    rw [RisS, List.pairwise_cons] at hp
    simp only [highA]
    split
    · exact ih hp.2
    · split
      · exact hp.2
      · exact hp'
theorem midA_mem {c : Chg} {x : Attr} (h : x ∈ midA c) : c.gone = false ∧ x = ⟨c.key, c.val⟩ := by
  unfold midA at h
  split at h
  · simp at h
  · rename_i hg; exact ⟨by simpa using hg, by simpa using h⟩
theorem appP_mem {s : List Attr} {p : List Chg} {x : Attr} (h : x ∈ appP s p) : x ∈ s ∨ ∃ c ∈ p, c.gone = false ∧ x = ⟨c.key, c.val⟩ := by
  induction p generalizing s with
  | nil => exact .inl h
  | cons c p ih =>
    simp only [appP] at h
    rcases List.mem_append.1 h with h | h
    · rcases List.mem_append.1 h with h | h
      · exact .inl (lowA_mem h).1
      · exact .inr ⟨c, by simp, midA_mem h⟩
    · rcases ih h with h | ⟨d, hd, h⟩
      · exact .inl (highA_mem h)
      · exact .inr ⟨d, by simp [hd], h⟩
theorem appP_ris {s : List Attr} {p : List Chg} (hs : RisS s) (hp : RisP p) : RisS (appP s p) := by
  induction p generalizing s with
  | nil => exact hs
  | cons c p ih =>
    rw [RisP, List.pairwise_cons] at hp
    simp only [appP]
    have gt : ∀ x ∈ appP (highA c s) p, c.key < x.key := fun x hx => by
      rcases appP_mem hx with h | ⟨d, hd, _, rfl⟩
      · exact highA_gt hs h
      · exact hp.1 d hd
    refine List.pairwise_append.2 ⟨List.pairwise_append.2 ⟨lowA_ris hs, ?_, fun a ha b hb => ?_⟩, ih (highA_ris hs) hp.2, fun a ha b hb => ?_⟩
    · unfold midA; split
      · exact List.Pairwise.nil
      · exact List.pairwise_singleton _ _
    · obtain ⟨_, rfl⟩ := midA_mem hb
      exact (lowA_mem ha).2
    · have h2 := gt b hb
      rcases List.mem_append.1 ha with h | h
      · have := (lowA_mem h).2; omega
      · obtain ⟨_, rfl⟩ := midA_mem h
        exact h2
/-- no more things than keys -/
theorem few {α : Type} {key : α → Int} {l : List α} {ids : List Int} (h : l.Pairwise fun a b => key a < key b) (hm : ∀ x ∈ l, key x ∈ ids) : l.length ≤ ids.length := by
  induction l generalizing ids with
  | nil => simp
  | cons a l ih =>
    rw [List.pairwise_cons] at h
    have ha := hm a (by simp)
    have := ih (ids := ids.erase (key a)) h.2 fun x hx => by
      rw [List.mem_erase_of_ne]
      · exact hm x (by simp [hx])
      · have := h.1 x hx; omega
    rw [List.length_erase_of_mem ha] at this
    have : 0 < ids.length := List.length_pos_of_mem ha
    simp only [List.length_cons]
    omega
theorem ris_pw {α : Type} {key : α → Int} {l : List α} (h : ∀ i, 1 ≤ i → i < l.length → ∀ a b, l[i - 1]? = some a → l[i]? = some b → key a < key b) : l.Pairwise fun a b => key a < key b := by
  rw [List.pairwise_iff_getElem]
  intro i j hi hj hij
  obtain ⟨d, rfl⟩ : ∃ d, j = i + 1 + d := ⟨j - i - 1, by omega⟩
  clear hij
  induction d with
  | zero => exact h (i + 1) (by omega) hj _ _ (by simp) (List.getElem?_eq_getElem hj)
  | succ d ih =>
    have := ih (by omega)
    have := h (i + 1 + d + 1) (by omega) hj (l[i + 1 + d]'(by omega)) _ (by simp) (List.getElem?_eq_getElem hj)
    simp only [Nat.add_assoc] at *
    omega
theorem pw_ris {α : Type} {key : α → Int} {l : List α} (h : l.Pairwise fun a b => key a < key b) : ∀ i, 1 ≤ i → i < l.length → ∀ a b, l[i - 1]? = some a → l[i]? = some b → key a < key b := by
  intro i h1 h2 a b ha hb
  rw [List.pairwise_iff_getElem] at h
  have := h (i - 1) i (by omega) h2 (by omega)
  rw [List.getElem?_eq_getElem (by omega)] at ha
  rw [List.getElem?_eq_getElem h2] at hb
  cases ha; cases hb; exact this
end Go.Proofs.YtlbaopamhkmepaaGreatDoor

namespace Go.Proofs.YtlbaopamhkmepaaGreatDoor
open Go Go.K

/-! ### deltas cut in ones, one behind the other -/
def lenN (o : Dop) : Nat := if o.kind = 2 then o.runes.length else o.n.toNat
def ones (o : Dop) : List Dop := if o.kind = 2 then o.runes.map fun r => ⟨2, 0, [r], o.set, o.patch⟩ else List.replicate o.n.toNat ⟨o.kind, 1, [], o.set, o.patch⟩
def onesL (x : List Dop) : List Dop := x.flatMap ones
def refC (one : Dop → Dop → List Dop) : List Dop → List Dop → List Dop
  | a, [] => a
  | a, c :: b => if c.kind = 2 then c :: refC one a b else
      a.takeWhile (fun o => decide (o.kind = 3)) ++
      match a.dropWhile (fun o => decide (o.kind = 3)) with
      | [] => one ⟨1, 1, [], [], []⟩ c ++ refC one [] b
      | u :: a => one u c ++ refC one a b
theorem wrapI_add (a b : Int) : IntKind.i64.wrap (IntKind.i64.wrap a + b) = IntKind.i64.wrap (a + b) := by
  simp only [IntKind.wrap, IntKind.bits, IntKind.signed]
  simp
  omega
theorem wrapI_in {x : Int} (h0 : 0 ≤ x) (h1 : x ≤ 1099511627776) : IntKind.i64.wrap x = x := by
  simp only [IntKind.wrap, IntKind.bits, IntKind.signed]
  simp
  omega
/-! #### the maker cannot tell an op from its parts -/
theorem del_two (s : MkS) {a b : Int} (ha : 0 ≤ a) (hb : 0 ≤ b) : delS (delS s a) b = delS s (a + b) := by
  unfold delS maxI
  rw [if_neg (by omega), if_neg (by omega), if_neg (by omega)]
  simp only [wrapI_add, Int.add_assoc]
theorem ins_two (s : MkS) (a b : List Int) (set : List Attr) : insS (insS s a set) b set = insS s (a ++ b) set := by
  unfold insS
  by_cases ha : a = []
  · subst ha; simp
  by_cases hb : b = []
  · subst hb; simp [ha]
  rw [if_neg ha, if_neg hb, if_neg (by simp [ha])]
  have e : addI (addI s.ins a set) b set = addI s.ins (a ++ b) set := by
    generalize s.ins = ins
    unfold addI
    rcases List.eq_nil_or_concat ins with rfl | ⟨i, o, rfl⟩
    · simp
    · simp only [List.concat_eq_append, List.getLast?_append, List.getLast?_singleton, Option.some_or]
      by_cases e : o.set = set
      · simp [e]
      · simp [e]
  simp only [e]
theorem ret_two (s : MkS) {a b : Int} (ha : 1 ≤ a) (hb : 1 ≤ b) (hab : a + b ≤ 1099511627776) (p : List Chg) : retS (retS s a p) b p = retS s (a + b) p := by
  unfold retS
  rw [if_neg (by omega), if_neg (by omega), if_neg (by omega)]
  simp only [gapL, Int.lt_irrefl, if_false, List.append_nil]
  generalize s.done ++ (if 0 < s.gone then s.ins ++ [⟨3, s.gone, [], [], []⟩] else s.ins) = d
  congr 1
  unfold putS
  rcases List.eq_nil_or_concat d with rfl | ⟨i, o, rfl⟩
  · simp [wrapI_in (show 0 ≤ a + b by omega) hab]
  · simp only [List.concat_eq_append, List.getLast?_append, List.getLast?_singleton, Option.some_or]
    by_cases e : o.kind = 1 ∧ o.patch = p
    · simp [e, wrapI_add, Int.add_assoc]
    · simp [e, wrapI_in (show 0 ≤ a + b by omega) hab]
theorem del_n (s : MkS) (n : Nat) (set : List Attr) (p : List Chg) : (List.replicate n (⟨3, 1, [], set, p⟩ : Dop)).foldl stepS s = delS s n ∨ (n = 0 ∧ (List.replicate n (⟨3, 1, [], set, p⟩ : Dop)).foldl stepS s = s) := by
  induction n generalizing s with
  | zero => exact .inr ⟨rfl, rfl⟩
  | succ n ih =>
    left
    rw [List.replicate_succ, List.foldl_cons]
    have e : stepS s ⟨3, 1, [], set, p⟩ = delS s 1 := by simp [stepS]
    rw [e]
    rcases ih (delS s 1) with h | ⟨rfl, h⟩
    · rw [h, del_two s (by decide) (by omega)]
      congr 1; omega
    · rw [h]; rfl
theorem ret_n (s : MkS) (n : Nat) (h1 : 1 ≤ n) (h2 : n ≤ 1099511627776) (set : List Attr) (p : List Chg) : (List.replicate n (⟨1, 1, [], set, p⟩ : Dop)).foldl stepS s = retS s n p := by
  induction n generalizing s with
  | zero => omega
  | succ n ih =>
    rw [List.replicate_succ, List.foldl_cons]
    have e : stepS s ⟨1, 1, [], set, p⟩ = retS s 1 p := by simp [stepS]
    rw [e]
    by_cases hn : n = 0
    · subst hn; rfl
    · rw [ih _ (by omega) (by omega), ret_two s (by decide) (by omega) (by omega)]
      congr 1; omega
theorem ins_n (s : MkS) (rs : List Int) (set : List Attr) (p : List Chg) : (rs.map fun r => (⟨2, 0, [r], set, p⟩ : Dop)).foldl stepS s = insS s rs set := by
  induction rs generalizing s with
  | nil => simp [insS]
  | cons r rs ih =>
    rw [List.map_cons, List.foldl_cons]
    have e : stepS s ⟨2, 0, [r], set, p⟩ = insS s [r] set := by simp [stepS]
    rw [e, ih, ins_two]
    rfl
/-- an op that may be told -/
structure Opk (o : Dop) : Prop where
  k : o.kind = 1 ∨ o.kind = 2 ∨ o.kind = 3
  pos : 1 ≤ lenN o
  le : lenN o ≤ 536870912
theorem ones_len (o : Dop) : (ones o).length = lenN o := by unfold ones lenN; split <;> simp
theorem tell_ones (s : MkS) {o : Dop} (h : Opk o) : (ones o).foldl stepS s = stepS s o := by
  obtain ⟨k, n, rs, set, p⟩ := o
  obtain ⟨h1, h2, h3⟩ := h
  simp only [lenN] at h1 h2 h3
  rcases h1 with rfl | rfl | rfl
  · simp only [ones, show ¬ (1 : Int) = 2 by decide, if_false] at *
    rw [ret_n _ _ h2 (by omega)]
    simp only [stepS, if_true]
    rw [show ((n.toNat : Nat) : Int) = n by omega]
  · simp only [ones, if_true]
    rw [ins_n]
    simp [stepS]
  · simp only [ones, show ¬ (3 : Int) = 2 by decide, if_false] at *
    rcases del_n s n.toNat set p with h | ⟨h, _⟩
    · rw [h]
      simp only [stepS, show ¬ (3 : Int) = 1 by decide, show ¬ (3 : Int) = 2 by decide, if_false]
      rw [show ((n.toNat : Nat) : Int) = n by omega]
    · omega
/-! #### reading: the first op's first part -/
def headO (n : Nat) (o : Dop) : Dop := if o.kind = 2 then ⟨2, o.n, o.runes.take n, o.set, o.patch⟩ else ⟨o.kind, n, o.runes, o.set, o.patch⟩
def restO (n : Nat) (o : Dop) : Dop := if o.kind = 2 then ⟨2, o.n, o.runes.drop n, o.set, o.patch⟩ else ⟨o.kind, o.n - n, o.runes, o.set, o.patch⟩
/-- what is left behind n -/
def behind (n : Nat) : List Dop → List Dop
  | [] => []
  | o :: x => if n < lenN o then restO n o :: x else x
theorem ones_cut {n : Nat} {o : Dop} (h : n ≤ lenN o) : ones (headO n o) ++ ones (restO n o) = ones o := by
  obtain ⟨k, m, rs, set, p⟩ := o
  by_cases e : k = 2
  · subst e
    simp only [ones, headO, restO, if_true, ← List.map_append, List.take_append_drop]
  · simp only [lenN, ones, headO, restO, e, if_false] at *
    rw [← List.replicate_append_replicate.symm]
    congr 1
    omega
theorem onesL_cut {n : Nat} {o : Dop} {x : List Dop} (h : n ≤ lenN o) : onesL (o :: x) = ones (headO n o) ++ onesL (behind n (o :: x)) := by
  simp only [behind]
  split
  · simp only [onesL, List.flatMap_cons, ← List.append_assoc, ones_cut h]
  · have e : n = lenN o := by omega
    have h2 : ones (restO n o) = [] := List.length_eq_zero_iff.1 (by
      have := congrArg List.length (ones_cut h)
      simp only [List.length_append, ones_len] at this
      have h3 : lenN (headO n o) = n := by
        obtain ⟨k, m, rs, set, p⟩ := o
        by_cases e : k = 2
        · subst e; simp [lenN, headO] at *; omega
        · simp [lenN, headO, e] at *
      rw [ones_len]; omega)
    have := ones_cut h
    rw [h2, List.append_nil] at this
    simp only [onesL, List.flatMap_cons, this]
theorem headO_len {n : Nat} {o : Dop} (h : n ≤ lenN o) : lenN (headO n o) = n := by
  obtain ⟨k, m, rs, set, p⟩ := o
  by_cases e : k = 2
  · subst e; simp [lenN, headO] at *; omega
  · simp [lenN, headO, e] at *
theorem restO_len {n : Nat} {o : Dop} (h : n ≤ lenN o) : lenN (restO n o) = lenN o - n := by
  obtain ⟨k, m, rs, set, p⟩ := o
  by_cases e : k = 2
  · subst e; simp [lenN, restO] at *
  · simp [lenN, restO, e] at *
theorem headO_kind (n : Nat) (o : Dop) : (headO n o).kind = o.kind := by unfold headO; split <;> simp_all
theorem restO_kind (n : Nat) (o : Dop) : (restO n o).kind = o.kind := by unfold restO; split <;> simp_all
theorem headO_all {o : Dop} (h : Opk o) : headO (lenN o) o = o := by
  obtain ⟨k, m, rs, set, p⟩ := o
  obtain ⟨_, h2, _⟩ := h
  by_cases e : k = 2
  · subst e; simp [headO, lenN]
  · simp only [headO, lenN, e, if_false] at *
    congr; omega
theorem ones_kind {o u : Dop} (h : u ∈ ones o) : u.kind = o.kind ∧ u.set = o.set ∧ u.patch = o.patch := by
  unfold ones at h
  split at h
  · simp only [List.mem_map] at h
    obtain ⟨r, _, rfl⟩ := h
    exact ⟨by simp_all, rfl, rfl⟩
  · rw [List.mem_replicate] at h
    rw [h.2]; exact ⟨rfl, rfl, rfl⟩
def total (x : List Dop) : Nat := (x.map lenN).sum
theorem total_behind {n : Nat} {o : Dop} {x : List Dop} (h : n ≤ lenN o) : total (behind n (o :: x)) + n = total (o :: x) := by
  simp only [behind]
  split
  · simp only [total, List.map_cons, List.sum_cons, restO_len h]; omega
  · simp only [total, List.map_cons, List.sum_cons]; omega
theorem onesL_len (x : List Dop) : (onesL x).length = total x := by
  induction x with
  | nil => rfl
  | cons o x ih => simp only [onesL, List.flatMap_cons, List.length_append, ones_len, total, List.map_cons, List.sum_cons] at *; omega
/-! #### the steps of both readers -/
section
variable {one : Dop → Dop → List Dop}
theorem refC_ins : ∀ {A a b : List Dop}, (∀ c ∈ A, c.kind = 2) → refC one a (A ++ b) = A ++ refC one a b := by
  intro A
  induction A with
  | nil => intro a b _; rfl
  | cons c A ih =>
    intro a b h
    rw [List.cons_append]
    simp only [refC]
    rw [if_pos (h c (by simp)), ih fun c hc => h c (by simp [hc])]
    rfl
theorem refC_del {A a : List Dop} {c : Dop} {b : List Dop} (hA : ∀ u ∈ A, u.kind = 3) (hc : c.kind ≠ 2) : refC one (A ++ a) (c :: b) = A ++ refC one a (c :: b) := by
  induction A with
  | nil => rfl
  | cons u A ih =>
    have hu := hA u (by simp)
    have := ih fun u hu => hA u (by simp [hu])
    simp only [refC, if_neg hc] at this ⊢
    rw [List.cons_append, List.takeWhile_cons, if_pos (by simp [hu]), List.dropWhile_cons, if_pos (by simp [hu]), List.cons_append, this]
    rfl
theorem refC_both : ∀ {A a B b : List Dop}, A.length = B.length → (∀ u ∈ A, u.kind ≠ 3) → (∀ c ∈ B, c.kind ≠ 2) → refC one (A ++ a) (B ++ b) = (A.zipWith one B).flatten ++ refC one a b := by
  intro A
  induction A with
  | nil => intro a B b h _ _; cases B with
    | nil => rfl
    | cons c B => simp at h
  | cons u A ih =>
    intro a B b h hA hB
    cases B with
    | nil => simp at h
    | cons c B =>
      have hu := hA u (by simp)
      have hc := hB c (by simp)
      simp only [List.cons_append, refC]
      rw [if_neg hc, List.takeWhile_cons, if_neg (by simp [hu]), List.dropWhile_cons, if_neg (by simp [hu])]
      simp only [List.nil_append, List.zipWith_cons_cons, List.flatten_cons, List.append_assoc]
      rw [ih (by simpa using h) (fun u hu => hA u (by simp [hu])) fun c hc => hB c (by simp [hc])]
theorem refC_none : ∀ {B b : List Dop}, (∀ c ∈ B, c.kind ≠ 2) → refC one [] (B ++ b) = (B.map fun c => one ⟨1, 1, [], [], []⟩ c).flatten ++ refC one [] b := by
  intro B
  induction B with
  | nil => intro b _; rfl
  | cons c B ih =>
    intro b hB
    have hc := hB c (by simp)
    simp only [List.cons_append, refC]
    rw [if_neg hc]
    simp only [List.takeWhile_nil, List.dropWhile_nil, List.nil_append, List.map_cons, List.flatten_cons, List.append_assoc]
    rw [ih fun c hc => hB c (by simp [hc])]
/-- what is made comes of both -/
theorem refC_mem {b a : List Dop} {z : Dop} (h : z ∈ refC one a b) : z ∈ a ∨ z ∈ b ∨ ∃ u c, (u ∈ a ∨ u = ⟨1, 1, [], [], []⟩) ∧ c ∈ b ∧ c.kind ≠ 2 ∧ z ∈ one u c := by
  induction b generalizing a with
  | nil => exact .inl h
  | cons c b ih =>
    simp only [refC] at h
    split at h
    · rcases List.mem_cons.1 h with rfl | h
      · exact .inr (.inl (by simp))
      · rcases ih h with h | h | ⟨u, d, h1, h2, h3, h4⟩
        · exact .inl h
        · exact .inr (.inl (by simp [h]))
        · exact .inr (.inr ⟨u, d, h1, by simp [h2], h3, h4⟩)
    · rename_i hc
      rcases List.mem_append.1 h with h | h
      · exact .inl ((List.takeWhile_sublist _).subset h)
      · have hd : ∀ u ∈ a.dropWhile (fun o => decide (o.kind = 3)), u ∈ a := fun u hu => (List.dropWhile_sublist _).subset hu
        revert hd h
        generalize a.dropWhile (fun o => decide (o.kind = 3)) = a'
        intro h hd
        cases a' with
        | nil =>
          simp only at h
          rcases List.mem_append.1 h with h | h
          · exact .inr (.inr ⟨_, c, .inr rfl, by simp, hc, h⟩)
          · rcases ih h with h | h | ⟨u, d, h1, h2, h3, h4⟩
            · simp at h
            · exact .inr (.inl (by simp [h]))
            · exact .inr (.inr ⟨u, d, by rcases h1 with h1 | h1; simp at h1; exact .inr h1, by simp [h2], h3, h4⟩)
        | cons u a' =>
          simp only at h
          rcases List.mem_append.1 h with h | h
          · exact .inr (.inr ⟨u, c, .inl (hd u (by simp)), by simp, hc, h⟩)
          · rcases ih h with h | h | ⟨u', d, h1, h2, h3, h4⟩
            · exact .inl (hd z (by simp [h]))
            · exact .inr (.inl (by simp [h]))
            · exact .inr (.inr ⟨u', d, by rcases h1 with h1 | h1; exact .inl (hd u' (by simp [h1])); exact .inr h1, by simp [h2], h3, h4⟩)
end
/-! ### what composing makes of ones -/
def partP (ks : List DKey) (b : Bool) (p : List Chg) : List Chg := p.filter fun c => match findK ks c.key with | some k => decide (k.block = b) | none => false
def cellP (ks : List DKey) (set : List Attr) (p : List Chg) (r : Int) : List Attr := appP set (partP ks (decide (r = 10)) p)
def oneP (ks : List DKey) (u c : Dop) : List Dop :=
  if u.kind = 1 then (if c.kind = 3 then [c] else if c.kind = 1 then [⟨1, 1, [], [], comP u.patch c.patch⟩] else [])
  else if c.kind = 1 then [⟨2, 0, [u.runes.headD 0], cellP ks u.set c.patch (u.runes.headD 0), []⟩] else []
def bothS (ks : List DKey) (s : MkS) (u v : Dop) : MkS :=
  if u.kind = 1 then (if v.kind = 1 then retS s v.n (comP u.patch v.patch) else delS s v.n)
  else if v.kind = 1 then u.runes.foldl (fun s r => insS s [r] (cellP ks u.set v.patch r)) s else s
theorem zip_same {α β γ : Type} (f : α → β → γ) (x : α) : ∀ (B : List β) (n : Nat), B.length = n → (List.replicate n x).zipWith f B = B.map (f x) := by
  intro B
  induction B with
  | nil => intro n h; simp at h; subst h; rfl
  | cons c B ih => intro n h; simp at h; subst h; rw [List.replicate_succ, List.zipWith_cons_cons, ih _ rfl]; rfl
theorem both_ones (ks : List DKey) (s : MkS) {u v : Dop} {n : Nat} (hu : lenN u = n) (hv : lenN v = n) (h1 : 1 ≤ n) (h2 : n ≤ 536870912) (ku : u.kind = 1 ∨ u.kind = 2) (kv : v.kind = 1 ∨ v.kind = 3) :
    ((ones u).zipWith (oneP ks) (ones v)).flatten.foldl stepS s = bothS ks s u v := by
  obtain ⟨k, m, rs, set, p⟩ := u
  obtain ⟨k', m', rs', set', p'⟩ := v
  simp only at ku kv
  have o1 : ∀ c, oneP ks ⟨1, 1, [], set, p⟩ c = if c.kind = 3 then [c] else if c.kind = 1 then [⟨1, 1, [], [], comP p c.patch⟩] else [] := fun c => rfl
  rcases ku with rfl | rfl <;> rcases kv with rfl | rfl
  · simp only [lenN, show ¬ (1 : Int) = 2 by decide, if_false] at hu hv
    simp only [ones, show ¬ (1 : Int) = 2 by decide, if_false, hu, hv, List.zipWith_replicate, o1, show ¬ (1 : Int) = 3 by decide, if_true]
    rw [List.flatten_replicate_singleton, Nat.min_self, ret_n _ _ h1 (by omega)]
    simp only [bothS, if_true]
    rw [show ((n : Nat) : Int) = m' by omega]
  · simp only [lenN, show ¬ (1 : Int) = 2 by decide, show ¬ (3 : Int) = 2 by decide, if_false] at hu hv
    simp only [ones, show ¬ (1 : Int) = 2 by decide, show ¬ (3 : Int) = 2 by decide, if_false, hu, hv, List.zipWith_replicate, o1, if_true]
    rw [List.flatten_replicate_singleton, Nat.min_self]
    rcases del_n s n set' p' with h | ⟨h, _⟩
    · rw [h]
      simp only [bothS, if_true, show ¬ (3 : Int) = 1 by decide, if_false]
      rw [show ((n : Nat) : Int) = m' by omega]
    · omega
  · simp only [lenN, show ¬ (1 : Int) = 2 by decide, if_true, if_false] at hu hv
    simp only [ones, show ¬ (1 : Int) = 2 by decide, if_true, if_false, hv, bothS, show ¬ (2 : Int) = 1 by decide]
    clear h1 h2
    induction rs generalizing s n m' with
    | nil => simp
    | cons r rs ih =>
      simp only [List.length_cons] at hu
      subst hu
      rw [List.map_cons, List.replicate_succ, List.zipWith_cons_cons, List.flatten_cons, List.foldl_append, List.foldl_cons]
      rw [← ih (m' := rs.length) (n := rs.length) _ (by omega) rfl]
      rfl
  · simp only [lenN, show ¬ (3 : Int) = 2 by decide, if_true, if_false] at hu hv
    simp only [ones, show ¬ (3 : Int) = 2 by decide, if_true, if_false, hv, bothS, show ¬ (2 : Int) = 1 by decide, show ¬ (3 : Int) = 1 by decide]
    clear h1 h2
    induction rs generalizing s n m' with
    | nil => simp
    | cons r rs ih =>
      simp only [List.length_cons] at hu
      subst hu
      rw [List.map_cons, List.replicate_succ, List.zipWith_cons_cons, List.flatten_cons, List.foldl_append]
      exact ih (m' := rs.length) (n := rs.length) _ (by omega) rfl
/-- what both readers still come to -/
def goC (ks : List DKey) (s : MkS) (u v : List Dop) : MkS := (refC (oneP ks) (onesL u) (onesL v)).foldl stepS s
theorem onesL_cons (o : Dop) (x : List Dop) : onesL (o :: x) = ones o ++ onesL x := rfl
theorem go_ins {ks : List DKey} {s : MkS} {u v : List Dop} {o : Dop} (ho : Opk o) (hk : o.kind = 2) : goC ks s u (o :: v) = goC ks (stepS s o) u v := by
  unfold goC
  rw [onesL_cons, refC_ins fun c hc => (ones_kind hc).1.trans hk, List.foldl_append, tell_ones s ho]
theorem onesL_ne {o : Dop} {x : List Dop} (ho : Opk o) : ∃ c b, onesL (o :: x) = c :: b ∧ c.kind = o.kind := by
  rw [onesL_cons]
  have := ones_len o
  have hp := ho.pos
  cases e : ones o with
  | nil => rw [e] at this; simp at this; omega
  | cons c b => exact ⟨c, b ++ onesL x, rfl, (ones_kind (o := o) (u := c) (by simp [e])).1⟩
theorem go_del {ks : List DKey} {s : MkS} {u v : List Dop} {d o : Dop} (hd : Opk d) (ho : Opk o) (kd : d.kind = 3) (hk : o.kind ≠ 2) : goC ks s (d :: u) (o :: v) = goC ks (stepS s d) u (o :: v) := by
  unfold goC
  obtain ⟨c, b, e, kc⟩ := onesL_ne (x := v) ho
  rw [e, onesL_cons, refC_del (fun u hu => (ones_kind hu).1.trans kd) (by omega), List.foldl_append, tell_ones s hd]
theorem go_both {ks : List DKey} {s : MkS} {u v : List Dop} {a o : Dop} {n : Nat} (ha : Opk a) (ho : Opk o) (ka : a.kind ≠ 3) (hk : o.kind ≠ 2) (hn : n = min (lenN a) (lenN o)) :
    goC ks s (a :: u) (o :: v) = goC ks (bothS ks s (headO n a) (headO n o)) (behind n (a :: u)) (behind n (o :: v)) := by
  have h1 := ha.pos
  have h2 := ho.pos
  have h3 := ha.le
  have na : n ≤ lenN a := by omega
  have no : n ≤ lenN o := by omega
  unfold goC
  rw [onesL_cut na, onesL_cut no, refC_both (by rw [ones_len, ones_len, headO_len na, headO_len no]) (fun u hu => by rw [(ones_kind hu).1, headO_kind]; exact ka) (fun c hc => by rw [(ones_kind hc).1, headO_kind]; exact hk), List.foldl_append,
    both_ones ks s (headO_len na) (headO_len no) (by omega) (by omega) (by rw [headO_kind]; rcases ha.k with h | h | h <;> simp_all) (by rw [headO_kind]; rcases ho.k with h | h | h <;> simp_all)]
theorem go_none {ks : List DKey} {s : MkS} {v : List Dop} {o : Dop} (ho : Opk o) (hk : o.kind ≠ 2) :
    goC ks s [] (o :: v) = goC ks (bothS ks s ⟨1, lenN o, [], [], []⟩ o) [] v := by
  have h2 := ho.pos
  have h3 := ho.le
  unfold goC
  rw [onesL_cons, show onesL [] = [] from rfl, refC_none (fun c hc => by rw [(ones_kind hc).1]; exact hk), List.foldl_append]
  congr 1
  rw [← both_ones ks s (u := ⟨1, lenN o, [], [], []⟩) (v := o) (n := lenN o) (by simp [lenN]) rfl h2 h3 (.inl rfl) (by rcases ho.k with h | h | h <;> simp_all)]
  congr 2
  rw [show ones ⟨1, lenN o, [], [], []⟩ = List.replicate (lenN o) ⟨1, 1, [], [], []⟩ by simp [ones]]
  exact (zip_same (oneP ks) (⟨1, 1, [], [], []⟩ : Dop) (ones o) _ (ones_len o)).symm
theorem tell_all {x : List Dop} : ∀ {s : MkS}, (∀ o ∈ x, Opk o) → (onesL x).foldl stepS s = x.foldl stepS s := by
  induction x with
  | nil => intro s _; rfl
  | cons o x ih =>
    intro s h
    rw [onesL_cons, List.foldl_append, tell_ones s (h o (by simp)), ih fun u hu => h u (by simp [hu])]
    rfl
theorem go_end {ks : List DKey} {s : MkS} {u : List Dop} (h : ∀ o ∈ u, Opk o) : goC ks s u [] = u.foldl stepS s := by
  unfold goC
  rw [show onesL [] = [] from rfl]
  simp only [refC]
  exact tell_all h
end Go.Proofs.YtlbaopamhkmepaaGreatDoor

namespace Go.Proofs.YtlbaopamhkmepaaGreatDoor
open Go Go.K

/-! ### what normal forms and composed deltas are made of -/
def Good (PS : List Attr → Prop) (PP : List Chg → Prop) (o : Dop) : Prop := (o.kind = 1 ∧ o.runes = [] ∧ o.set = [] ∧ 1 ≤ o.n ∧ PP o.patch) ∨ (o.kind = 3 ∧ o.runes = [] ∧ o.set = [] ∧ o.patch = [] ∧ 1 ≤ o.n) ∨
  (o.kind = 2 ∧ (∀ r ∈ o.runes, MayR r) ∧ o.n = 0 ∧ o.patch = [] ∧ o.runes ≠ [] ∧ PS o.set)
theorem total_app (x y : List Dop) : total (x ++ y) = total x + total y := by simp [total]
theorem total_one (o : Dop) : total [o] = lenN o := by simp [total]
theorem total_mem {x : List Dop} {o : Dop} (h : o ∈ x) : lenN o ≤ total x := by
  induction x with
  | nil => simp at h
  | cons a x ih =>
    simp only [total, List.map_cons, List.sum_cons] at *
    rcases List.mem_cons.1 h with rfl | h
    · omega
    · have := ih h; omega
theorem set_end (i : List Dop) (b o : Dop) : (i ++ [b]).set ((i ++ [b]).length - 1) o = i ++ [o] := by
  rw [List.set_append_right _ _ (by simp)]; simp
section
variable {PS : List Attr → Prop} {PP : List Chg → Prop}
theorem good_gap {ins : List Dop} {g : Int} (h : ∀ o ∈ ins, Good PS PP o ∧ o.kind = 2) : ∀ o ∈ gapL ins g, Good PS PP o := by
  intro o ho
  unfold gapL at ho
  split at ho
  · rcases List.mem_append.1 ho with h' | h'
    · exact (h o h').1
    · simp at h'; subst h'; exact .inr (.inl ⟨rfl, rfl, rfl, rfl, by simp only; omega⟩)
  · exact (h o ho).1
theorem total_gap (ins : List Dop) (g : Int) : total (gapL ins g) = total ins + g.toNat := by
  unfold gapL
  split
  · rw [total_app, total_one]; simp [lenN]
  · omega
structure GoodM (PS : List Attr → Prop) (PP : List Chg → Prop) (s : MkS) (t : Nat) : Prop where
  done : ∀ o ∈ s.done, Good PS PP o
  ins : ∀ o ∈ s.ins, Good PS PP o ∧ o.kind = 2
  gone : 0 ≤ s.gone
  tot : total s.done + total s.ins + s.gone.toNat ≤ t
theorem good_step {s : MkS} {t : Nat} {o : Dop} (h : GoodM PS PP s t) (ho : Good PS PP o) (ht : t + lenN o ≤ 1099511627776) : GoodM PS PP (stepS s o) (t + lenN o) := by
  obtain ⟨done, ins, gone⟩ := s
  obtain ⟨h1, h2, h3, h4⟩ := h
  simp only at h1 h2 h3 h4
  obtain ⟨k, n, rs, set, p⟩ := o
  rcases ho with ⟨e1, e2, e3, e4, e5⟩ | ⟨e1, e2, e3, e4, e5⟩ | ⟨e1, e2, e3, e4, e5, e6⟩
  · simp only at e1 e2 e3 e4 e5
    subst e1; subst e2; subst e3
    simp only [lenN, show ¬ (1 : Int) = 2 by decide, if_false] at ht ⊢
    simp only [stepS, if_true, retS, if_neg (show ¬ n < 1 by omega)]
    have hd : ∀ o ∈ done ++ gapL ins gone, Good PS PP o := fun o ho => by
      rcases List.mem_append.1 ho with h | h
      · exact h1 o h
      · exact good_gap h2 o h
    have td : total (done ++ gapL ins gone) ≤ t := by rw [total_app, total_gap]; omega
    generalize done ++ gapL ins gone = d at hd td ⊢
    have new : GoodM PS PP ⟨d ++ [⟨1, n, [], [], p⟩], [], 0⟩ (t + n.toNat) := by
      refine ⟨fun o ho => ?_, by simp, by simp, ?_⟩
      · rcases List.mem_append.1 ho with h | h
        · exact hd o h
        · simp at h; subst h; exact .inl ⟨rfl, rfl, rfl, e4, e5⟩
      · simp only [total_app, total_one, lenN, show ¬ (1 : Int) = 2 by decide, if_false]
        simp [total]; simp [total] at td; omega
    unfold putS
    rcases List.eq_nil_or_concat d with rfl | ⟨i, q, rfl⟩
    · exact new
    · simp only [List.concat_eq_append, List.getLast?_append, List.getLast?_singleton, Option.some_or] at *
      by_cases e : q.kind = 1 ∧ q.patch = p
      · rw [if_pos e]
        have hq := hd q (by simp)
        obtain ⟨kq, nq, rq, sq, pq⟩ := q
        simp only at e
        obtain ⟨rfl, rfl⟩ := e
        rcases hq with ⟨f1, f2, f3, f4, f5⟩ | ⟨f1, _⟩ | ⟨f1, _⟩
        · simp only at f2 f3 f4
          subst f2; subst f3
          rw [total_app, total_one] at td
          simp only [lenN, show ¬ (1 : Int) = 2 by decide, if_false] at td
          dsimp only
          rw [wrapI_in (by omega) (by omega), set_end]
          refine ⟨fun o ho => ?_, by simp, by simp, ?_⟩
          · rcases List.mem_append.1 ho with h | h
            · exact hd o (by simp [h])
            · simp at h; subst h; exact .inl ⟨rfl, rfl, rfl, by simp only; omega, e5⟩
          · simp only [total_app, total_one, lenN, show ¬ (1 : Int) = 2 by decide, if_false]
            simp [total]; simp [total] at td; omega
        · simp at f1
        · simp at f1
      · rw [if_neg e]; exact new
  · simp only at e1 e2 e3 e4 e5
    subst e1; subst e2; subst e3; subst e4
    simp only [lenN, show ¬ (3 : Int) = 2 by decide, if_false] at ht ⊢
    simp only [stepS, show ¬ (3 : Int) = 1 by decide, show ¬ (3 : Int) = 2 by decide, if_false, delS]
    have : maxI n 0 = n := by unfold maxI; rw [if_neg (by omega)]
    rw [this, wrapI_in (by omega) (by omega)]
    exact ⟨h1, h2, by simp only; omega, by simp only; omega⟩
  · simp only at e1 e2 e3 e4 e5 e6
    subst e1; subst e3; subst e4
    simp only [lenN, if_true] at ht ⊢
    simp only [stepS, show ¬ (2 : Int) = 1 by decide, if_true, if_false, insS, if_neg e5]
    have new : GoodM PS PP ⟨done, ins ++ [⟨2, 0, rs, set, []⟩], gone⟩ (t + rs.length) := by
      refine ⟨h1, fun o ho => ?_, h3, ?_⟩
      · rcases List.mem_append.1 ho with h | h
        · exact h2 o h
        · simp at h; subst h; exact ⟨.inr (.inr ⟨rfl, e2, rfl, rfl, e5, e6⟩), rfl⟩
      · simp only [total_app, total_one, lenN, if_true]; omega
    unfold addI
    rcases List.eq_nil_or_concat ins with rfl | ⟨i, q, rfl⟩
    · exact new
    · simp only [List.concat_eq_append, List.getLast?_append, List.getLast?_singleton, Option.some_or] at *
      by_cases e : q.set = set
      · rw [if_pos e]
        have hq := h2 q (by simp)
        obtain ⟨kq, nq, rq, sq, pq⟩ := q
        simp only at e
        subst e
        obtain ⟨hq, hk⟩ := hq
        simp only at hk
        subst hk
        rcases hq with ⟨f1, _⟩ | ⟨f1, _⟩ | ⟨f1, f2, f3, f4, f5, f6⟩
        · simp at f1
        · simp at f1
        · simp only at f2 f3 f4 f5 f6
          subst f3; subst f4
          rw [set_end]
          refine ⟨h1, fun o ho => ?_, h3, ?_⟩
          · rcases List.mem_append.1 ho with h | h
            · exact h2 o (by simp [h])
            · simp at h; subst h
              exact ⟨.inr (.inr ⟨rfl, fun r hr => by rcases List.mem_append.1 hr with h | h; exact f2 r h; exact e2 r h, rfl, rfl, by simp [e5], f6⟩), rfl⟩
          · simp only [total_app, total_one, lenN, if_true, List.length_append] at h4 ⊢; omega
      · rw [if_neg e]; exact new
theorem good_run (x : List Dop) (h : ∀ o ∈ x, Good PS PP o) (hb : total x ≤ 1099511627776) : GoodM PS PP (runS x) (total x) := by
  induction x using rev_ind with
  | h0 => exact ⟨by simp [runS, MkS.z], by simp [runS, MkS.z], by simp [runS, MkS.z], by simp [runS, MkS.z, total]⟩
  | h1 x o ih =>
    rw [total_app, total_one] at hb ⊢
    have := good_step (ih (fun o ho => h o (by simp [ho])) (by omega)) (h o (by simp)) hb
    simpa [runS] using this
theorem good_norm (x : List Dop) (h : ∀ o ∈ x, Good PS PP o) (hb : total x ≤ 1099511627776) : (∀ o ∈ normB x, Good PS PP o) ∧ total (normB x) ≤ total x := by
  obtain ⟨h1, h2, h3, h4⟩ := good_run x h hb
  have hd : ∀ o ∈ (runS x).done ++ gapL (runS x).ins (runS x).gone, Good PS PP o := fun o ho => by
    rcases List.mem_append.1 ho with h | h
    · exact h1 o h
    · exact good_gap h2 o h
  have td : total ((runS x).done ++ gapL (runS x).ins (runS x).gone) ≤ total x := by rw [total_app, total_gap]; omega
  unfold normB opsS
  generalize (runS x).done ++ gapL (runS x).ins (runS x).gone = d at hd td
  unfold trimL
  rcases List.eq_nil_or_concat d with rfl | ⟨i, q, rfl⟩
  · exact ⟨hd, td⟩
  · simp only [List.concat_eq_append, List.getLast?_append, List.getLast?_singleton, Option.some_or, List.dropLast_concat] at *
    split
    · rw [total_app] at td
      exact ⟨fun o ho => hd o (by simp [ho]), by omega⟩
    · exact ⟨hd, td⟩
end
/-! ### what may be, composed, may be -/
section
variable {ks : List DKey}
/-- a set, a patch of the keys -/
def SetK (ks : List DKey) (l : List Attr) : Prop := RisS l ∧ l.length ≤ 64 ∧ ∀ a ∈ l, ValOK a.val ∧ FitsK ks a.key a.val
def PatK (ks : List DKey) (p : List Chg) : Prop := RisP p ∧ p.length ≤ 64 ∧ ∀ c ∈ p, (c.gone = true → c.val = AVal.zero) ∧ (c.gone = false → ValOK c.val ∧ FitsK ks c.key c.val) ∧ findK ks c.key ≠ none
theorem setK_iff {l : List Attr} : maySet ks l = 0 ↔ SetK ks l := by
  unfold maySet
  constructor
  · intro h
    split at h
    · cases h
    · split at h
      · cases h
      · rename_i h1 h2
        refine ⟨Classical.byContradiction fun hn => h1 (.inl fun hr => hn (ris_pw hr)), Classical.byContradiction fun hn => h1 (.inr (.inl (by omega))), fun a ha => ⟨Classical.byContradiction fun hn => h1 (.inr (.inr ⟨a, ha, hn⟩)), Classical.byContradiction fun hn => h2 ⟨a, ha, hn⟩⟩⟩
  · rintro ⟨h1, h2, h3⟩
    rw [if_neg, if_neg]
    · rintro ⟨a, ha, hn⟩; exact hn (h3 a ha).2
    · rintro (hn | hn | ⟨a, ha, hn⟩)
      · exact hn (pw_ris h1)
      · omega
      · exact hn (h3 a ha).1
theorem patK_iff {l : List Chg} : mayPat ks l = 0 ↔ PatK ks l := by
  unfold mayPat
  constructor
  · intro h
    split at h
    · cases h
    · split at h
      · cases h
      · rename_i h1 h2
        refine ⟨Classical.byContradiction fun hn => h1 (.inl fun hr => hn (ris_pw hr)), Classical.byContradiction fun hn => h1 (.inr (.inl (by omega))), fun a ha => ⟨fun hg => Classical.byContradiction fun hn => h1 (.inr (.inr ⟨a, ha, .inl ⟨hg, hn⟩⟩)), fun hg => ⟨Classical.byContradiction fun hn => h1 (.inr (.inr ⟨a, ha, .inr ⟨hg, hn⟩⟩)), Classical.byContradiction fun hn => h2 ⟨a, ha, .inr ⟨hg, hn⟩⟩⟩, fun hn => h2 ⟨a, ha, .inl hn⟩⟩⟩
  · rintro ⟨h1, h2, h3⟩
    rw [if_neg, if_neg]
    · rintro ⟨a, ha, hn | ⟨hg, hn⟩⟩
      · exact (h3 a ha).2.2 hn
      · exact hn ((h3 a ha).2.1 hg).2
    · rintro (hn | hn | ⟨a, ha, ⟨hg, hn⟩ | ⟨hg, hn⟩⟩)
      · exact hn (pw_ris h1)
      · omega
      · exact hn ((h3 a ha).1 hg)
      · exact hn ((h3 a ha).2.1 hg).1
theorem setK_nil : SetK ks [] := ⟨List.Pairwise.nil, by simp, by simp⟩
theorem patK_nil : PatK ks [] := ⟨List.Pairwise.nil, by simp, by simp⟩
theorem find_id {id : Int} {k : DKey} (h : findK ks id = some k) : id ∈ ks.map DKey.id := by
  have h1 := List.find?_some h
  simp at h1
  exact List.mem_map.2 ⟨k, List.mem_of_find?_eq_some h, h1⟩
theorem find_id' {id : Int} (h : findK ks id ≠ none) : id ∈ ks.map DKey.id := by
  cases e : findK ks id with
  | none => exact (h e).elim
  | some k => exact find_id e
theorem comP_may (h64 : ks.length ≤ 64) {p q : List Chg} (hp : PatK ks p) (hq : PatK ks q) : PatK ks (comP p q) := by
  have hm : ∀ c ∈ comP p q, (c.gone = true → c.val = AVal.zero) ∧ (c.gone = false → ValOK c.val ∧ FitsK ks c.key c.val) ∧ findK ks c.key ≠ none := fun c hc => by
    rcases comP_mem hc with h | h
    · exact hp.2.2 c h
    · exact hq.2.2 c h
  have hr := comP_ris hp.1 hq.1
  refine ⟨hr, ?_, hm⟩
  have := few (key := Chg.key) (ids := ks.map DKey.id) hr fun c hc => find_id' (hm c hc).2.2
  rw [List.length_map] at this
  omega
theorem appP_may (h64 : ks.length ≤ 64) {s : List Attr} {p : List Chg} (hs : SetK ks s) (hp : RisP p) (hp2 : ∀ c ∈ p, c.gone = false → ValOK c.val ∧ FitsK ks c.key c.val) : SetK ks (appP s p) := by
  have hm : ∀ a ∈ appP s p, ValOK a.val ∧ FitsK ks a.key a.val := fun a ha => by
    rcases appP_mem ha with h | ⟨c, hc, hg, rfl⟩
    · exact hs.2.2 a h
    · exact hp2 c hc hg
  have hr := appP_ris hs.1 hp
  refine ⟨hr, ?_, hm⟩
  have := few (key := Attr.key) (ids := ks.map DKey.id) hr fun a ha => by
    obtain ⟨k, hk, _⟩ := (hm a ha).2
    exact find_id hk
  rw [List.length_map] at this
  omega
theorem cellP_may (h64 : ks.length ≤ 64) {s : List Attr} {p : List Chg} (hs : SetK ks s) (hp : PatK ks p) (r : Int) : SetK ks (cellP ks s p r) := by
  refine appP_may h64 hs (hp.1.filter _) fun c hc hg => (hp.2.2 c (List.mem_filter.1 hc).1).2.1 hg
/-- deltas that may be -/
abbrev GoodK (ks : List DKey) (o : Dop) : Prop := Good (SetK ks) (PatK ks) o
theorem GoodK.opk {o : Dop} (h : GoodK ks o) (hl : lenN o ≤ 536870912) : Opk o := by
  rcases h with ⟨h1, _, _, h4, _⟩ | ⟨h1, _, _, _, h4⟩ | ⟨h1, _, _, _, h4, _⟩
  · exact ⟨.inl h1, by simp only [lenN, h1, show ¬ (1 : Int) = 2 by decide, if_false]; omega, hl⟩
  · exact ⟨.inr (.inr h1), by simp only [lenN, h1, show ¬ (3 : Int) = 2 by decide, if_false]; omega, hl⟩
  · refine ⟨.inr (.inl h1), ?_, hl⟩
    simp only [lenN, h1, if_true]
    exact List.length_pos_iff.2 h4
theorem GoodK.form {o : Dop} (h : GoodK ks o) (hl : lenN o ≤ 536870912) : FormO o ∧ SetK ks o.set ∧ PatK ks o.patch := by
  rcases h with ⟨h1, h2, h3, h4, h5⟩ | ⟨h1, h2, h3, h4, h5⟩ | ⟨h1, h2, h3, h4, h5, h6⟩
  · simp only [lenN, h1, show ¬ (1 : Int) = 2 by decide, if_false] at hl
    exact ⟨.inl ⟨h1, h2, h3, h4, by omega⟩, by rw [h3]; exact setK_nil, h5⟩
  · simp only [lenN, h1, show ¬ (3 : Int) = 2 by decide, if_false] at hl
    exact ⟨.inr (.inl ⟨h1, h2, h3, h4, h5, by omega⟩), by rw [h3]; exact setK_nil, by rw [h4]; exact patK_nil⟩
  · simp only [lenN, h1, if_true] at hl
    exact ⟨.inr (.inr ⟨h1, h2, h3, h4, List.length_pos_iff.2 h5, hl⟩), h6, by rw [h4]; exact patK_nil⟩
theorem FormO.good {o : Dop} (h : FormO o) (hs : SetK ks o.set) (hp : PatK ks o.patch) : GoodK ks o ∧ lenN o ≤ 536870912 := by
  rcases h with ⟨h1, h2, h3, h4, h5⟩ | ⟨h1, h2, h3, h4, h5, h6⟩ | ⟨h1, h2, h3, h4, h5, h6⟩
  · exact ⟨.inl ⟨h1, h2, h3, h4, hp⟩, by simp only [lenN, h1, show ¬ (1 : Int) = 2 by decide, if_false]; omega⟩
  · exact ⟨.inr (.inl ⟨h1, h2, h3, h4, h5⟩), by simp only [lenN, h1, show ¬ (3 : Int) = 2 by decide, if_false]; omega⟩
  · exact ⟨.inr (.inr ⟨h1, h2, h3, h4, by intro e; rw [e] at h5; simp at h5, hs⟩), by simp only [lenN, h1, if_true]; exact h6⟩
theorem sumW_total {f : Dop → Int} (x : List Dop) (h : ∀ o ∈ x, 0 ≤ f o ∧ f o ≤ lenN o) (hb : total x ≤ 1099511627776) : 0 ≤ sumW f x ∧ sumW f x ≤ total x := by
  induction x using rev_ind with
  | h0 => exact ⟨by simp [sumW], by simp [sumW]⟩
  | h1 x o ih =>
    rw [total_app, total_one] at hb ⊢
    have i1 := ih (fun o ho => h o (by simp [ho])) (by omega)
    have i2 := h o (by simp)
    have e : sumW f (x ++ [o]) = IntKind.i64.wrap (sumW f x + f o) := by simp [sumW]
    rw [e, wrapI_in (by omega) (by omega)]
    omega
theorem good_may {x : List Dop} (h : ∀ o ∈ x, GoodK ks o) (hb : total x ≤ 536870912) : mayOps ks x = 0 := by
  have hf : ∀ o ∈ x, FormO o ∧ SetK ks o.set ∧ PatK ks o.patch := fun o ho => GoodK.form (h o ho) (by have := total_mem ho; omega)
  have hn : ∀ o ∈ x, 0 ≤ o.n := fun o ho => by
    rcases h o ho with ⟨_, _, _, h4, _⟩ | ⟨_, _, _, _, h4⟩ | ⟨_, _, h4, _⟩ <;> omega
  have ht := sumW_total (f := takesF) x (fun o ho => by
    have := hn o ho
    unfold takesF lenN
    split <;> omega) (by omega)
  have hm := sumW_total (f := makesF) x (fun o ho => by
    have := hn o ho
    unfold makesF lenN lenO
    split
    · split <;> omega
    · split <;> omega) (by omega)
  unfold mayOps
  rw [if_neg, if_neg]
  · rintro ⟨o, ho, hn | hn⟩
    · exact hn (setK_iff.2 (hf o ho).2.1)
    · exact hn (patK_iff.2 (hf o ho).2.2)
  · rintro (⟨o, ho, hn | hn | hn⟩ | hn | hn)
    · exact hn (hf o ho).1
    · rw [setK_iff.2 (hf o ho).2.1] at hn; cases hn
    · rw [patK_iff.2 (hf o ho).2.2] at hn; cases hn
    · omega
    · omega
theorem good_ones {o u : Dop} (h : GoodK ks o) (hu : u ∈ ones o) : GoodK ks u ∧ lenN u = 1 := by
  rcases h with ⟨h1, h2, h3, h4, h5⟩ | ⟨h1, h2, h3, h4, h5⟩ | ⟨h1, h2, h3, h4, h5, h6⟩
  · simp only [ones, h1, show ¬ (1 : Int) = 2 by decide, if_false] at hu
    rw [List.mem_replicate] at hu
    rw [hu.2]
    exact ⟨.inl ⟨rfl, rfl, h3, by simp only; omega, h5⟩, rfl⟩
  · simp only [ones, h1, show ¬ (3 : Int) = 2 by decide, if_false] at hu
    rw [List.mem_replicate] at hu
    rw [hu.2]
    exact ⟨.inr (.inl ⟨rfl, rfl, h3, h4, by simp only; omega⟩), rfl⟩
  · simp only [ones, h1, if_true, List.mem_map] at hu
    obtain ⟨r, hr, rfl⟩ := hu
    exact ⟨.inr (.inr ⟨rfl, by simpa using h2 r hr, rfl, h4, by simp, h6⟩), by simp [lenN]⟩
theorem good_onesL {x : List Dop} (h : ∀ o ∈ x, GoodK ks o) : ∀ u ∈ onesL x, GoodK ks u ∧ lenN u = 1 := by
  intro u hu
  simp only [onesL, List.mem_flatMap] at hu
  obtain ⟨o, ho, hu⟩ := hu
  exact good_ones (h o ho) hu
theorem oneP_good (h64 : ks.length ≤ 64) {u c z : Dop} (hu : GoodK ks u ∧ lenN u = 1) (hc : GoodK ks c ∧ lenN c = 1) (hz : z ∈ oneP ks u c) : GoodK ks z ∧ lenN z = 1 := by
  unfold oneP at hz
  split at hz
  · rename_i k1
    split at hz
    · simp at hz; subst hz; exact hc
    · split at hz
      · rename_i k3
        simp at hz
        subst hz
        refine ⟨.inl ⟨rfl, rfl, rfl, (show (1 : Int) ≤ 1 by decide), ?_⟩, rfl⟩
        rcases hu.1 with ⟨_, _, _, _, hp⟩ | ⟨h, _⟩ | ⟨h, _⟩
        · rcases hc.1 with ⟨_, _, _, _, hq⟩ | ⟨h, _⟩ | ⟨h, _⟩
          · exact comP_may h64 hp hq
          · omega
          · omega
        · omega
        · omega
      · simp at hz
  · split at hz
    · rename_i k1 k2
      simp at hz
      rcases hc.1 with ⟨_, _, _, _, hq⟩ | ⟨h, _⟩ | ⟨h, _⟩
      · rcases hu.1 with ⟨h, _⟩ | ⟨h, h2, h3, h4, h5⟩ | ⟨_, h2, _, _, h5, h6⟩
        · omega
        · subst hz
          -- an insert of no rune never comes: a delete has none
          rcases hu with ⟨_, hl⟩
          refine ⟨.inr (.inr ⟨rfl, ?_, rfl, rfl, by simp, ?_⟩), by simp [lenN]⟩
          · rw [h2]; simp [MayR]
          · rw [h3]; exact cellP_may h64 setK_nil hq _
        · subst hz
          refine ⟨.inr (.inr ⟨rfl, ?_, rfl, rfl, by simp, cellP_may h64 h6 hq _⟩), by simp [lenN]⟩
          cases e : u.runes with
          | nil => exact (h5 e).elim
          | cons r rs => simpa using h2 r (by simp [e])
      · omega
      · omega
    · simp at hz
theorem refC_len {one : Dop → Dop → List Dop} (h : ∀ u c, (one u c).length ≤ 1) : ∀ {b a : List Dop}, (refC one a b).length ≤ a.length + b.length := by
  intro b
  induction b with
  | nil => intro a; simp [refC]
  | cons c b ih =>
    intro a
    simp only [refC]
    split
    · have := ih (a := a); simp only [List.length_cons]; omega
    · have e := congrArg List.length (List.takeWhile_append_dropWhile (p := fun o : Dop => decide (o.kind = 3)) (l := a))
      simp only [List.length_append] at e ⊢
      revert e
      generalize a.dropWhile (fun o => decide (o.kind = 3)) = a'
      intro e
      cases a' with
      | nil =>
        have := ih (a := [])
        have := h ⟨1, 1, [], [], []⟩ c
        simp only [List.length_append, List.length_nil, List.length_cons] at *
        omega
      | cons u a' =>
        have := ih (a := a')
        have := h u c
        simp only [List.length_append, List.length_cons] at *
        omega
theorem total_units {x : List Dop} (h : ∀ o ∈ x, lenN o = 1) : total x = x.length := by
  induction x with
  | nil => rfl
  | cons o x ih =>
    have := ih fun o ho => h o (by simp [ho])
    simp only [total, List.map_cons, List.sum_cons, List.length_cons] at *
    rw [h o (by simp)]; omega
/-- what is composed of what may be -/
def cmpD (ks : List DKey) (x y : List Dop) : List Dop := normB (refC (oneP ks) (onesL x) (onesL y))
theorem ref_good (h64 : ks.length ≤ 64) {x y : List Dop} (hx : ∀ o ∈ x, GoodK ks o) (hy : ∀ o ∈ y, GoodK ks o) : (∀ z ∈ refC (oneP ks) (onesL x) (onesL y), GoodK ks z ∧ lenN z = 1) ∧ total (refC (oneP ks) (onesL x) (onesL y)) ≤ total x + total y := by
  have h1 := good_onesL hx
  have h2 := good_onesL hy
  have hz : ∀ z ∈ refC (oneP ks) (onesL x) (onesL y), GoodK ks z ∧ lenN z = 1 := by
    intro z hz
    rcases refC_mem hz with h | h | ⟨u, c, hu, hc, _, h⟩
    · exact h1 z h
    · exact h2 z h
    · refine oneP_good h64 ?_ (h2 c hc) h
      rcases hu with hu | rfl
      · exact h1 u hu
      · exact ⟨.inl ⟨rfl, rfl, rfl, by decide, patK_nil⟩, rfl⟩
  refine ⟨hz, ?_⟩
  rw [total_units fun z h => (hz z h).2, ← onesL_len x, ← onesL_len y]
  refine refC_len fun u c => ?_
  unfold oneP
  split
  · split
    · simp
    · split <;> simp
  · split <;> simp
theorem cmp_good (h64 : ks.length ≤ 64) {x y : List Dop} (hx : ∀ o ∈ x, GoodK ks o) (hy : ∀ o ∈ y, GoodK ks o) (hb : total x + total y ≤ 1099511627776) : (∀ z ∈ cmpD ks x y, GoodK ks z) ∧ total (cmpD ks x y) ≤ total x + total y := by
  obtain ⟨h1, h2⟩ := ref_good h64 hx hy
  obtain ⟨h3, h4⟩ := good_norm _ (fun z hz => (h1 z hz).1) (by omega)
  exact ⟨h3, by unfold cmpD; omega⟩
end
end Go.Proofs.YtlbaopamhkmepaaGreatDoor

namespace Go.Proofs.YtlbaopamhkmepaaGreatDoor
open Go Go.K
/-- rubric/ops.May -/
def S59 (v0 v1 : Value) (K : Cont) (w : World) : Prop :=
  lenK v1 fun t10 =>
  LoopK [(.int .i64 0), (.int .i64 0)] (fun vs again w1 => ∀ _h : Env,
  ltK .i64 (nth vs 1) t10 fun t12 =>
  condK t12
  (ixK 5 v1 (nth vs 1) fun t13 =>
  ldnK 5 t13 (fun t14 w2 =>
  newK 39 [(.int .u8 0), (.int .i64 0), (.slice none 0 0), (.slice none 0 0), (.slice none 0 0)] (fun t7 w3 =>
  stnK 5 t7 t14 (fun w4 =>
  ldnK 5 t7 (fun t16 w5 =>
  callK Tryz.prog 93 [v0, t16] (fun t17 w6 =>
  eqK .i64 t17 (.int .i64 3) fun t20 =>
  condK t20
  (K t17 w6)
  (neK .i64 t17 (.int .i64 0) fun t24 =>
  condK t24
  (addK .i64 (nth vs 1) (.int .i64 1) fun t26 =>
  again [t17, t26] w6)
  (addK .i64 (nth vs 1) (.int .i64 1) fun t26_1 =>
  again [(nth vs 0), t26_1] w6))) w5) w4) w3) w2) w1)
  (callK Tryz.prog 94 [v1] (fun t28 w7 =>
  gtK .i64 t28 (.int .i64 536870912) fun t29 =>
  condK t29
  (K (.int .i64 3) w7)
  (callK Tryz.prog 95 [v1] (fun t32 w8 =>
  gtK .i64 t32 (.int .i64 536870912) fun t33 =>
  condK t33
  (K (.int .i64 3) w8)
  (K (nth vs 0) w8)) w7)) w1)) w
theorem S59_eq (v0 v1 : Value) (K : Cont) (w : World) : S59 v0 v1 K w = D Tryz.prog okf 36 (bodyOf Tryz.f59) (.node [] [] .nil (.node [] [] .nil (.node [] [] (.node [] [] .nil (.node [5, 11] [(4, 5), (7, 8), (11, 26)] (.node [] [] .nil (.node [] [] (.node [] [] .nil .nil) (.node [] [] (.node [] [] .nil (.node [] [] .nil (.node [] [] .nil (.node [] [] (.node [] [] .nil .nil) (.node [] [] .nil (.node [] [] .nil .nil)))))) .nil))) .nil)) (.node [] [] (.node [] [] .nil (.node [] [] (.node [] [] .nil .nil) .nil)) (.node [] [] .nil .nil))))) (retK Tryz.prog [.tmp 4] K) (nth [v0, v1]) w := by kernel_rfl
theorem S59_ok {v0 v1 : Value} {K : Cont} {w : World} (h : S59 v0 v1 K w) : callK Tryz.prog 59 [v0, v1] K w :=
  callK_of (P := Tryz.prog) (ok := okf) (n := 36) (fn := Tryz.f59) (c := bodyOf Tryz.f59) (rs := [.tmp 4]) (an := (.node [] [] .nil (.node [] [] .nil (.node [] [] (.node [] [] .nil (.node [5, 11] [(4, 5), (7, 8), (11, 26)] (.node [] [] .nil (.node [] [] (.node [] [] .nil .nil) (.node [] [] (.node [] [] .nil (.node [] [] .nil (.node [] [] .nil (.node [] [] (.node [] [] .nil .nil) (.node [] [] .nil (.node [] [] .nil .nil)))))) .nil))) .nil)) (.node [] [] (.node [] [] .nil (.node [] [] (.node [] [] .nil .nil) .nil)) (.node [] [] .nil .nil)))))) good mixed Tryz.func59 (by kernel_rfl) (by kernel_rfl) (by kernel_rfl) (by kernel_rfl) (Eq.mp (S59_eq v0 v1 K w) h)

/-- rubric/ops.one -/
def S93 (v0 v1 : Value) (K : Cont) (w : World) : Prop :=
  boxnK 39 v1 (fun t3 w1 =>
  JoinK (fun _vs w2 => ∀ _h : Env,
  faK 3 t3 fun t20 =>
  ld1K t20 (fun t21 w3 =>
  callK Tryz.prog 154 [v0, t21] (fun t22 w4 =>
  neK .i64 t22 (.int .i64 0) fun t24 =>
  condK t24
  (K t22 w4)
  (faK 4 t3 fun t27 =>
  ld1K t27 (fun t28 w5 =>
  callK Tryz.prog 155 [v0, t28] (fun t29 w6 =>
  K t29 w6) w5) w4)) w3) w2) (fun J =>
  ldnK 5 t3 (fun t6 w7 =>
  callK Tryz.prog 152 [t6] (fun t7 w8 =>
  notK t7 fun t8 =>
  condK t8
  (K (.int .i64 3) w8)
  (ldnK 5 t3 (fun t10 w9 =>
  callK Tryz.prog 153 [t10] (fun t11 w10 =>
  ltK .i64 t11 (.int .i64 1) fun t12 =>
  condK t12
  (K (.int .i64 3) w10)
  (ldnK 5 t3 (fun t15 w11 =>
  callK Tryz.prog 153 [t15] (fun t16 w12 =>
  gtK .i64 t16 (.int .i64 536870912) fun t17 =>
  condK t17
  (K (.int .i64 3) w12)
  (J [] w12)) w11) w10)) w9) w8)) w7) w1)) w
theorem S93_eq (v0 v1 : Value) (K : Cont) (w : World) : S93 v0 v1 K w = D Tryz.prog okf 30 (bodyOf Tryz.f93) (.node [] [] .nil (.cut [] [(4, 4), (6, 18)] (.node [] [] .nil (.node [] [] (.node [] [] .nil .nil) .nil)) (.node [] [] (.node [] [] .nil (.node [] [] .nil (.node [] [] (.node [] [] .nil .nil) .nil))) (.node [] [] .nil .nil)))) (retK Tryz.prog [.tmp 4] K) (nth [v0, v1]) w := by kernel_rfl
theorem S93_ok {v0 v1 : Value} {K : Cont} {w : World} (h : S93 v0 v1 K w) : callK Tryz.prog 93 [v0, v1] K w :=
  callK_of (P := Tryz.prog) (ok := okf) (n := 30) (fn := Tryz.f93) (c := bodyOf Tryz.f93) (rs := [.tmp 4]) (an := (.node [] [] .nil (.cut [] [(4, 4), (6, 18)] (.node [] [] .nil (.node [] [] (.node [] [] .nil .nil) .nil)) (.node [] [] (.node [] [] .nil (.node [] [] .nil (.node [] [] (.node [] [] .nil .nil) .nil))) (.node [] [] .nil .nil))))) good mixed Tryz.func93 (by kernel_rfl) (by kernel_rfl) (by kernel_rfl) (by kernel_rfl) (Eq.mp (S93_eq v0 v1 K w) h)

/-- rubric/ops.form -/
def S152 (v0 : Value) (K : Cont) (w : World) : Prop :=
  boxnK 39 v0 (fun t1 w1 =>
  JoinK (fun vs w2 => ∀ _h : Env,
  faK 0 t1 fun t14 =>
  ld1K t14 (fun t15 w3 =>
  eqK .u8 t15 (.int .u8 1) fun t17 =>
  condK t17
  (notK (nth vs 0) fun t19 =>
  K t19 w3)
  (eqK .u8 t15 (.int .u8 3) fun t21 =>
  condK t21
  (notK (nth vs 0) fun t23 =>
  condK t23
  (faK 4 t1 fun t25 =>
  ld1K t25 (fun t26 w4 =>
  lenK t26 fun t27 =>
  eqK .i64 t27 (.int .i64 0) fun t28 =>
  K t28 w4) w3)
  (K (.bool false) w3))
  (eqK .u8 t15 (.int .u8 2) fun t31 =>
  condK t31
  (faK 1 t1 fun t32 =>
  ld1K t32 (fun t33 w5 =>
  eqK .i64 t33 (.int .i64 0) fun t34 =>
  condK t34
  (faK 4 t1 fun t36 =>
  ld1K t36 (fun t37 w6 =>
  lenK t37 fun t38 =>
  eqK .i64 t38 (.int .i64 0) fun t39 =>
  condK t39
  (faK 2 t1 fun t42 =>
  ld1K t42 (fun t43 w7 =>
  callK Tryz.prog 189 [t43, (.func (.func 190) #[] #[])] (fun t44 w8 =>
  notK t44 fun t45 =>
  K t45 w8) w7) w6)
  (K (.bool false) w6)) w5)
  (K (.bool false) w5)) w3)
  (K (.bool false) w3)))) w2) (fun J =>
  faK 2 t1 fun t4 =>
  ld1K t4 (fun t5 w9 =>
  lenK t5 fun t6 =>
  gtK .i64 t6 (.int .i64 0) fun t7 =>
  condK t7
  (J [(.bool true)] w9)
  (faK 3 t1 fun t9 =>
  ld1K t9 (fun t10 w10 =>
  lenK t10 fun t11 =>
  gtK .i64 t11 (.int .i64 0) fun t12 =>
  J [t12] w10) w9)) w1)) w
theorem S152_eq (v0 : Value) (K : Cont) (w : World) : S152 v0 K w = D Tryz.prog okf 47 (bodyOf Tryz.f152) (.node [] [] .nil (.cut [3] [(3, 13)] .nil (.node [] [] (.node [] [] .nil (.node [] [] .nil (.node [] [] (.node [] [] .nil .nil) (.node [] [] .nil (.node [] [] (.node [] [] .nil .nil) (.node [] [] .nil (.node [] [] (.node [] [] .nil .nil) .nil))))))) (.node [] [] .nil .nil)))) (retK Tryz.prog [.tmp 2] K) (nth [v0]) w := by kernel_rfl
theorem S152_ok {v0 : Value} {K : Cont} {w : World} (h : S152 v0 K w) : callK Tryz.prog 152 [v0] K w :=
  callK_of (P := Tryz.prog) (ok := okf) (n := 47) (fn := Tryz.f152) (c := bodyOf Tryz.f152) (rs := [.tmp 2]) (an := (.node [] [] .nil (.cut [3] [(3, 13)] .nil (.node [] [] (.node [] [] .nil (.node [] [] .nil (.node [] [] (.node [] [] .nil .nil) (.node [] [] .nil (.node [] [] (.node [] [] .nil .nil) (.node [] [] .nil (.node [] [] (.node [] [] .nil .nil) .nil))))))) (.node [] [] .nil .nil))))) good mixed Tryz.func152 (by kernel_rfl) (by kernel_rfl) (by kernel_rfl) (by kernel_rfl) (Eq.mp (S152_eq v0 K w) h)

/-- rubric/ops.form$1 -/
def S190 (v0 : Value) (K : Cont) (w : World) : Prop :=
  callK Tryz.prog 159 [v0] (fun t4 w1 =>
  notK t4 fun t5 =>
  K t5 w1) w
theorem S190_eq (v0 : Value) (K : Cont) (w : World) : S190 v0 K w = D Tryz.prog okf 6 (bodyOf Tryz.f190) (.node [] [] .nil (.node [] [] .nil .nil)) (retK Tryz.prog [.tmp 2] K) (nth [v0]) w := by kernel_rfl
theorem S190_ok {v0 : Value} {K : Cont} {w : World} (h : S190 v0 K w) : callK Tryz.prog 190 [v0] K w :=
  callK_of (P := Tryz.prog) (ok := okf) (n := 6) (fn := Tryz.f190) (c := bodyOf Tryz.f190) (rs := [.tmp 2]) (an := (.node [] [] .nil (.node [] [] .nil .nil))) good mixed Tryz.func190 (by kernel_rfl) (by kernel_rfl) (by kernel_rfl) (by kernel_rfl) (Eq.mp (S190_eq v0 K w) h)

/-- rubric/ops.size -/
def S153 (v0 : Value) (K : Cont) (w : World) : Prop :=
  boxnK 39 v0 (fun t1 w1 =>
  faK 0 t1 fun t3 =>
  ld1K t3 (fun t4 w2 =>
  eqK .u8 t4 (.int .u8 2) fun t5 =>
  condK t5
  (faK 2 t1 fun t6 =>
  ld1K t6 (fun t7 w3 =>
  lenK t7 fun t8 =>
  K t8 w3) w2)
  (faK 1 t1 fun t9 =>
  ld1K t9 (fun t10 w4 =>
  K t10 w4) w2)) w1) w
theorem S153_eq (v0 : Value) (K : Cont) (w : World) : S153 v0 K w = D Tryz.prog okf 11 (bodyOf Tryz.f153) (.node [] [] .nil (.node [] [] (.node [] [] .nil (.node [] [] (.node [] [] .nil .nil) .nil)) (.node [] [] .nil .nil))) (retK Tryz.prog [.tmp 2] K) (nth [v0]) w := by kernel_rfl
theorem S153_ok {v0 : Value} {K : Cont} {w : World} (h : S153 v0 K w) : callK Tryz.prog 153 [v0] K w :=
  callK_of (P := Tryz.prog) (ok := okf) (n := 11) (fn := Tryz.f153) (c := bodyOf Tryz.f153) (rs := [.tmp 2]) (an := (.node [] [] .nil (.node [] [] (.node [] [] .nil (.node [] [] (.node [] [] .nil .nil) .nil)) (.node [] [] .nil .nil)))) good mixed Tryz.func153 (by kernel_rfl) (by kernel_rfl) (by kernel_rfl) (by kernel_rfl) (Eq.mp (S153_eq v0 K w) h)

/-- rubric/ops.Takes -/
def S94 (v0 : Value) (K : Cont) (w : World) : Prop :=
  lenK v0 fun t7 =>
  LoopK [(.int .i64 0), (.int .i64 0)] (fun vs again w1 => ∀ _h : Env,
  ltK .i64 (nth vs 1) t7 fun t9 =>
  condK t9
  (ixK 5 v0 (nth vs 1) fun t10 =>
  ldnK 5 t10 (fun t11 w2 =>
  newK 39 [(.int .u8 0), (.int .i64 0), (.slice none 0 0), (.slice none 0 0), (.slice none 0 0)] (fun t5 w3 =>
  stnK 5 t5 t11 (fun w4 =>
  faK 0 t5 fun t12 =>
  ld1K t12 (fun t13 w5 =>
  neK .u8 t13 (.int .u8 2) fun t14 =>
  condK t14
  (faK 1 t5 fun t16 =>
  ld1K t16 (fun t17 w6 =>
  addK .i64 (nth vs 0) t17 fun t18 =>
  addK .i64 (nth vs 1) (.int .i64 1) fun t19 =>
  again [t18, t19] w6) w5)
  (addK .i64 (nth vs 1) (.int .i64 1) fun t19_1 =>
  again [(nth vs 0), t19_1] w5)) w4) w3) w2) w1)
  (K (nth vs 0) w1)) w
theorem S94_eq (v0 : Value) (K : Cont) (w : World) : S94 v0 K w = D Tryz.prog okf 21 (bodyOf Tryz.f94) (.node [] [] .nil (.node [] [] .nil (.node [] [] (.node [] [] .nil (.node [3, 8] [(3, 3), (5, 5), (8, 19)] (.node [] [] .nil (.node [] [] (.node [] [] .nil .nil) (.node [] [] (.node [] [] .nil (.node [] [] .nil (.node [] [] .nil .nil))) .nil))) .nil)) (.node [] [] .nil .nil)))) (retK Tryz.prog [.tmp 2] K) (nth [v0]) w := by kernel_rfl
theorem S94_ok {v0 : Value} {K : Cont} {w : World} (h : S94 v0 K w) : callK Tryz.prog 94 [v0] K w :=
  callK_of (P := Tryz.prog) (ok := okf) (n := 21) (fn := Tryz.f94) (c := bodyOf Tryz.f94) (rs := [.tmp 2]) (an := (.node [] [] .nil (.node [] [] .nil (.node [] [] (.node [] [] .nil (.node [3, 8] [(3, 3), (5, 5), (8, 19)] (.node [] [] .nil (.node [] [] (.node [] [] .nil .nil) (.node [] [] (.node [] [] .nil (.node [] [] .nil (.node [] [] .nil .nil))) .nil))) .nil)) (.node [] [] .nil .nil))))) good mixed Tryz.func94 (by kernel_rfl) (by kernel_rfl) (by kernel_rfl) (by kernel_rfl) (Eq.mp (S94_eq v0 K w) h)

/-- rubric/ops.Makes -/
def S95 (v0 : Value) (K : Cont) (w : World) : Prop :=
  lenK v0 fun t7 =>
  LoopK [(.int .i64 0), (.int .i64 0)] (fun vs again w1 => ∀ _h : Env,
  ltK .i64 (nth vs 1) t7 fun t9 =>
  condK t9
  (ixK 5 v0 (nth vs 1) fun t10 =>
  ldnK 5 t10 (fun t11 w2 =>
  newK 39 [(.int .u8 0), (.int .i64 0), (.slice none 0 0), (.slice none 0 0), (.slice none 0 0)] (fun t5 w3 =>
  stnK 5 t5 t11 (fun w4 =>
  faK 0 t5 fun t12 =>
  ld1K t12 (fun t13 w5 =>
  neK .u8 t13 (.int .u8 3) fun t14 =>
  condK t14
  (ldnK 5 t5 (fun t16 w6 =>
  callK Tryz.prog 153 [t16] (fun t17 w7 =>
  addK .i64 (nth vs 0) t17 fun t18 =>
  addK .i64 (nth vs 1) (.int .i64 1) fun t19 =>
  again [t18, t19] w7) w6) w5)
  (addK .i64 (nth vs 1) (.int .i64 1) fun t19_1 =>
  again [(nth vs 0), t19_1] w5)) w4) w3) w2) w1)
  (K (nth vs 0) w1)) w
theorem S95_eq (v0 : Value) (K : Cont) (w : World) : S95 v0 K w = D Tryz.prog okf 21 (bodyOf Tryz.f95) (.node [] [] .nil (.node [] [] .nil (.node [] [] (.node [] [] .nil (.node [3, 8] [(3, 3), (5, 5), (8, 19)] (.node [] [] .nil (.node [] [] (.node [] [] .nil .nil) (.node [] [] (.node [] [] .nil (.node [] [] .nil (.node [] [] .nil .nil))) .nil))) .nil)) (.node [] [] .nil .nil)))) (retK Tryz.prog [.tmp 2] K) (nth [v0]) w := by kernel_rfl
theorem S95_ok {v0 : Value} {K : Cont} {w : World} (h : S95 v0 K w) : callK Tryz.prog 95 [v0] K w :=
  callK_of (P := Tryz.prog) (ok := okf) (n := 21) (fn := Tryz.f95) (c := bodyOf Tryz.f95) (rs := [.tmp 2]) (an := (.node [] [] .nil (.node [] [] .nil (.node [] [] (.node [] [] .nil (.node [3, 8] [(3, 3), (5, 5), (8, 19)] (.node [] [] .nil (.node [] [] (.node [] [] .nil .nil) (.node [] [] (.node [] [] .nil (.node [] [] .nil (.node [] [] .nil .nil))) .nil))) .nil)) (.node [] [] .nil .nil))))) good mixed Tryz.func95 (by kernel_rfl) (by kernel_rfl) (by kernel_rfl) (by kernel_rfl) (Eq.mp (S95_eq v0 K w) h)

/-- rubric/runes.May -/
def S159 (v0 : Value) (K : Cont) (w : World) : Prop :=
  callK Tryz.prog 195 [v0] (fun t4 w1 =>
  K t4 w1) w
theorem S159_eq (v0 : Value) (K : Cont) (w : World) : S159 v0 K w = D Tryz.prog okf 5 (bodyOf Tryz.f159) (.node [] [] .nil (.node [] [] .nil .nil)) (retK Tryz.prog [.tmp 2] K) (nth [v0]) w := by kernel_rfl
theorem S159_ok {v0 : Value} {K : Cont} {w : World} (h : S159 v0 K w) : callK Tryz.prog 159 [v0] K w :=
  callK_of (P := Tryz.prog) (ok := okf) (n := 5) (fn := Tryz.f159) (c := bodyOf Tryz.f159) (rs := [.tmp 2]) (an := (.node [] [] .nil (.node [] [] .nil .nil))) good mixed Tryz.func159 (by kernel_rfl) (by kernel_rfl) (by kernel_rfl) (by kernel_rfl) (Eq.mp (S159_eq v0 K w) h)

/-- unicode/utf8.ValidRune -/
def S195 (v0 : Value) (K : Cont) (w : World) : Prop :=
  leK .i32 (.int .i32 0) v0 fun t5 =>
  condK t5
  (ltK .i32 v0 (.int .i32 55296) fun t8 =>
  condK t8
  (K (.bool true) w)
  (ltK .i32 (.int .i32 57343) v0 fun t12 =>
  condK t12
  (leK .i32 v0 (.int .i32 1114111) fun t15 =>
  condK t15
  (K (.bool true) w)
  (K (.bool false) w))
  (K (.bool false) w)))
  (ltK .i32 (.int .i32 57343) v0 fun t12_1 =>
  condK t12_1
  (leK .i32 v0 (.int .i32 1114111) fun t15_1 =>
  condK t15_1
  (K (.bool true) w)
  (K (.bool false) w))
  (K (.bool false) w))
theorem S195_eq (v0 : Value) (K : Cont) (w : World) : S195 v0 K w = D Tryz.prog okf 17 (bodyOf Tryz.f195) (.node [] [] .nil (.node [] [] (.node [] [] .nil (.node [] [] (.node [] [] .nil .nil) (.node [] [] .nil (.node [] [] (.node [] [] .nil .nil) .nil)))) (.node [] [] .nil .nil))) (retK Tryz.prog [.tmp 2] K) (nth [v0]) w := by kernel_rfl
theorem S195_ok {v0 : Value} {K : Cont} {w : World} (h : S195 v0 K w) : callK Tryz.prog 195 [v0] K w :=
  callK_of (P := Tryz.prog) (ok := okf) (n := 17) (fn := Tryz.f195) (c := bodyOf Tryz.f195) (rs := [.tmp 2]) (an := (.node [] [] .nil (.node [] [] (.node [] [] .nil (.node [] [] (.node [] [] .nil .nil) (.node [] [] .nil (.node [] [] (.node [] [] .nil .nil) .nil)))) (.node [] [] .nil .nil)))) good mixed Tryz.func195 (by kernel_rfl) (by kernel_rfl) (by kernel_rfl) (by kernel_rfl) (Eq.mp (S195_eq v0 K w) h)

/-- slices.ContainsFunc[[]int32,int32] -/
def S189 (v0 v1 : Value) (K : Cont) (w : World) : Prop :=
  callK Tryz.prog 205 [v0, v1] (fun t7 w1 =>
  geK .i64 t7 (.int .i64 0) fun t8 =>
  K t8 w1) w
theorem S189_eq (v0 v1 : Value) (K : Cont) (w : World) : S189 v0 v1 K w = D Tryz.prog okf 9 (bodyOf Tryz.f189) (.node [] [] .nil (.node [] [] .nil .nil)) (retK Tryz.prog [.tmp 4] K) (nth [v0, v1]) w := by kernel_rfl
theorem S189_ok {v0 v1 : Value} {K : Cont} {w : World} (h : S189 v0 v1 K w) : callK Tryz.prog 189 [v0, v1] K w :=
  callK_of (P := Tryz.prog) (ok := okf) (n := 9) (fn := Tryz.f189) (c := bodyOf Tryz.f189) (rs := [.tmp 4]) (an := (.node [] [] .nil (.node [] [] .nil .nil))) good mixed Tryz.func189 (by kernel_rfl) (by kernel_rfl) (by kernel_rfl) (by kernel_rfl) (Eq.mp (S189_eq v0 v1 K w) h)

/-- slices.IndexFunc[[]int32,int32] -/
def S205 (v0 v1 : Value) (K : Cont) (w : World) : Prop :=
  lenK v0 fun t7 =>
  LoopK [(.int .i64 0)] (fun vs again w1 => ∀ _h : Env,
  ltK .i64 (nth vs 0) t7 fun t9 =>
  condK t9
  (ixK 1 v0 (nth vs 0) fun t14 =>
  ld1K t14 (fun t15 w2 =>
  callyK Tryz.prog okf v1 [t15] (fun t16 w3 =>
  condK t16
  (K (nth vs 0) w3)
  (addK .i64 (nth vs 0) (.int .i64 1) fun t18 =>
  again [t18] w3)) w2) w1)
  (K (.int .i64 (-1)) w1)) w
theorem S205_eq (v0 v1 : Value) (K : Cont) (w : World) : S205 v0 v1 K w = D Tryz.prog okf 19 (bodyOf Tryz.f205) (.node [] [] .nil (.node [] [] (.node [] [] .nil (.node [8] [(4, 5), (8, 18)] (.node [] [] .nil (.node [] [] (.node [] [] .nil .nil) (.node [] [] (.node [] [] .nil (.node [] [] .nil (.node [] [] (.node [] [] .nil .nil) .nil))) .nil))) .nil)) (.node [] [] .nil .nil))) (retK Tryz.prog [.tmp 4] K) (nth [v0, v1]) w := by kernel_rfl
theorem S205_ok {v0 v1 : Value} {K : Cont} {w : World} (h : S205 v0 v1 K w) : callK Tryz.prog 205 [v0, v1] K w :=
  callK_of (P := Tryz.prog) (ok := okf) (n := 19) (fn := Tryz.f205) (c := bodyOf Tryz.f205) (rs := [.tmp 4]) (an := (.node [] [] .nil (.node [] [] (.node [] [] .nil (.node [8] [(4, 5), (8, 18)] (.node [] [] .nil (.node [] [] (.node [] [] .nil .nil) (.node [] [] (.node [] [] .nil (.node [] [] .nil (.node [] [] (.node [] [] .nil .nil) .nil))) .nil))) .nil)) (.node [] [] .nil .nil)))) good mixed Tryz.func205 (by kernel_rfl) (by kernel_rfl) (by kernel_rfl) (by kernel_rfl) (Eq.mp (S205_eq v0 v1 K w) h)

/-- rubric/patch.May -/
def S155 (v0 v1 : Value) (K : Cont) (w : World) : Prop :=
  lenK v1 fun t11 =>
  gtK .i64 t11 (.int .i64 64) fun t12 =>
  condK t12
  (K (.int .i64 3) w)
  (lenK v1 fun t14 =>
  LoopK [(.int .i64 0), (.int .i64 0)] (fun vs again w1 => ∀ _h : Env,
  ltK .i64 (nth vs 1) t14 fun t16 =>
  condK t16
  (JoinK (fun vs_1 w2 => ∀ _h_1 : Env,
  addK .i64 (nth vs 1) (.int .i64 1) fun t75 =>
  again [(nth vs_1 0), t75] w2) (fun J =>
  ixK 6 v1 (nth vs 1) fun t18 =>
  ldnK 6 t18 (fun t19 w3 =>
  newK 111 [(.int .i64 0), (.bool false), (.int .u8 0), (.int .i64 0), (.int .u64 0), (.string (ByteArray.mk #[]))] (fun t7 w4 =>
  stnK 6 t7 t19 (fun w5 =>
  faK 0 t7 fun t22 =>
  ld1K t22 (fun t23 w6 =>
  callK Tryz.prog 193 [v0, t23] (fun t24 w7 =>
  extK 0 t24 fun t25 =>
  extK 1 t24 fun t26 =>
  newK 84 [(.int .i64 0), (.bool false), (.int .u8 0), (.bool false), (.bool false), (.int .i64 0)] (fun t8 w8 =>
  stnK 6 t8 t25 (fun w9 =>
  JoinK (fun vs_2 w10 => ∀ _h_2 : Env,
  condK (nth vs_2 0)
  (K (.int .i64 3) w10)
  (notK t26 fun t60 =>
  condK t60
  (J [(.int .i64 4)] w10)
  (faK 1 t7 fun t62 =>
  ld1K t62 (fun t63 w11 =>
  notK t63 fun t64 =>
  condK t64
  (faK 0 t7 fun t67 =>
  ld1K t67 (fun t68 w12 =>
  faK 2 t7 fun t69 =>
  ldnK 4 t69 (fun t70 w13 =>
  callK Tryz.prog 192 [v0, t68, t70] (fun t71 w14 =>
  notK t71 fun t72 =>
  condK t72
  (J [(.int .i64 4)] w14)
  (J [(nth vs 0)] w14)) w13) w12) w11)
  (J [(nth vs 0)] w11)) w10))) (fun J_1 =>
  JoinK (fun vs_3 w15 => ∀ _h_3 : Env,
  condK (nth vs_3 0)
  (J_1 [(nth vs_3 0)] w15)
  (faK 1 t7 fun t41 =>
  ld1K t41 (fun t42 w16 =>
  condK t42
  (faK 2 t7 fun t44 =>
  ldnK 4 t44 (fun t45 w17 =>
  buildK [(0, 1), (1, 1), (2, 1), (3, 1)] [(.int .u8 0), (.int .i64 0), (.int .u64 0), (.string (ByteArray.mk #[]))] [] fun t46 =>
  runK Tryz.prog (binS .neq 107 (.tmp 45) (.tmp 46) t45 t46) (fun t47 w18 =>
  condK t47
  (J_1 [t47] w18)
  (faK 1 t7 fun t49 =>
  ld1K t49 (fun t50 w19 =>
  notK t50 fun t51 =>
  condK t51
  (faK 2 t7 fun t53 =>
  ldnK 4 t53 (fun t54 w20 =>
  callK Tryz.prog 191 [t54] (fun t55 w21 =>
  notK t55 fun t56 =>
  J_1 [t56] w21) w20) w19)
  (J_1 [(.bool false)] w19)) w18)) w17) w16)
  (faK 1 t7 fun t49_1 =>
  ld1K t49_1 (fun t50_1 w22 =>
  notK t50_1 fun t51_1 =>
  condK t51_1
  (faK 2 t7 fun t53_1 =>
  ldnK 4 t53_1 (fun t54_1 w23 =>
  callK Tryz.prog 191 [t54_1] (fun t55_1 w24 =>
  notK t55_1 fun t56_1 =>
  J_1 [t56_1] w24) w23) w22)
  (J_1 [(.bool false)] w22)) w16)) w15)) (fun J_2 =>
  DrawK w9 (fun C =>
  gtK .i64 (nth vs 1) (.int .i64 0) fun t29 =>
  condK t29
  (subK .i64 (nth vs 1) (.int .i64 1) fun t33 =>
  ixK 6 v1 t33 fun t34 =>
  faK 0 t34 fun t35 =>
  qld1K C t35 fun t36 =>
  faK 0 t7 fun t37 =>
  qld1K C t37 fun t38 =>
  geK .i64 t36 t38 fun t39 =>
  ∀ w25 : World, C w25 →
  J_2 [t39] w25)
  (∀ w26 : World, C w26 →
  J_2 [(.bool false)] w26))))) w8) w7) w6) w5) w4) w3) w1))
  (K (nth vs 0) w1)) w)
theorem S155_eq (v0 v1 : Value) (K : Cont) (w : World) : S155 v0 v1 K w = D Tryz.prog okf 77 (bodyOf Tryz.f155) (.node [] [] .nil (.node [] [] (.node [] [] .nil (.node [] [] (.node [] [] .nil .nil) .nil)) (.node [] [] .nil (.node [] [] (.node [] [] .nil (.node [5, 15] [(4, 9), (15, 75)] (.node [] [] .nil (.node [] [] (.node [] [] .nil .nil) (.cut [5] [(4, 9), (17, 74)] (.node [] [] .nil (.node [] [] .nil (.cut [27] [(27, 57)] (.cut [27] [(27, 40)] .draw (.node [] [] .nil (.node [] [] .nil (.node [] [] .nil .nil)))) (.node [] [] (.node [] [] .nil .nil) (.node [] [] .nil (.node [] [] .nil .nil)))))) .nil))) .nil)) (.node [] [] .nil .nil))))) (retK Tryz.prog [.tmp 4] K) (nth [v0, v1]) w := by kernel_rfl
theorem S155_ok {v0 v1 : Value} {K : Cont} {w : World} (h : S155 v0 v1 K w) : callK Tryz.prog 155 [v0, v1] K w :=
  callK_of (P := Tryz.prog) (ok := okf) (n := 77) (fn := Tryz.f155) (c := bodyOf Tryz.f155) (rs := [.tmp 4]) (an := (.node [] [] .nil (.node [] [] (.node [] [] .nil (.node [] [] (.node [] [] .nil .nil) .nil)) (.node [] [] .nil (.node [] [] (.node [] [] .nil (.node [5, 15] [(4, 9), (15, 75)] (.node [] [] .nil (.node [] [] (.node [] [] .nil .nil) (.cut [5] [(4, 9), (17, 74)] (.node [] [] .nil (.node [] [] .nil (.cut [27] [(27, 57)] (.cut [27] [(27, 40)] .draw (.node [] [] .nil (.node [] [] .nil (.node [] [] .nil .nil)))) (.node [] [] (.node [] [] .nil .nil) (.node [] [] .nil (.node [] [] .nil .nil)))))) .nil))) .nil)) (.node [] [] .nil .nil)))))) good mixed Tryz.func155 (by kernel_rfl) (by kernel_rfl) (by kernel_rfl) (by kernel_rfl) (Eq.mp (S155_eq v0 v1 K w) h)

/-- rubric/patch.Compose -/
def S185 (v0 v1 : Value) (K : Cont) (w : World) : Prop :=
  lenK v1 fun t10 =>
  LoopK [(.slice none 0 0), (.int .i64 0), (.int .i64 0)] (fun vs again w1 => ∀ _h : Env,
  ltK .i64 (nth vs 2) t10 fun t12 =>
  condK t12
  (ixK 6 v1 (nth vs 2) fun t13 =>
  ldnK 6 t13 (fun t14 w2 =>
  newK 111 [(.int .i64 0), (.bool false), (.int .u8 0), (.int .i64 0), (.int .u64 0), (.string (ByteArray.mk #[]))] (fun t8 w3 =>
  stnK 6 t8 t14 (fun w4 =>
  JoinK (fun vs_1 w5 => ∀ _h_1 : Env,
  ldnK 6 t8 (fun t47 w6 =>
  rowK 111 6 1 [(.int .i64 0), (.bool false), (.int .u8 0), (.int .i64 0), (.int .u64 0), (.string (ByteArray.mk #[]))] [(0, t47)] (fun t48 w7 =>
  runK Tryz.prog (Builtin.append_ #[37, 37] 37 [(nth vs_1 0), t48].toArray) (fun t49 w8 =>
  addK .i64 (nth vs 2) (.int .i64 1) fun t50 =>
  again [t49, (nth vs_1 1), t50] w8) w7) w6) w5) (fun J =>
  LoopK [(nth vs 0), (nth vs 1)] (fun vs_2 again_1 w9 => ∀ _h_2 : Env,
  JoinK (fun _vs_3 w10 => ∀ _h_3 : Env,
  DrawK w10 (fun C =>
  ixK 6 v0 (nth vs_2 1) fun t33 =>
  faK 0 t33 fun t34 =>
  qld1K C t34 fun t35 =>
  faK 0 t8 fun t36 =>
  qld1K C t36 fun t37 =>
  ltK .i64 t35 t37 fun t38 =>
  ∀ w11 : World, C w11 →
  condK t38
  (ixK 6 v0 (nth vs_2 1) fun t42 =>
  ldnK 6 t42 (fun t43 w12 =>
  rowK 111 6 1 [(.int .i64 0), (.bool false), (.int .u8 0), (.int .i64 0), (.int .u64 0), (.string (ByteArray.mk #[]))] [(0, t43)] (fun t44 w13 =>
  runK Tryz.prog (Builtin.append_ #[37, 37] 37 [(nth vs_2 0), t44].toArray) (fun t45 w14 =>
  addK .i64 (nth vs_2 1) (.int .i64 1) fun t30 =>
  again_1 [t45, t30] w14) w13) w12) w11)
  (addK .i64 (nth vs_2 1) (.int .i64 1) fun t30_1 =>
  again_1 [(nth vs_2 0), t30_1] w11))) (fun J_1 =>
  DrawK w9 (fun C_1 =>
  lenK v0 fun t17 =>
  ltK .i64 (nth vs_2 1) t17 fun t18 =>
  condK t18
  (ixK 6 v0 (nth vs_2 1) fun t22 =>
  faK 0 t22 fun t23 =>
  qld1K C_1 t23 fun t24 =>
  faK 0 t8 fun t25 =>
  qld1K C_1 t25 fun t26 =>
  leK .i64 t24 t26 fun t27 =>
  ∀ w15 : World, C_1 w15 →
  condK t27
  (J_1 [] w15)
  (J [(nth vs_2 0), (nth vs_2 1)] w15))
  (∀ w16 : World, C_1 w16 →
  J [(nth vs_2 0), (nth vs_2 1)] w16)))) w4)) w3) w2) w1)
  (runK Tryz.prog (Instr.sliceAt 37 v0 (some (nth vs 1)) none none) (fun t54 w17 =>
  runK Tryz.prog (Builtin.append_ #[37, 37] 37 [(nth vs 0), t54].toArray) (fun t55 w18 =>
  K t55 w18) w17) w1)) w
theorem S185_eq (v0 v1 : Value) (K : Cont) (w : World) : S185 v0 v1 K w = D Tryz.prog okf 56 (bodyOf Tryz.f185) (.node [] [] .nil (.node [] [] .nil (.node [] [] .nil (.node [] [] (.node [] [] .nil (.node [5, 6, 11] [(5, 6), (8, 8), (11, 50)] (.node [] [] .nil (.node [] [] (.node [] [] .nil .nil) (.node [] [] (.node [] [] .nil (.cut [5, 6] [(5, 6), (15, 45)] (.node [5, 6] [(5, 6), (15, 45)] (.cut [] [(15, 28)] (.node [] [] .draw (.node [] [] .nil .nil)) (.node [] [] (.node [] [] .draw (.node [] [] .nil .nil)) .nil)) .nil) .nil)) .nil))) .nil)) (.node [] [] .nil .nil))))) (retK Tryz.prog [.tmp 4] K) (nth [v0, v1]) w := by kernel_rfl
theorem S185_ok {v0 v1 : Value} {K : Cont} {w : World} (h : S185 v0 v1 K w) : callK Tryz.prog 185 [v0, v1] K w :=
  callK_of (P := Tryz.prog) (ok := okf) (n := 56) (fn := Tryz.f185) (c := bodyOf Tryz.f185) (rs := [.tmp 4]) (an := (.node [] [] .nil (.node [] [] .nil (.node [] [] .nil (.node [] [] (.node [] [] .nil (.node [5, 6, 11] [(5, 6), (8, 8), (11, 50)] (.node [] [] .nil (.node [] [] (.node [] [] .nil .nil) (.node [] [] (.node [] [] .nil (.cut [5, 6] [(5, 6), (15, 45)] (.node [5, 6] [(5, 6), (15, 45)] (.cut [] [(15, 28)] (.node [] [] .draw (.node [] [] .nil .nil)) (.node [] [] (.node [] [] .draw (.node [] [] .nil .nil)) .nil)) .nil) .nil)) .nil))) .nil)) (.node [] [] .nil .nil)))))) good mixed Tryz.func185 (by kernel_rfl) (by kernel_rfl) (by kernel_rfl) (by kernel_rfl) (Eq.mp (S185_eq v0 v1 K w) h)

/-- rubric/patch.Apply -/
def S203 (v0 v1 : Value) (K : Cont) (w : World) : Prop :=
  lenK v1 fun t10 =>
  LoopK [(.slice none 0 0), (.int .i64 0), (.int .i64 0)] (fun vs again w1 => ∀ _h : Env,
  ltK .i64 (nth vs 2) t10 fun t12 =>
  condK t12
  (JoinK (fun vs_1 w2 => ∀ _h_1 : Env,
  addK .i64 (nth vs 2) (.int .i64 1) fun t70 =>
  again [(nth vs_1 0), (nth vs_1 1), t70] w2) (fun J =>
  ixK 6 v1 (nth vs 2) fun t13 =>
  ldnK 6 t13 (fun t14 w3 =>
  newK 111 [(.int .i64 0), (.bool false), (.int .u8 0), (.int .i64 0), (.int .u64 0), (.string (ByteArray.mk #[]))] (fun t8 w4 =>
  stnK 6 t8 t14 (fun w5 =>
  LoopK [(nth vs 0), (nth vs 1)] (fun vs_2 again_1 w6 => ∀ _h_2 : Env,
  lenK v0 fun t17 =>
  ltK .i64 (nth vs_2 1) t17 fun t18 =>
  condK t18
  (JoinK (fun vs_3 w7 => ∀ _h_3 : Env,
  faK 1 t8 fun t48 =>
  ld1K t48 (fun t49 w8 =>
  notK t49 fun t50 =>
  condK t50
  (faK 0 t8 fun t52 =>
  ld1K t52 (fun t53 w9 =>
  faK 2 t8 fun t54 =>
  ldnK 4 t54 (fun t55 w10 =>
  buildK [(0, 1), (1, 4)] [(.int .i64 0), (.int .u8 0), (.int .i64 0), (.int .u64 0), (.string (ByteArray.mk #[]))] [(0, t53), (1, t55)] fun t56 =>
  rowK 109 5 1 [(.int .i64 0), (.int .u8 0), (.int .i64 0), (.int .u64 0), (.string (ByteArray.mk #[]))] [(0, t56)] (fun t57 w11 =>
  runK Tryz.prog (Builtin.append_ #[36, 36] 36 [(nth vs_3 0), t57].toArray) (fun t58 w12 =>
  J [t58, (nth vs_3 1)] w12) w11) w10) w9) w8)
  (J [(nth vs_3 0), (nth vs_3 1)] w8)) w7) (fun J_1 =>
  DrawK w6 (fun C =>
  ixK 5 v0 (nth vs_2 1) fun t24 =>
  faK 0 t24 fun t25 =>
  qld1K C t25 fun t26 =>
  faK 0 t8 fun t27 =>
  qld1K C t27 fun t28 =>
  ltK .i64 t26 t28 fun t29 =>
  ∀ w13 : World, C w13 →
  condK t29
  (ixK 5 v0 (nth vs_2 1) fun t33 =>
  ldnK 5 t33 (fun t34 w14 =>
  rowK 109 5 1 [(.int .i64 0), (.int .u8 0), (.int .i64 0), (.int .u64 0), (.string (ByteArray.mk #[]))] [(0, t34)] (fun t35 w15 =>
  runK Tryz.prog (Builtin.append_ #[36, 36] 36 [(nth vs_2 0), t35].toArray) (fun t36 w16 =>
  addK .i64 (nth vs_2 1) (.int .i64 1) fun t20 =>
  again_1 [t36, t20] w16) w15) w14) w13)
  (DrawK w13 (fun C_1 =>
  ixK 5 v0 (nth vs_2 1) fun t40 =>
  faK 0 t40 fun t41 =>
  qld1K C_1 t41 fun t42 =>
  faK 0 t8 fun t43 =>
  qld1K C_1 t43 fun t44 =>
  eqK .i64 t42 t44 fun t45 =>
  ∀ w17 : World, C_1 w17 →
  condK t45
  (addK .i64 (nth vs_2 1) (.int .i64 1) fun t47 =>
  J_1 [(nth vs_2 0), t47] w17)
  (J_1 [(nth vs_2 0), (nth vs_2 1)] w17))))))
  (faK 1 t8 fun t59 =>
  ld1K t59 (fun t60 w18 =>
  notK t60 fun t61 =>
  condK t61
  (faK 0 t8 fun t63 =>
  ld1K t63 (fun t64 w19 =>
  faK 2 t8 fun t65 =>
  ldnK 4 t65 (fun t66 w20 =>
  buildK [(0, 1), (1, 4)] [(.int .i64 0), (.int .u8 0), (.int .i64 0), (.int .u64 0), (.string (ByteArray.mk #[]))] [(0, t64), (1, t66)] fun t67 =>
  rowK 109 5 1 [(.int .i64 0), (.int .u8 0), (.int .i64 0), (.int .u64 0), (.string (ByteArray.mk #[]))] [(0, t67)] (fun t68 w21 =>
  runK Tryz.prog (Builtin.append_ #[36, 36] 36 [(nth vs_2 0), t68].toArray) (fun t69 w22 =>
  J [t69, (nth vs_2 1)] w22) w21) w20) w19) w18)
  (J [(nth vs_2 0), (nth vs_2 1)] w18)) w6)) w5) w4) w3) w1))
  (runK Tryz.prog (Instr.sliceAt 36 v0 (some (nth vs 1)) none none) (fun t74 w23 =>
  runK Tryz.prog (Builtin.append_ #[36, 36] 36 [(nth vs 0), t74].toArray) (fun t75 w24 =>
  K t75 w24) w23) w1)) w
theorem S203_eq (v0 v1 : Value) (K : Cont) (w : World) : S203 v0 v1 K w = D Tryz.prog okf 76 (bodyOf Tryz.f203) (.node [] [] .nil (.node [] [] .nil (.node [] [] .nil (.node [] [] .nil (.node [] [] (.node [] [] .nil (.node [5, 6, 11] [(5, 6), (8, 8), (11, 70)] (.node [] [] .nil (.node [] [] (.node [] [] .nil .nil) (.cut [5, 6] [(5, 6), (8, 8), (13, 69)] (.node [] [] .nil (.node [] [] (.node [5, 6] [(5, 6), (15, 58)] (.node [] [] (.node [] [] .nil (.node [] [] .nil .nil)) (.node [] [] (.cut [5, 6] [(5, 6), (21, 47)] (.node [] [] .draw (.node [] [] (.node [] [] .nil .nil) (.node [] [] .draw (.node [] [] .nil .nil)))) (.node [] [] (.node [] [] .nil (.node [] [] .nil .nil)) .nil)) .nil)) .nil) (.node [] [] .nil (.node [] [] .nil .nil)))) .nil))) .nil)) (.node [] [] .nil .nil)))))) (retK Tryz.prog [.tmp 4] K) (nth [v0, v1]) w := by kernel_rfl
theorem S203_ok {v0 v1 : Value} {K : Cont} {w : World} (h : S203 v0 v1 K w) : callK Tryz.prog 203 [v0, v1] K w :=
  callK_of (P := Tryz.prog) (ok := okf) (n := 76) (fn := Tryz.f203) (c := bodyOf Tryz.f203) (rs := [.tmp 4]) (an := (.node [] [] .nil (.node [] [] .nil (.node [] [] .nil (.node [] [] .nil (.node [] [] (.node [] [] .nil (.node [5, 6, 11] [(5, 6), (8, 8), (11, 70)] (.node [] [] .nil (.node [] [] (.node [] [] .nil .nil) (.cut [5, 6] [(5, 6), (8, 8), (13, 69)] (.node [] [] .nil (.node [] [] (.node [5, 6] [(5, 6), (15, 58)] (.node [] [] (.node [] [] .nil (.node [] [] .nil .nil)) (.node [] [] (.cut [5, 6] [(5, 6), (21, 47)] (.node [] [] .draw (.node [] [] (.node [] [] .nil .nil) (.node [] [] .draw (.node [] [] .nil .nil)))) (.node [] [] (.node [] [] .nil (.node [] [] .nil .nil)) .nil)) .nil)) .nil) (.node [] [] .nil (.node [] [] .nil .nil)))) .nil))) .nil)) (.node [] [] .nil .nil))))))) good mixed Tryz.func203 (by kernel_rfl) (by kernel_rfl) (by kernel_rfl) (by kernel_rfl) (Eq.mp (S203_eq v0 v1 K w) h)

/-- rubric/patch.Part -/
def S204 (v0 v1 v2 : Value) (K : Cont) (w : World) : Prop :=
  box1K 23 v0 (fun t3 w1 =>
  box1K 4 v2 (fun t5 w2 =>
  callK Tryz.prog 140 [v1] (fun t8 w3 =>
  callK Tryz.prog 214 [t8, (.func (.func 215) #[] #[t3, t5])] (fun t10 w4 =>
  K t10 w4) w3) w2) w1) w
theorem S204_eq (v0 v1 v2 : Value) (K : Cont) (w : World) : S204 v0 v1 v2 K w = D Tryz.prog okf 11 (bodyOf Tryz.f204) (.node [] [] .nil (.node [] [] .nil .nil)) (retK Tryz.prog [.tmp 6] K) (nth [v0, v1, v2]) w := by kernel_rfl
theorem S204_ok {v0 v1 v2 : Value} {K : Cont} {w : World} (h : S204 v0 v1 v2 K w) : callK Tryz.prog 204 [v0, v1, v2] K w :=
  callK_of (P := Tryz.prog) (ok := okf) (n := 11) (fn := Tryz.f204) (c := bodyOf Tryz.f204) (rs := [.tmp 6]) (an := (.node [] [] .nil (.node [] [] .nil .nil))) good mixed Tryz.func204 (by kernel_rfl) (by kernel_rfl) (by kernel_rfl) (by kernel_rfl) (Eq.mp (S204_eq v0 v1 v2 K w) h)

/-- rubric/patch.Part$1 -/
def S215 (v0 v1 v2 : Value) (K : Cont) (w : World) : Prop :=
  boxnK 111 v0 (fun t3 w1 =>
  ld1K v1 (fun t8 w2 =>
  faK 0 t3 fun t9 =>
  ld1K t9 (fun t10 w3 =>
  callK Tryz.prog 193 [t8, t10] (fun t11 w4 =>
  extK 0 t11 fun t12 =>
  extK 1 t11 fun t13 =>
  newK 84 [(.int .i64 0), (.bool false), (.int .u8 0), (.bool false), (.bool false), (.int .i64 0)] (fun t5 w5 =>
  stnK 6 t5 t12 (fun w6 =>
  notK t13 fun t15 =>
  condK t15
  (K (.bool true) w6)
  (faK 1 t5 fun t17 =>
  ld1K t17 (fun t18 w7 =>
  ld1K v2 (fun t19 w8 =>
  bneK t18 t19 fun t20 =>
  K t20 w8) w7) w6)) w5) w4) w3) w2) w1) w
theorem S215_eq (v0 v1 v2 : Value) (K : Cont) (w : World) : S215 v0 v1 v2 K w = D Tryz.prog okf 22 (bodyOf Tryz.f215) (.node [] [] .nil (.node [] [] .nil (.node [] [] .nil .nil))) (retK Tryz.prog [.tmp 4] K) (nth [v0, v1, v2]) w := by kernel_rfl
theorem S215_ok {v0 v1 v2 : Value} {K : Cont} {w : World} (h : S215 v0 v1 v2 K w) : callK Tryz.prog 215 [v0, v1, v2] K w :=
  callK_of (P := Tryz.prog) (ok := okf) (n := 22) (fn := Tryz.f215) (c := bodyOf Tryz.f215) (rs := [.tmp 4]) (an := (.node [] [] .nil (.node [] [] .nil (.node [] [] .nil .nil)))) good mixed Tryz.func215 (by kernel_rfl) (by kernel_rfl) (by kernel_rfl) (by kernel_rfl) (Eq.mp (S215_eq v0 v1 v2 K w) h)

/-- slices.DeleteFunc[[]rubric/api.Change,rubric/api.Change] -/
def S214 (v0 v1 : Value) (K : Cont) (w : World) : Prop :=
  callK Tryz.prog 218 [v0, v1] (fun t10 w1 =>
  eqK .i64 t10 (.int .i64 (-1)) fun t12 =>
  condK t12
  (K v0 w1)
  (addK .i64 t10 (.int .i64 1) fun t15 =>
  LoopK [t10, t15] (fun vs again w2 => ∀ _h : Env,
  lenK v0 fun t18 =>
  ltK .i64 (nth vs 1) t18 fun t19 =>
  condK t19
  (ixK 6 v0 (nth vs 1) fun t24 =>
  ldnK 6 t24 (fun t25 w3 =>
  newK 111 [(.int .i64 0), (.bool false), (.int .u8 0), (.int .i64 0), (.int .u64 0), (.string (ByteArray.mk #[]))] (fun t7 w4 =>
  stnK 6 t7 t25 (fun w5 =>
  ldnK 6 t7 (fun t27 w6 =>
  callyK Tryz.prog okf v1 [t27] (fun t28 w7 =>
  notK t28 fun t29 =>
  condK t29
  (ldnK 6 t7 (fun t32 w8 =>
  ixK 6 v0 (nth vs 0) fun t33 =>
  stnK 6 t33 t32 (fun w9 =>
  addK .i64 (nth vs 0) (.int .i64 1) fun t35 =>
  addK .i64 (nth vs 1) (.int .i64 1) fun t21 =>
  again [t35, t21] w9) w8) w7)
  (addK .i64 (nth vs 1) (.int .i64 1) fun t21_1 =>
  again [(nth vs 0), t21_1] w7)) w6) w5) w4) w3) w2)
  (runK Tryz.prog (Instr.sliceAt 37 v0 (some (nth vs 0)) none none) (fun t38 w10 =>
  runK Tryz.prog (Builtin.clear_ #[37] 0 [t38].toArray) (fun _u w11 =>
  runK Tryz.prog (Instr.sliceAt 37 v0 none (some (nth vs 0)) none) (fun t41 w12 =>
  K t41 w12) w11) w10) w2)) w1)) w
theorem S214_eq (v0 v1 : Value) (K : Cont) (w : World) : S214 v0 v1 K w = D Tryz.prog okf 42 (bodyOf Tryz.f214) (.node [] [] .nil (.node [] [] .nil (.node [] [] (.node [] [] .nil (.node [] [] (.node [] [] .nil .nil) .nil)) (.node [] [] (.node [] [] .nil (.node [5, 6] [(5, 7), (16, 35)] (.node [] [] (.node [] [] .nil (.node [] [] .nil .nil)) (.node [] [] (.node [] [] .nil (.node [] [] .nil (.node [] [] (.node [] [] .nil .nil) .nil))) .nil)) .nil)) (.node [] [] .nil (.node [] [] .nil .nil)))))) (retK Tryz.prog [.tmp 4] K) (nth [v0, v1]) w := by kernel_rfl
theorem S214_ok {v0 v1 : Value} {K : Cont} {w : World} (h : S214 v0 v1 K w) : callK Tryz.prog 214 [v0, v1] K w :=
  callK_of (P := Tryz.prog) (ok := okf) (n := 42) (fn := Tryz.f214) (c := bodyOf Tryz.f214) (rs := [.tmp 4]) (an := (.node [] [] .nil (.node [] [] .nil (.node [] [] (.node [] [] .nil (.node [] [] (.node [] [] .nil .nil) .nil)) (.node [] [] (.node [] [] .nil (.node [5, 6] [(5, 7), (16, 35)] (.node [] [] (.node [] [] .nil (.node [] [] .nil .nil)) (.node [] [] (.node [] [] .nil (.node [] [] .nil (.node [] [] (.node [] [] .nil .nil) .nil))) .nil)) .nil)) (.node [] [] .nil (.node [] [] .nil .nil))))))) good mixed Tryz.func214 (by kernel_rfl) (by kernel_rfl) (by kernel_rfl) (by kernel_rfl) (Eq.mp (S214_eq v0 v1 K w) h)

/-- slices.IndexFunc[[]rubric/api.Change,rubric/api.Change] -/
def S218 (v0 v1 : Value) (K : Cont) (w : World) : Prop :=
  lenK v0 fun t7 =>
  LoopK [(.int .i64 0)] (fun vs again w1 => ∀ _h : Env,
  ltK .i64 (nth vs 0) t7 fun t9 =>
  condK t9
  (ixK 6 v0 (nth vs 0) fun t14 =>
  ldnK 6 t14 (fun t15 w2 =>
  callyK Tryz.prog okf v1 [t15] (fun t16 w3 =>
  condK t16
  (K (nth vs 0) w3)
  (addK .i64 (nth vs 0) (.int .i64 1) fun t18 =>
  again [t18] w3)) w2) w1)
  (K (.int .i64 (-1)) w1)) w
theorem S218_eq (v0 v1 : Value) (K : Cont) (w : World) : S218 v0 v1 K w = D Tryz.prog okf 19 (bodyOf Tryz.f218) (.node [] [] .nil (.node [] [] (.node [] [] .nil (.node [8] [(4, 5), (8, 18)] (.node [] [] .nil (.node [] [] (.node [] [] .nil .nil) (.node [] [] (.node [] [] .nil (.node [] [] .nil (.node [] [] (.node [] [] .nil .nil) .nil))) .nil))) .nil)) (.node [] [] .nil .nil))) (retK Tryz.prog [.tmp 4] K) (nth [v0, v1]) w := by kernel_rfl
theorem S218_ok {v0 v1 : Value} {K : Cont} {w : World} (h : S218 v0 v1 K w) : callK Tryz.prog 218 [v0, v1] K w :=
  callK_of (P := Tryz.prog) (ok := okf) (n := 19) (fn := Tryz.f218) (c := bodyOf Tryz.f218) (rs := [.tmp 4]) (an := (.node [] [] .nil (.node [] [] (.node [] [] .nil (.node [8] [(4, 5), (8, 18)] (.node [] [] .nil (.node [] [] (.node [] [] .nil .nil) (.node [] [] (.node [] [] .nil (.node [] [] .nil (.node [] [] (.node [] [] .nil .nil) .nil))) .nil))) .nil)) (.node [] [] .nil .nil)))) good mixed Tryz.func218 (by kernel_rfl) (by kernel_rfl) (by kernel_rfl) (by kernel_rfl) (Eq.mp (S218_eq v0 v1 K w) h)

/-- rubric/apply.Cell -/
def S186 (v0 v1 v2 : Value) (K : Cont) (w : World) : Prop :=
  boxnK 152 v1 (fun t4 w1 =>
  newK 152 [(.int .i32 0), (.slice none 0 0)] (fun t6 w2 =>
  DrawC [9, 10, 12] [[], [0], [], [2], [], [], [], [6], [6, 7], [4, 5, 6, 7, 8], [2, 3, 4, 5, 6, 7, 8, 9], [0, 1, 2, 3, 4, 5, 6, 7, 8, 9, 10], [0, 1, 2, 3, 4, 5, 6, 7, 8, 9, 10, 11]] w2.drew (fun M St =>
  faK 0 t4 fun t7 =>
  sld1 (St 1) t7 fun t8 =>
  faK 1 t4 fun t9 =>
  sld1 (St 3) t9 fun t10 =>
  faK 0 t4 fun t13 =>
  sld1 (St 7) t13 fun t14 =>
  eqK .i32 t14 (.int .i32 10) fun t15 =>
  callK Tryz.prog 204 [v0, v2, t15] (fun t16 w3 =>
  Mod (M 9) w2.drew w3 ∧
  callK Tryz.prog 203 [t10, t16] (fun t17 w4 =>
  Mod (M 10) w3 w4 ∧
  buildK [(0, 1), (1, 1)] [(.int .i32 0), (.slice none 0 0)] [(0, t8), (1, t17)] fun t18 =>
  stnK 2 t6 t18 (fun w5 =>
  Mod (M 12) w4 w5 ∧
  ldnK 2 t6 (fun r0 w6 =>
  K r0 w6) w5) w4) w3) w2.drew)) w1) w
theorem S186_eq (v0 v1 v2 : Value) (K : Cont) (w : World) : S186 v0 v1 v2 K w = D Tryz.prog okf 19 (bodyOf Tryz.f186) (.node [] [] .nil (.node [] [] (.dc [9, 10, 12] [[], [0], [], [2], [], [], [], [6], [6, 7], [4, 5, 6, 7, 8], [2, 3, 4, 5, 6, 7, 8, 9], [0, 1, 2, 3, 4, 5, 6, 7, 8, 9, 10], [0, 1, 2, 3, 4, 5, 6, 7, 8, 9, 10, 11]] [[9, 10]]) .nil)) (retK Tryz.prog [.cell 6 152] K) (nth [v0, v1, v2]) w := by kernel_rfl
theorem S186_ok {v0 v1 v2 : Value} {K : Cont} {w : World} (h : S186 v0 v1 v2 K w) : callK Tryz.prog 186 [v0, v1, v2] K w :=
  callK_of (P := Tryz.prog) (ok := okf) (n := 19) (fn := Tryz.f186) (c := bodyOf Tryz.f186) (rs := [.cell 6 152]) (an := (.node [] [] .nil (.node [] [] (.dc [9, 10, 12] [[], [0], [], [2], [], [], [], [6], [6, 7], [4, 5, 6, 7, 8], [2, 3, 4, 5, 6, 7, 8, 9], [0, 1, 2, 3, 4, 5, 6, 7, 8, 9, 10], [0, 1, 2, 3, 4, 5, 6, 7, 8, 9, 10, 11]] [[9, 10]]) .nil))) good mixed Tryz.func186 (by kernel_rfl) (by kernel_rfl) (by kernel_rfl) (by kernel_rfl) (Eq.mp (S186_eq v0 v1 v2 K w) h)

/-- rubric/compose.may -/
def S141 (v0 v1 v2 : Value) (K : Cont) (w : World) : Prop :=
  callK Tryz.prog 59 [v0, v1] (fun t11 w1 =>
  callK Tryz.prog 59 [v0, v2] (fun t14 w2 =>
  eqK .i64 t11 (.int .i64 0) fun t16 =>
  condK t16
  (K t14 w2)
  (eqK .i64 t14 (.int .i64 3) fun t19 =>
  condK t19
  (K t14 w2)
  (K t11 w2))) w1) w
theorem S141_eq (v0 v1 v2 : Value) (K : Cont) (w : World) : S141 v0 v1 v2 K w = D Tryz.prog okf 23 (bodyOf Tryz.f141) (.node [] [] .nil (.node [] [] .nil (.node [] [] (.node [] [] .nil (.node [] [] (.node [] [] .nil .nil) .nil)) (.node [] [] .nil .nil)))) (retK Tryz.prog [.tmp 6] K) (nth [v0, v1, v2]) w := by kernel_rfl
theorem S141_ok {v0 v1 v2 : Value} {K : Cont} {w : World} (h : S141 v0 v1 v2 K w) : callK Tryz.prog 141 [v0, v1, v2] K w :=
  callK_of (P := Tryz.prog) (ok := okf) (n := 23) (fn := Tryz.f141) (c := bodyOf Tryz.f141) (rs := [.tmp 6]) (an := (.node [] [] .nil (.node [] [] .nil (.node [] [] (.node [] [] .nil (.node [] [] (.node [] [] .nil .nil) .nil)) (.node [] [] .nil .nil))))) good mixed Tryz.func141 (by kernel_rfl) (by kernel_rfl) (by kernel_rfl) (by kernel_rfl) (Eq.mp (S141_eq v0 v1 v2 K w) h)

/-- rubric/compose.tell -/
def S144 (v0 v1 : Value) (K : Cont) (w : World) : Prop :=
  boxnK 39 v1 (fun t3 w1 =>
  faK 0 t3 fun t4 =>
  ld1K t4 (fun t5 w2 =>
  eqK .u8 t5 (.int .u8 1) fun t11 =>
  condK t11
  (faK 1 t3 fun t13 =>
  ld1K t13 (fun t14 w3 =>
  faK 4 t3 fun t15 =>
  ld1K t15 (fun t16 w4 =>
  callK Tryz.prog 76 [v0, t14, t16] (fun _t17 w5 =>
  K (.tuple #[]) w5) w4) w3) w2)
  (eqK .u8 t5 (.int .u8 2) fun t19 =>
  condK t19
  (faK 2 t3 fun t21 =>
  ld1K t21 (fun t22 w6 =>
  faK 3 t3 fun t23 =>
  ld1K t23 (fun t24 w7 =>
  callK Tryz.prog 77 [v0, t22, t24] (fun _t25 w8 =>
  K (.tuple #[]) w8) w7) w6) w2)
  (faK 1 t3 fun t7 =>
  ld1K t7 (fun t8 w9 =>
  callK Tryz.prog 78 [v0, t8] (fun _t9 w10 =>
  K (.tuple #[]) w10) w9) w2))) w1) w
theorem S144_eq (v0 v1 : Value) (K : Cont) (w : World) : S144 v0 v1 K w = D Tryz.prog okf 26 (bodyOf Tryz.f144) (.node [] [] .nil (.node [] [] .nil (.node [] [] .nil (.node [] [] .nil (.node [] [] .nil (.node [] [] .nil .nil)))))) (retK Tryz.prog [] K) (nth [v0, v1]) w := by kernel_rfl
theorem S144_ok {v0 v1 : Value} {K : Cont} {w : World} (h : S144 v0 v1 K w) : callK Tryz.prog 144 [v0, v1] K w :=
  callK_of (P := Tryz.prog) (ok := okf) (n := 26) (fn := Tryz.f144) (c := bodyOf Tryz.f144) (rs := []) (an := (.node [] [] .nil (.node [] [] .nil (.node [] [] .nil (.node [] [] .nil (.node [] [] .nil (.node [] [] .nil .nil))))))) good mixed Tryz.func144 (by kernel_rfl) (by kernel_rfl) (by kernel_rfl) (by kernel_rfl) (Eq.mp (S144_eq v0 v1 K w) h)

/-- rubric/compose.both -/
def S147 (v0 v1 v2 v3 : Value) (K : Cont) (w : World) : Prop :=
  boxnK 39 v2 (fun t6 w1 =>
  boxnK 39 v3 (fun t7 w2 =>
  JoinK (fun vs w3 => ∀ _h : Env,
  condK (nth vs 0)
  (DrawC [7, 8] [[], [], [1], [], [3], [], [5], [3, 4, 5, 6], [0, 1, 2, 3, 4, 5, 6, 7]] w3.drew (fun M St =>
  faK 1 t7 fun t21 =>
  sld1 (St 2) t21 fun t22 =>
  faK 4 t6 fun t23 =>
  sld1 (St 4) t23 fun t24 =>
  faK 4 t7 fun t25 =>
  sld1 (St 6) t25 fun t26 =>
  callK Tryz.prog 185 [t24, t26] (fun t27 w4 =>
  Mod (M 7) w3.drew w4 ∧
  callK Tryz.prog 76 [v1, t22, t27] (fun _t28 w5 =>
  Mod (M 8) w4 w5 ∧
  K (.tuple #[]) w5) w4) w3.drew))
  (faK 0 t6 fun t30 =>
  ld1K t30 (fun t31 w6 =>
  eqK .u8 t31 (.int .u8 1) fun t32 =>
  condK t32
  (faK 1 t7 fun t34 =>
  ld1K t34 (fun t35 w7 =>
  callK Tryz.prog 78 [v1, t35] (fun _t36 w8 =>
  K (.tuple #[]) w8) w7) w6)
  (faK 0 t7 fun t38 =>
  ld1K t38 (fun t39 w9 =>
  eqK .u8 t39 (.int .u8 1) fun t40 =>
  condK t40
  (faK 2 t6 fun t41 =>
  ld1K t41 (fun t42 w10 =>
  lenK t42 fun t43 =>
  LoopK [(.int .i64 0)] (fun vs_1 again w11 => ∀ _h_1 : Env,
  ltK .i64 (nth vs_1 0) t43 fun t45 =>
  condK t45
  (ixK 1 t42 (nth vs_1 0) fun t46 =>
  ld1K t46 (fun t47 w12 =>
  faK 3 t6 fun t50 =>
  ld1K t50 (fun t51 w13 =>
  buildK [(0, 1), (1, 1)] [(.int .i32 0), (.slice none 0 0)] [(0, t47), (1, t51)] fun t52 =>
  faK 4 t7 fun t53 =>
  ld1K t53 (fun t54 w14 =>
  callK Tryz.prog 186 [v0, t52, t54] (fun t55 w15 =>
  newK 152 [(.int .i32 0), (.slice none 0 0)] (fun t10 w16 =>
  stnK 2 t10 t55 (fun w17 =>
  faK 0 t10 fun t57 =>
  ld1K t57 (fun t58 w18 =>
  rowK 21 1 1 [(.int .i32 0)] [(0, t58)] (fun t59 w19 =>
  faK 1 t10 fun t60 =>
  ld1K t60 (fun t61 w20 =>
  callK Tryz.prog 77 [v1, t59, t61] (fun _t62 w21 =>
  addK .i64 (nth vs_1 0) (.int .i64 1) fun t63 =>
  again [t63] w21) w20) w19) w18) w17) w16) w15) w14) w13) w12) w11)
  (K (.tuple #[]) w11)) w10) w9)
  (K (.tuple #[]) w9)) w6)) w3)) (fun J =>
  faK 0 t6 fun t12 =>
  ld1K t12 (fun t13 w22 =>
  eqK .u8 t13 (.int .u8 1) fun t14 =>
  condK t14
  (faK 0 t7 fun t16 =>
  ld1K t16 (fun t17 w23 =>
  eqK .u8 t17 (.int .u8 1) fun t18 =>
  J [t18] w23) w22)
  (J [(.bool false)] w22)) w2)) w1) w
theorem S147_eq (v0 v1 v2 v3 : Value) (K : Cont) (w : World) : S147 v0 v1 v2 v3 K w = D Tryz.prog okf 64 (bodyOf Tryz.f147) (.node [] [] .nil (.cut [11] [(11, 19)] .nil (.node [] [] (.dc [7, 8] [[], [], [1], [], [3], [], [5], [3, 4, 5, 6], [0, 1, 2, 3, 4, 5, 6, 7]] []) (.node [] [] .nil (.node [] [] .nil (.node [] [] .nil (.node [] [] (.node [] [] .nil (.node [44] [(9, 10), (44, 63)] (.node [] [] .nil (.node [] [] (.node [] [] .nil .nil) (.node [] [] (.node [] [] .nil (.node [] [] .nil .nil)) .nil))) .nil)) .nil))))))) (retK Tryz.prog [] K) (nth [v0, v1, v2, v3]) w := by kernel_rfl
theorem S147_ok {v0 v1 v2 v3 : Value} {K : Cont} {w : World} (h : S147 v0 v1 v2 v3 K w) : callK Tryz.prog 147 [v0, v1, v2, v3] K w :=
  callK_of (P := Tryz.prog) (ok := okf) (n := 64) (fn := Tryz.f147) (c := bodyOf Tryz.f147) (rs := []) (an := (.node [] [] .nil (.cut [11] [(11, 19)] .nil (.node [] [] (.dc [7, 8] [[], [], [1], [], [3], [], [5], [3, 4, 5, 6], [0, 1, 2, 3, 4, 5, 6, 7]] []) (.node [] [] .nil (.node [] [] .nil (.node [] [] .nil (.node [] [] (.node [] [] .nil (.node [44] [(9, 10), (44, 63)] (.node [] [] .nil (.node [] [] (.node [] [] .nil .nil) (.node [] [] (.node [] [] .nil (.node [] [] .nil .nil)) .nil))) .nil)) .nil)))))))) good mixed Tryz.func147 (by kernel_rfl) (by kernel_rfl) (by kernel_rfl) (by kernel_rfl) (Eq.mp (S147_eq v0 v1 v2 v3 K w) h)

/-- rubric/compose.Compose -/
def S87 (v0 v1 v2 : Value) (K : Cont) (w : World) : Prop :=
  callK Tryz.prog 141 [v0, v1, v2] (fun t17 w1 =>
  neK .i64 t17 (.int .i64 0) fun t19 =>
  condK t19
  (K (.tuple #[(.slice none 0 0), t17]) w1)
  (callK Tryz.prog 75 [] (fun t21 w2 =>
  buildK [(0, 1), (1, 1)] [(.slice none 0 0), (.int .i64 0)] [(0, v1)] fun t23 =>
  boxnK 196 t23 (fun t24 w3 =>
  buildK [(0, 1), (1, 1)] [(.slice none 0 0), (.int .i64 0)] [(0, v2)] fun t26 =>
  boxnK 196 t26 (fun t27 w4 =>
  LoopK [] (fun _vs again w5 => ∀ _h : Env,
  callK Tryz.prog 142 [t27] (fun t29 w6 =>
  notK t29 fun t30 =>
  condK t30
  (callK Tryz.prog 143 [t27] (fun t33 w7 =>
  eqK .u8 t33 (.int .u8 2) fun t34 =>
  condK t34
  (callK Tryz.prog 145 [t27, (.int .i64 536870912)] (fun t37 w8 =>
  callK Tryz.prog 144 [t21, t37] (fun _t38 w9 =>
  again [] w9) w8) w7)
  (callK Tryz.prog 143 [t24] (fun t41 w10 =>
  eqK .u8 t41 (.int .u8 3) fun t42 =>
  condK t42
  (callK Tryz.prog 145 [t24, (.int .i64 536870912)] (fun t45 w11 =>
  callK Tryz.prog 144 [t21, t45] (fun _t46 w12 =>
  again [] w12) w11) w10)
  (callK Tryz.prog 146 [t24] (fun t48 w13 =>
  callK Tryz.prog 146 [t27] (fun t50 w14 =>
  minK .i64 t48 t50 fun t51 =>
  callK Tryz.prog 145 [t24, t51] (fun t56 w15 =>
  callK Tryz.prog 145 [t27, t51] (fun t59 w16 =>
  callK Tryz.prog 147 [v0, t21, t56, t59] (fun _t60 w17 =>
  again [] w17) w16) w15) w14) w13) w10)) w7)) w6)
  (LoopK [] (fun _vs_1 again_1 w18 => ∀ _h_1 : Env,
  callK Tryz.prog 142 [t24] (fun t62 w19 =>
  notK t62 fun t63 =>
  condK t63
  (callK Tryz.prog 145 [t24, (.int .i64 536870912)] (fun t66 w20 =>
  callK Tryz.prog 144 [t21, t66] (fun _t67 w21 =>
  again_1 [] w21) w20) w19)
  (callK Tryz.prog 79 [t21] (fun t69 w22 =>
  callK Tryz.prog 94 [t69] (fun t71 w23 =>
  gtK .i64 t71 (.int .i64 536870912) fun t72 =>
  condK t72
  (K (.tuple #[(.slice none 0 0), (.int .i64 3)]) w23)
  (callK Tryz.prog 95 [t69] (fun t75 w24 =>
  gtK .i64 t75 (.int .i64 536870912) fun t76 =>
  condK t76
  (K (.tuple #[(.slice none 0 0), (.int .i64 3)]) w24)
  (K (.tuple #[t69, (.int .i64 0)]) w24)) w23)) w22) w19)) w18) w6)) w5) w4) w3) w2) w1)) w
theorem S87_eq (v0 v1 v2 : Value) (K : Cont) (w : World) : S87 v0 v1 v2 K w = D Tryz.prog okf 79 (bodyOf Tryz.f87) (.node [] [] .nil (.node [] [] (.node [] [] .nil (.node [] [] .nil (.node [] [] (.node [] [] .nil .nil) .nil))) (.node [] [] .nil (.node [] [] .nil (.node [] [] .nil (.node [] [] (.node [] [(12, 12), (28, 60)] (.node [] [] (.node [] [] .nil (.node [] [] .nil .nil)) (.node [] [] (.node [] [] .nil (.node [] [] (.node [] [] .nil .nil) (.node [] [] .nil (.node [] [] (.node [] [] .nil .nil) .nil)))) (.node [] [] .nil .nil))) .nil) (.node [] [] (.node [] [(61, 67)] (.node [] [] (.node [] [] .nil (.node [] [] .nil .nil)) .nil) .nil) (.node [] [] .nil (.node [] [] (.node [] [] .nil (.node [] [] (.node [] [] .nil .nil) .nil)) (.node [] [] .nil .nil)))))))))) (retK Tryz.prog [.tmp 6, .tmp 7] K) (nth [v0, v1, v2]) w := by kernel_rfl
theorem S87_ok {v0 v1 v2 : Value} {K : Cont} {w : World} (h : S87 v0 v1 v2 K w) : callK Tryz.prog 87 [v0, v1, v2] K w :=
  callK_of (P := Tryz.prog) (ok := okf) (n := 79) (fn := Tryz.f87) (c := bodyOf Tryz.f87) (rs := [.tmp 6, .tmp 7]) (an := (.node [] [] .nil (.node [] [] (.node [] [] .nil (.node [] [] .nil (.node [] [] (.node [] [] .nil .nil) .nil))) (.node [] [] .nil (.node [] [] .nil (.node [] [] .nil (.node [] [] (.node [] [(12, 12), (28, 60)] (.node [] [] (.node [] [] .nil (.node [] [] .nil .nil)) (.node [] [] (.node [] [] .nil (.node [] [] (.node [] [] .nil .nil) (.node [] [] .nil (.node [] [] (.node [] [] .nil .nil) .nil)))) (.node [] [] .nil .nil))) .nil) (.node [] [] (.node [] [(61, 67)] (.node [] [] (.node [] [] .nil (.node [] [] .nil .nil)) .nil) .nil) (.node [] [] .nil (.node [] [] (.node [] [] .nil (.node [] [] (.node [] [] .nil .nil) .nil)) (.node [] [] .nil .nil))))))))))) good mixed Tryz.func87 (by kernel_rfl) (by kernel_rfl) (by kernel_rfl) (by kernel_rfl) (Eq.mp (S87_eq v0 v1 v2 K w) h)

/-- (*rubric/compose.reader).over -/
def S142 (v0 : Value) (K : Cont) (w : World) : Prop :=
  nilckK v0 fun t4 =>
  faK 0 t4 fun t5 =>
  ld1K t5 (fun t6 w1 =>
  lenK t6 fun t7 =>
  eqK .i64 t7 (.int .i64 0) fun t8 =>
  K t8 w1) w
theorem S142_eq (v0 : Value) (K : Cont) (w : World) : S142 v0 K w = D Tryz.prog okf 9 (bodyOf Tryz.f142) (.node [] [] .nil (.node [] [] .nil .nil)) (retK Tryz.prog [.tmp 2] K) (nth [v0]) w := by kernel_rfl
theorem S142_ok {v0 : Value} {K : Cont} {w : World} (h : S142 v0 K w) : callK Tryz.prog 142 [v0] K w :=
  callK_of (P := Tryz.prog) (ok := okf) (n := 9) (fn := Tryz.f142) (c := bodyOf Tryz.f142) (rs := [.tmp 2]) (an := (.node [] [] .nil (.node [] [] .nil .nil))) good mixed Tryz.func142 (by kernel_rfl) (by kernel_rfl) (by kernel_rfl) (by kernel_rfl) (Eq.mp (S142_eq v0 K w) h)

/-- (*rubric/compose.reader).kind -/
def S143 (v0 : Value) (K : Cont) (w : World) : Prop :=
  callK Tryz.prog 142 [v0] (fun t4 w1 =>
  condK t4
  (K (.int .u8 1) w1)
  (nilckK v0 fun t6 =>
  faK 0 t6 fun t7 =>
  ld1K t7 (fun t8 w2 =>
  ixK 5 t8 (.int .i64 0) fun t9 =>
  faK 0 t9 fun t10 =>
  ld1K t10 (fun t11 w3 =>
  K t11 w3) w2) w1)) w
theorem S143_eq (v0 : Value) (K : Cont) (w : World) : S143 v0 K w = D Tryz.prog okf 12 (bodyOf Tryz.f143) (.node [] [] .nil (.node [] [] (.node [] [] .nil (.node [] [] (.node [] [] .nil .nil) .nil)) (.node [] [] .nil .nil))) (retK Tryz.prog [.tmp 2] K) (nth [v0]) w := by kernel_rfl
theorem S143_ok {v0 : Value} {K : Cont} {w : World} (h : S143 v0 K w) : callK Tryz.prog 143 [v0] K w :=
  callK_of (P := Tryz.prog) (ok := okf) (n := 12) (fn := Tryz.f143) (c := bodyOf Tryz.f143) (rs := [.tmp 2]) (an := (.node [] [] .nil (.node [] [] (.node [] [] .nil (.node [] [] (.node [] [] .nil .nil) .nil)) (.node [] [] .nil .nil)))) good mixed Tryz.func143 (by kernel_rfl) (by kernel_rfl) (by kernel_rfl) (by kernel_rfl) (Eq.mp (S143_eq v0 K w) h)

/-- (*rubric/compose.reader).take -/
def S145 (v0 v1 : Value) (K : Cont) (w : World) : Prop :=
  newK 39 [(.int .u8 0), (.int .i64 0), (.slice none 0 0), (.slice none 0 0), (.slice none 0 0)] (fun t4 w1 =>
  callK Tryz.prog 142 [v0] (fun t7 w2 =>
  condK t7
  (buildK [(0, 1), (1, 1), (2, 1), (3, 1), (4, 1)] [(.int .u8 0), (.int .i64 0), (.slice none 0 0), (.slice none 0 0), (.slice none 0 0)] [(0, (.int .u8 1)), (1, v1)] fun t9 =>
  stnK 5 t4 t9 (fun w3 =>
  ldnK 5 t4 (fun r0 w4 =>
  K r0 w4) w3) w2)
  (nilckK v0 fun t11 =>
  faK 0 t11 fun t12 =>
  ld1K t12 (fun t13 w5 =>
  ixK 5 t13 (.int .i64 0) fun t14 =>
  ldnK 5 t14 (fun t15 w6 =>
  newK 39 [(.int .u8 0), (.int .i64 0), (.slice none 0 0), (.slice none 0 0), (.slice none 0 0)] (fun t5 w7 =>
  stnK 5 t5 t15 (fun w8 =>
  callK Tryz.prog 184 [v0] (fun t18 w9 =>
  minK .i64 v1 t18 fun t19 =>
  JoinK (fun _vs w10 => ∀ _h : Env,
  nilckK v0 fun t40 =>
  faK 1 t40 fun t41 =>
  ld1K t41 (fun t42 w11 =>
  addK .i64 t42 t19 fun t44 =>
  nilckK v0 fun t45 =>
  faK 1 t45 fun t46 =>
  st1K t46 t44 (fun w12 =>
  callK Tryz.prog 184 [v0] (fun t48 w13 =>
  eqK .i64 t48 (.int .i64 0) fun t49 =>
  condK t49
  (nilckK v0 fun t53 =>
  faK 0 t53 fun t54 =>
  ld1K t54 (fun t55 w14 =>
  runK Tryz.prog (Instr.sliceAt 31 t55 (some (.int .i64 1)) none none) (fun t56 w15 =>
  nilckK v0 fun t57 =>
  faK 0 t57 fun t58 =>
  st1K t58 t56 (fun w16 =>
  nilckK v0 fun t59 =>
  faK 1 t59 fun t60 =>
  st1K t60 (.int .i64 0) (fun w17 =>
  ldnK 5 t5 (fun t61 w18 =>
  stnK 5 t4 t61 (fun w19 =>
  ldnK 5 t4 (fun r0_1 w20 =>
  K r0_1 w20) w19) w18) w17) w16) w15) w14) w13)
  (ldnK 5 t5 (fun t61_1 w21 =>
  stnK 5 t4 t61_1 (fun w22 =>
  ldnK 5 t4 (fun r0_2 w23 =>
  K r0_2 w23) w22) w21) w13)) w12) w11) w10) (fun J =>
  faK 0 t5 fun t20 =>
  ld1K t20 (fun t21 w24 =>
  eqK .u8 t21 (.int .u8 2) fun t22 =>
  condK t22
  (DrawC [12, 14] [[], [0], [], [2], [2, 3], [2, 3, 4], [], [6], [6, 7], [6, 7, 8], [], [6, 7, 8, 9, 10], [0, 1, 2, 3, 4, 5, 6, 7, 8, 9, 10, 11], [0, 1, 2, 3, 4, 5, 6, 7, 8, 9, 10, 11, 12], [0, 1, 2, 3, 4, 5, 6, 7, 8, 9, 10, 11, 12, 13]] w24.drew (fun M St =>
  faK 2 t5 fun t23 =>
  sld1 (St 1) t23 fun t24 =>
  nilckK v0 fun t26 =>
  faK 1 t26 fun t27 =>
  sld1 (St 5) t27 fun t28 =>
  nilckK v0 fun t30 =>
  faK 1 t30 fun t31 =>
  sld1 (St 9) t31 fun t32 =>
  addK .i64 t32 t19 fun t34 =>
  runK Tryz.prog (Instr.sliceAt 35 t24 (some t28) (some t34) none) (fun t35 w25 =>
  Mod (M 12) w24.drew w25 ∧
  faK 2 t5 fun t36 =>
  st1K t36 t35 (fun w26 =>
  Mod (M 14) w25 w26 ∧
  J [] w26) w25) w24.drew))
  (faK 1 t5 fun t38 =>
  st1K t38 t19 (fun w27 =>
  J [] w27) w24)) w9)) w8) w7) w6) w5) w2)) w1) w
theorem S145_eq (v0 v1 : Value) (K : Cont) (w : World) : S145 v0 v1 K w = D Tryz.prog okf 62 (bodyOf Tryz.f145) (.node [] [] .nil (.node [] [] (.node [] [] .nil (.node [] [] (.node [] [] .nil .nil) .nil)) (.node [] [] .nil (.node [] [] .nil (.cut [] [(20, 38)] (.node [] [] .nil (.node [] [] (.dc [12, 14] [[], [0], [], [2], [2, 3], [2, 3, 4], [], [6], [6, 7], [6, 7, 8], [], [6, 7, 8, 9, 10], [0, 1, 2, 3, 4, 5, 6, 7, 8, 9, 10, 11], [0, 1, 2, 3, 4, 5, 6, 7, 8, 9, 10, 11, 12], [0, 1, 2, 3, 4, 5, 6, 7, 8, 9, 10, 11, 12, 13]] [[12]]) .nil)) (.node [] [] .nil (.node [] [] (.node [] [] .nil (.node [] [] .nil .nil)) (.node [] [] .nil .nil)))))))) (retK Tryz.prog [.cell 4 39] K) (nth [v0, v1]) w := by kernel_rfl
theorem S145_ok {v0 v1 : Value} {K : Cont} {w : World} (h : S145 v0 v1 K w) : callK Tryz.prog 145 [v0, v1] K w :=
  callK_of (P := Tryz.prog) (ok := okf) (n := 62) (fn := Tryz.f145) (c := bodyOf Tryz.f145) (rs := [.cell 4 39]) (an := (.node [] [] .nil (.node [] [] (.node [] [] .nil (.node [] [] (.node [] [] .nil .nil) .nil)) (.node [] [] .nil (.node [] [] .nil (.cut [] [(20, 38)] (.node [] [] .nil (.node [] [] (.dc [12, 14] [[], [0], [], [2], [2, 3], [2, 3, 4], [], [6], [6, 7], [6, 7, 8], [], [6, 7, 8, 9, 10], [0, 1, 2, 3, 4, 5, 6, 7, 8, 9, 10, 11], [0, 1, 2, 3, 4, 5, 6, 7, 8, 9, 10, 11, 12], [0, 1, 2, 3, 4, 5, 6, 7, 8, 9, 10, 11, 12, 13]] [[12]]) .nil)) (.node [] [] .nil (.node [] [] (.node [] [] .nil (.node [] [] .nil .nil)) (.node [] [] .nil .nil))))))))) good mixed Tryz.func145 (by kernel_rfl) (by kernel_rfl) (by kernel_rfl) (by kernel_rfl) (Eq.mp (S145_eq v0 v1 K w) h)

/-- (*rubric/compose.reader).long -/
def S146 (v0 : Value) (K : Cont) (w : World) : Prop :=
  callK Tryz.prog 142 [v0] (fun t4 w1 =>
  condK t4
  (K (.int .i64 536870912) w1)
  (callK Tryz.prog 184 [v0] (fun t6 w2 =>
  K t6 w2) w1)) w
theorem S146_eq (v0 : Value) (K : Cont) (w : World) : S146 v0 K w = D Tryz.prog okf 7 (bodyOf Tryz.f146) (.node [] [] .nil (.node [] [] (.node [] [] .nil (.node [] [] (.node [] [] .nil .nil) .nil)) (.node [] [] .nil .nil))) (retK Tryz.prog [.tmp 2] K) (nth [v0]) w := by kernel_rfl
theorem S146_ok {v0 : Value} {K : Cont} {w : World} (h : S146 v0 K w) : callK Tryz.prog 146 [v0] K w :=
  callK_of (P := Tryz.prog) (ok := okf) (n := 7) (fn := Tryz.f146) (c := bodyOf Tryz.f146) (rs := [.tmp 2]) (an := (.node [] [] .nil (.node [] [] (.node [] [] .nil (.node [] [] (.node [] [] .nil .nil) .nil)) (.node [] [] .nil .nil)))) good mixed Tryz.func146 (by kernel_rfl) (by kernel_rfl) (by kernel_rfl) (by kernel_rfl) (Eq.mp (S146_eq v0 K w) h)

/-- (*rubric/compose.reader).left -/
def S184 (v0 : Value) (K : Cont) (w : World) : Prop :=
  nilckK v0 fun t4 =>
  faK 0 t4 fun t5 =>
  ld1K t5 (fun t6 w1 =>
  ixK 5 t6 (.int .i64 0) fun t7 =>
  faK 0 t7 fun t8 =>
  ld1K t8 (fun t9 w2 =>
  eqK .u8 t9 (.int .u8 2) fun t10 =>
  condK t10
  (DrawK w2 (fun C =>
  nilckK v0 fun t12 =>
  faK 0 t12 fun t13 =>
  qld1K C t13 fun t14 =>
  ixK 5 t14 (.int .i64 0) fun t15 =>
  faK 2 t15 fun t16 =>
  qld1K C t16 fun t17 =>
  lenK t17 fun t18 =>
  nilckK v0 fun t20 =>
  faK 1 t20 fun t21 =>
  qld1K C t21 fun t22 =>
  subK .i64 t18 t22 fun t23 =>
  ∀ w3 : World, C w3 →
  K t23 w3))
  (DrawK w2 (fun C_1 =>
  nilckK v0 fun t25 =>
  faK 0 t25 fun t26 =>
  qld1K C_1 t26 fun t27 =>
  ixK 5 t27 (.int .i64 0) fun t28 =>
  faK 1 t28 fun t29 =>
  qld1K C_1 t29 fun t30 =>
  nilckK v0 fun t32 =>
  faK 1 t32 fun t33 =>
  qld1K C_1 t33 fun t34 =>
  subK .i64 t30 t34 fun t35 =>
  ∀ w4 : World, C_1 w4 →
  K t35 w4))) w1) w
theorem S184_eq (v0 : Value) (K : Cont) (w : World) : S184 v0 K w = D Tryz.prog okf 36 (bodyOf Tryz.f184) (.node [] [] .nil (.node [] [] (.node [] [] .nil (.node [] [] (.node [] [] .draw .nil) .nil)) (.node [] [] .draw .nil))) (retK Tryz.prog [.tmp 2] K) (nth [v0]) w := by kernel_rfl
theorem S184_ok {v0 : Value} {K : Cont} {w : World} (h : S184 v0 K w) : callK Tryz.prog 184 [v0] K w :=
  callK_of (P := Tryz.prog) (ok := okf) (n := 36) (fn := Tryz.f184) (c := bodyOf Tryz.f184) (rs := [.tmp 2]) (an := (.node [] [] .nil (.node [] [] (.node [] [] .nil (.node [] [] (.node [] [] .draw .nil) .nil)) (.node [] [] .draw .nil)))) good mixed Tryz.func184 (by kernel_rfl) (by kernel_rfl) (by kernel_rfl) (by kernel_rfl) (Eq.mp (S184_eq v0 K w) h)

/-- rubric/rubriclaw27.HistoryBrackets -/
def S7 (v0 v1 v2 : Value) (K : Cont) (w : World) : Prop :=
  JoinK (fun _vs w1 => ∀ _h : Env,
  callK Tryz.prog 14 [(.slice none 0 0)] (fun t52 w2 =>
  extK 0 t52 fun t53 =>
  extK 1 t52 fun t54 =>
  callK Tryz.prog 15 [t53, v0] (fun t58 w3 =>
  extK 0 t58 fun t59 =>
  extK 1 t58 fun t60 =>
  newK 27 [(.pointer none)] (fun t9 w4 =>
  st1K t9 t59 (fun w5 =>
  JoinK (fun _vs_1 w6 => ∀ _h_1 : Env,
  LoopK [(.int .i64 0)] (fun vs_2 again w7 => ∀ _h_2 : Env,
  ltK .i64 (nth vs_2 0) v1 fun t74 =>
  condK t74
  (callyK Tryz.prog okf (.func (.func 35) #[] #[t9]) [] (fun t76 w8 =>
  notK t76 fun t77 =>
  condK t77
  (K (.bool false) w8)
  (addK .i64 (nth vs_2 0) (.int .i64 1) fun t78 =>
  again [t78] w8)) w7)
  (JoinK (fun vs_3 w9 => ∀ _h_3 : Env,
  ld1K t9 (fun t87 w10 =>
  callK Tryz.prog 20 [t87] (fun t88 w11 =>
  extK 0 t88 fun t89 =>
  extK 1 t88 fun t90 =>
  JoinK (fun _vs_4 w12 => ∀ _h_4 : Env,
  LoopK [(.int .i64 0)] (fun vs_5 again_1 w13 => ∀ _h_5 : Env,
  ltK .i64 (nth vs_5 0) v2 fun t110 =>
  condK t110
  (callyK Tryz.prog okf (.func (.func 35) #[] #[t9]) [] (fun t112 w14 =>
  notK t112 fun t113 =>
  condK t113
  (K (.bool false) w14)
  (addK .i64 (nth vs_5 0) (.int .i64 1) fun t114 =>
  again_1 [t114] w14)) w13)
  (ld1K t9 (fun t116 w15 =>
  callK Tryz.prog 19 [t116] (fun t117 w16 =>
  extK 0 t117 fun _t118 =>
  extK 1 t117 fun t119 =>
  ld1K t9 (fun t121 w17 =>
  callK Tryz.prog 21 [t121] (fun t122 w18 =>
  extK 0 t122 fun _t123 =>
  extK 1 t122 fun t124 =>
  JoinK (fun _vs_6 w19 => ∀ _h_6 : Env,
  ld1K t9 (fun t142 w20 =>
  callK Tryz.prog 20 [t142] (fun t143 w21 =>
  extK 0 t143 fun t144 =>
  extK 1 t143 fun t145 =>
  eqK .i64 v2 (.int .i64 0) fun t147 =>
  condK t147
  (eqK .i64 t144 t89 fun t150 =>
  condK t150
  (eqK .i64 t145 t90 fun t154 =>
  condK t154
  (callK Tryz.prog 16 [] (fun t157 w22 =>
  K t157 w22) w21)
  (K (.bool false) w21))
  (K (.bool false) w21))
  (JoinK (fun _vs_7 w23 => ∀ _h_7 : Env,
  ld1K t9 (fun t170 w24 =>
  callK Tryz.prog 19 [t170] (fun t171 w25 =>
  extK 0 t171 fun t172 =>
  extK 1 t171 fun t173 =>
  lenK t172 fun t175 =>
  LoopK [(.int .i64 0), (.int .i64 0)] (fun vs_8 again_2 w26 => ∀ _h_8 : Env,
  ltK .i64 (nth vs_8 1) t175 fun t177 =>
  condK t177
  (ixK 5 t172 (nth vs_8 1) fun t178 =>
  ldnK 5 t178 (fun t179 w27 =>
  newK 39 [(.int .u8 0), (.int .i64 0), (.slice none 0 0), (.slice none 0 0), (.slice none 0 0)] (fun t27 w28 =>
  stnK 5 t27 t179 (fun w29 =>
  faK 1 t27 fun t181 =>
  ld1K t181 (fun t182 w30 =>
  addK .i64 (nth vs_8 0) t182 fun t183 =>
  addK .i64 (nth vs_8 1) (.int .i64 1) fun t184 =>
  again_2 [t183, t184] w30) w29) w28) w27) w26)
  (eqK .i64 t173 (.int .i64 0) fun t186 =>
  condK t186
  (eqK .i64 (nth vs_8 0) v2 fun t190 =>
  condK t190
  (callK Tryz.prog 16 [] (fun t193 w31 =>
  K t193 w31) w26)
  (K (.bool false) w26))
  (K (.bool false) w26))) w25) w24) w23) (fun J_5 =>
  addK .i64 t89 (.int .i64 1) fun t161 =>
  minK .i64 t161 v0 fun t163 =>
  neK .i64 t144 t163 fun t164 =>
  condK t164
  (K (.bool false) w21)
  (neK .i64 t145 (.int .i64 0) fun t167 =>
  condK t167
  (K (.bool false) w21)
  (J_5 [] w21))))) w20) w19) (fun J_4 =>
  neK .i64 t119 (.int .i64 9) fun t126 =>
  condK t126
  (K (.bool false) w18)
  (neK .i64 t124 (.int .i64 9) fun t129 =>
  condK t129
  (K (.bool false) w18)
  (ld1K t9 (fun t132 w32 =>
  callK Tryz.prog 29 [t132] (fun t133 w33 =>
  neK .i64 t133 (.int .i64 0) fun t134 =>
  condK t134
  (K (.bool false) w33)
  (ld1K t9 (fun t137 w34 =>
  callK Tryz.prog 29 [t137] (fun t138 w35 =>
  neK .i64 t138 (.int .i64 9) fun t139 =>
  condK t139
  (K (.bool false) w35)
  (J_4 [] w35)) w34) w33)) w32) w18)))) w17) w16) w15) w13)) w12) (fun J_3 =>
  neK .i64 t90 (nth vs_3 0) fun t93 =>
  condK t93
  (K (.bool false) w11)
  (minK .i64 v1 v0 fun t98 =>
  subK .i64 t98 (nth vs_3 0) fun t100 =>
  neK .i64 t89 t100 fun t101 =>
  condK t101
  (K (.bool false) w11)
  (ld1K t9 (fun t104 w36 =>
  callK Tryz.prog 27 [t104] (fun t105 w37 =>
  neK .i64 t105 (.int .i64 0) fun t106 =>
  condK t106
  (K (.bool false) w37)
  (J_3 [] w37)) w36) w11)))) w10) w9) (fun J_2 =>
  ld1K t9 (fun t80 w38 =>
  callK Tryz.prog 19 [t80] (fun t81 w39 =>
  extK 0 t81 fun _t82 =>
  extK 1 t81 fun t83 =>
  eqK .i64 t83 (.int .i64 0) fun t85 =>
  condK t85
  (J_2 [(.int .i64 1)] w39)
  (J_2 [(.int .i64 0)] w39)) w38) w7))) w6) (fun J_1 =>
  neK .i64 t54 (.int .i64 0) fun t62 =>
  condK t62
  (K (.bool false) w5)
  (neK .i64 t60 (.int .i64 0) fun t65 =>
  condK t65
  (K (.bool false) w5)
  (ld1K t9 (fun t68 w40 =>
  pnilK t68 fun b69 =>
  condK (.bool b69)
  (K (.bool false) w40)
  (J_1 [] w40)) w5)))) w4) w3) w2) w1) (fun J =>
  ltK .i64 v0 (.int .i64 1) fun t29 =>
  condK t29
  (callK Tryz.prog 16 [] (fun t50 w41 =>
  K t50 w41) w)
  (gtK .i64 v0 (.int .i64 100) fun t32 =>
  condK t32
  (callK Tryz.prog 16 [] (fun t50_1 w42 =>
  K t50_1 w42) w)
  (ltK .i64 v1 (.int .i64 0) fun t36 =>
  condK t36
  (callK Tryz.prog 16 [] (fun t50_2 w43 =>
  K t50_2 w43) w)
  (gtK .i64 v1 (.int .i64 9) fun t40 =>
  condK t40
  (callK Tryz.prog 16 [] (fun t50_3 w44 =>
  K t50_3 w44) w)
  (ltK .i64 v2 (.int .i64 0) fun t44 =>
  condK t44
  (callK Tryz.prog 16 [] (fun t50_4 w45 =>
  K t50_4 w45) w)
  (gtK .i64 v2 (.int .i64 9) fun t48 =>
  condK t48
  (callK Tryz.prog 16 [] (fun t50_5 w46 =>
  K t50_5 w46) w)
  (J [] w)))))))
theorem S7_eq (v0 v1 v2 : Value) (K : Cont) (w : World) : S7 v0 v1 v2 K w = D Tryz.prog okf 195 (bodyOf Tryz.f7) (.node [] [] .nil (.cut [] [(6, 6), (28, 50)] (.node [] [] .nil (.node [] [] (.node [] [] .nil .nil) .nil)) (.node [] [] .nil (.node [] [] .nil (.cut [] [(6, 6), (61, 70)] (.node [] [] .nil (.node [] [] (.node [] [] .nil .nil) .nil)) (.node [] [] .nil (.node [] [] (.node [] [] .nil (.node [73] [(6, 6), (73, 78)] (.node [] [] .nil (.node [] [] (.node [] [] .nil .nil) (.node [] [] (.node [] [] .nil (.node [] [] (.node [] [] .nil .nil) .nil)) .nil))) .nil)) (.node [] [] .nil (.cut [12] [(12, 14), (79, 85)] (.node [] [] .nil (.node [] [] .nil (.node [] [] .nil .nil))) (.node [] [] .nil (.cut [] [(6, 6), (91, 107)] (.node [] [] .nil (.node [] [] (.node [] [] .nil .nil) .nil)) (.node [] [] (.node [] [] .nil (.node [109] [(6, 6), (109, 114)] (.node [] [] .nil (.node [] [] (.node [] [] .nil .nil) (.node [] [] (.node [] [] .nil (.node [] [] (.node [] [] .nil .nil) .nil)) .nil))) .nil)) (.node [] [] .nil (.node [] [] .nil (.cut [] [(6, 6), (125, 140)] (.node [] [] .nil (.node [] [] (.node [] [] .nil .nil) .nil)) (.node [] [] .nil (.node [] [] (.node [] [] .nil (.node [] [] (.node [] [] .nil .nil) .nil)) (.cut [] [(6, 6), (159, 168)] (.node [] [] .nil (.node [] [] (.node [] [] .nil .nil) .nil)) (.node [] [] .nil (.node [] [] .nil (.node [] [] (.node [] [] .nil (.node [25, 176] [(25, 25), (27, 27), (176, 184)] (.node [] [] .nil (.node [] [] (.node [] [] .nil .nil) (.node [] [] (.node [] [] .nil .nil) .nil))) .nil)) (.node [] [] .nil .nil)))))))))))))))))))))) (retK Tryz.prog [.tmp 6] K) (nth [v0, v1, v2]) w := by kernel_rfl
theorem S7_ok {v0 v1 v2 : Value} {K : Cont} {w : World} (h : S7 v0 v1 v2 K w) : callK Tryz.prog 7 [v0, v1, v2] K w :=
  callK_of (P := Tryz.prog) (ok := okf) (n := 195) (fn := Tryz.f7) (c := bodyOf Tryz.f7) (rs := [.tmp 6]) (an := (.node [] [] .nil (.cut [] [(6, 6), (28, 50)] (.node [] [] .nil (.node [] [] (.node [] [] .nil .nil) .nil)) (.node [] [] .nil (.node [] [] .nil (.cut [] [(6, 6), (61, 70)] (.node [] [] .nil (.node [] [] (.node [] [] .nil .nil) .nil)) (.node [] [] .nil (.node [] [] (.node [] [] .nil (.node [73] [(6, 6), (73, 78)] (.node [] [] .nil (.node [] [] (.node [] [] .nil .nil) (.node [] [] (.node [] [] .nil (.node [] [] (.node [] [] .nil .nil) .nil)) .nil))) .nil)) (.node [] [] .nil (.cut [12] [(12, 14), (79, 85)] (.node [] [] .nil (.node [] [] .nil (.node [] [] .nil .nil))) (.node [] [] .nil (.cut [] [(6, 6), (91, 107)] (.node [] [] .nil (.node [] [] (.node [] [] .nil .nil) .nil)) (.node [] [] (.node [] [] .nil (.node [109] [(6, 6), (109, 114)] (.node [] [] .nil (.node [] [] (.node [] [] .nil .nil) (.node [] [] (.node [] [] .nil (.node [] [] (.node [] [] .nil .nil) .nil)) .nil))) .nil)) (.node [] [] .nil (.node [] [] .nil (.cut [] [(6, 6), (125, 140)] (.node [] [] .nil (.node [] [] (.node [] [] .nil .nil) .nil)) (.node [] [] .nil (.node [] [] (.node [] [] .nil (.node [] [] (.node [] [] .nil .nil) .nil)) (.cut [] [(6, 6), (159, 168)] (.node [] [] .nil (.node [] [] (.node [] [] .nil .nil) .nil)) (.node [] [] .nil (.node [] [] .nil (.node [] [] (.node [] [] .nil (.node [25, 176] [(25, 25), (27, 27), (176, 184)] (.node [] [] .nil (.node [] [] (.node [] [] .nil .nil) (.node [] [] (.node [] [] .nil .nil) .nil))) .nil)) (.node [] [] .nil .nil))))))))))))))))))))))) good mixed Tryz.func7 (by kernel_rfl) (by kernel_rfl) (by kernel_rfl) (by kernel_rfl) (Eq.mp (S7_eq v0 v1 v2 K w) h)

/-- rubric/rubriclaw27.HistoryBrackets$1 -/
def S35 (v0 : Value) (K : Cont) (w : World) : Prop :=
  callK Tryz.prog 17 [(.int .i32 120)] (fun t5 w1 =>
  extK 0 t5 fun t6 =>
  extK 1 t5 fun t7 =>
  ld1K v0 (fun t8 w2 =>
  callK Tryz.prog 18 [t8, t6, t7] (fun t11 w3 =>
  eqK .i64 t11 (.int .i64 0) fun t12 =>
  K t12 w3) w2) w1) w
theorem S35_eq (v0 : Value) (K : Cont) (w : World) : S35 v0 K w = D Tryz.prog okf 13 (bodyOf Tryz.f35) (.node [] [] .nil (.node [] [] .nil (.node [] [] .nil .nil))) (retK Tryz.prog [.tmp 1] K) (nth [v0]) w := by kernel_rfl
theorem S35_ok {v0 : Value} {K : Cont} {w : World} (h : S35 v0 K w) : callK Tryz.prog 35 [v0] K w :=
  callK_of (P := Tryz.prog) (ok := okf) (n := 13) (fn := Tryz.f35) (c := bodyOf Tryz.f35) (rs := [.tmp 1]) (an := (.node [] [] .nil (.node [] [] .nil (.node [] [] .nil .nil)))) good mixed Tryz.func35 (by kernel_rfl) (by kernel_rfl) (by kernel_rfl) (by kernel_rfl) (Eq.mp (S35_eq v0 K w) h)

end Go.Proofs.YtlbaopamhkmepaaGreatDoor
