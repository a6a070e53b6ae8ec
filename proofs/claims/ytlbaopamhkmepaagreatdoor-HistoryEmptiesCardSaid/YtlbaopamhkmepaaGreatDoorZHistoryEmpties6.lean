/- Contracts of the history: Push outside a bracket, Depths, Open, Begin, Undo, Redo. Conditions: the sizes. Contracts of the history: Undo, Redo; the history as the laws use it. Conditions: the sizes. What is known of the history; the law HistoryNone. Conditions: the sizes. What is known of the history; the law HistoryNone. No conditions. The law HistoryEmpties: it answers true, and leaves all memory as it was. No conditions. What is handed in, opened: sets, blocks, cells. No conditions. What is handed in, opened, with how much it holds: sets, patches, runes, ops, keys. No conditions. Plain laws of UTF-8: the document's reading, byte by byte, as the library tells a valid text. No conditions but that bytes are bytes. Plain laws: what is no number; eight bytes in one word. No conditions. By a program of ours: of each function below the predicate that its code comes to, and that it is sound. No conditions. Contracts: eight bytes as a word; whether bytes are UTF-8. Conditions: the two tables lie in memory as they are laid. Contract: whether bytes are UTF-8 (utf8.Valid): as the document reads. Conditions: the two tables lie in memory as they are laid. Plain laws: the text of a set in the table of interned sets; no two sets have the same. Conditions: the numbers lie in their types. -/
import Derived.Test.YtlbaopamhkmepaaGreatDoorZHistoryEmpties5
import Derived.ProofKit
import Derived.Lib.SmallJoins
import Derived.Deep.Slices
import Derived.Test.YtlbaopamhkmepaaGreatDoorRows
namespace Go.K
open Go
theorem SlR.takeN {α : Type} {S : Nat → Prop} {k : Nat} {R : World → List Value → α → Prop} {w : World} {a : Option Addr} {n c : Nat} {l : List α} (h : SlR S k R w (.slice a n c) l) {j : Nat} (hj : j ≤ l.length) : SlR S k R w (.slice a j c) (l.take j) := by
  obtain ⟨_, _, e, h1, h2, h3⟩ := h
  cases e
  refine ⟨_, _, by rw [List.length_take, Nat.min_eq_left hj], by rw [List.length_take]; omega, h2, fun i x hx => ?_⟩
  rw [List.getElem?_take] at hx
  split at hx
  · exact h3 i x hx
  · cases hx
theorem sliced_zero {p : Addr} {j c s : Nat} : sliced (some p) 0 j c s = .slice (some p) j c := by
  have e : p.add 0 = p := Addr.add_zero' p
  unfold sliced
  simp [e]
theorem concat_of_pos {α : Type} {l : List α} (h : 0 < l.length) : ∃ l' g, l = l' ++ [g] := by
  rcases List.eq_nil_or_concat l with rfl | ⟨l', g, e⟩
  · simp at h
  · exact ⟨l', g, by rw [e, List.concat_eq_append]⟩
end Go.K
namespace Go.Proofs.YtlbaopamhkmepaaGreatDoor
open Go Go.K
section
variable {F C M : Nat → Prop} {W W' : World} {b : Nat} {sv : Value} {ks : List DKey} {uv rv ov : Value} {mx : Nat} {us rs own : List Grp} {op : Bool} {h : Hist}
theorem depths_ok (hh : HistI F W b ks h) : callK Tryz.prog 20 [.pointer (some ⟨b, 0, none⟩)] (fun v' w' => v' = .tuple #[.int .i64 h.us.length, .int .i64 h.rs.length] ∧ Grow W w') W := by
  apply S20_ok
  unfold S20
  refine callK_mono (hready_ok hh) ?_
  rintro _ _ ⟨rfl, rfl⟩
  rename World => W
  obtain ⟨C, sv, uv, rv, ov, hR⟩ := hh
  rw [notK_i]
  refine condK_f (drawK_i (fun W' => Grow W W') (Mod.drew _ _) (nilckK_s ?_))
  rw [faK_i, addr0]
  refine qld1K_i (fun w2 g => g.cell (hR.cells 3 _ rfl) fun h => h) ?_
  obtain ⟨a, c, e, _⟩ := hR.und.shape (by decide)
  obtain ⟨a', c', e', _⟩ := hR.red.shape (by decide)
  rw [e, lenK_i]
  refine nilckK_s ?_
  rw [faK_i, addr0]
  refine qld1K_i (fun w2 g => g.cell (hR.cells 4 _ rfl) fun h => h) ?_
  rw [e', lenK_i]
  exact fun W' g => ⟨rfl, g⟩
theorem open_ok (hh : HistI F W b ks h) : callK Tryz.prog 33 [.pointer (some ⟨b, 0, none⟩)] (fun v' w' => v' = .bool h.op ∧ w' = W) W := by
  apply S33_ok
  unfold S33
  refine callK_mono (hready_ok hh) ?_
  rintro _ _ ⟨rfl, rfl⟩
  rename World => W
  obtain ⟨C, sv, uv, rv, ov, hR⟩ := hh
  refine condK_t (nilckK_s ?_)
  rw [faK_i, addr0]
  exact ld1K_i (hR.cells 5 _ rfl) ⟨rfl, rfl⟩
theorem begin_ok (hh : HistI F W b ks h) : callK Tryz.prog 27 [.pointer (some ⟨b, 0, none⟩)] (fun v' w' => (h.op = true ∧ v' = .int .i64 9 ∧ w' = W) ∨ (h.op = false ∧ v' = .int .i64 0 ∧ HAfter F W w' b ks { h with op := true, own := [] })) W := by
  apply S27_ok
  unfold S27
  refine callK_mono (hready_ok hh) ?_
  rintro _ _ ⟨rfl, rfl⟩
  rename World => W
  obtain ⟨C, sv, uv, rv, ov, hR⟩ := hh
  rw [notK_i]
  refine condK_f (nilckK_s ?_)
  rw [faK_i, addr0]
  refine ld1K_i (hR.cells 5 _ rfl) ?_
  cases ho : h.op with
  | true => exact condK_t (.inl ⟨rfl, rfl, rfl⟩)
  | false =>
    refine condK_f (nilckK_s ?_)
    rw [faK_i, addr0]
    refine hR.setOp fun W1 hR1 m1 => nilckK_s ?_
    rw [faK_i, addr0]
    refine hR1.setOwn SlR.nil fun W2 hR2 m2 => .inr ⟨rfl, rfl, F, fun _ h => .inl h, ⟨C, sv, uv, rv, _, hR2⟩, (m1.trans m2).mono fun x _ e => by rw [e]; exact hR.fb.1⟩
/-- Push, without a bracket -/
theorem push_ok {S D S' D' : Nat → Prop} {dv uu : Value} {x y : List Dop} (hh : HistI F W b ks h) (hop : h.op = false) (hl : h.us.length ≤ h.max) (hmx : h.max ≤ 65536) (hd : RDops S D W dv x) (hu : RDops S' D' W uu y) (bx : mDops x ≤ 1099511627776) (by' : mDops y ≤ 1099511627776) (hF : ∀ z, F z → z < W.heap.size) :
    callK Tryz.prog 18 [.pointer (some ⟨b, 0, none⟩), dv, uu] (fun v' w' => v' = .int .i64 0 ∧ HAfter F W w' b ks { h with us := keepL h.max h.us ⟨x, y⟩, rs := [] }) W := by
  apply S18_ok
  unfold S18
  refine callK_mono (hready_ok hh) ?_
  rintro _ _ ⟨rfl, rfl⟩
  rename World => W
  obtain ⟨C, sv, uv, rv, ov, hR⟩ := hh
  rw [notK_i]
  refine condK_f ?_
  refine callK_mono (copy_dops hd bx) ?_
  rintro cv w2 ⟨o2, g2⟩
  refine callK_mono (copy_dops (hu.grow g2) by') ?_
  rintro cu w3 ⟨o3, g3⟩
  have g23 := g2.trans g3
  obtain ⟨ca, cc, ecv, _⟩ := (ODops.sl o2).shape
  obtain ⟨ca', cc', ecu, _⟩ := (ODops.sl o3).shape
  refine ⟨#[cv, cu], by rw [ecv, ecu]; kernel_rfl, ?_⟩
  refine newst_n (vs := [cv, cu]) rfl rfl (fun u hu => by simp at hu; rcases hu with rfl | rfl; rw [ecv]; rfl; rw [ecu]; rfl) fun b7 w4 hb7 hz7 g4 hc4 _ => ?_
  have z2 := g2.size
  have z3 := g3.size
  have r2 : RDops (fun z => W.heap.size ≤ z ∧ z < w4.heap.size) (fun z => W.heap.size ≤ z ∧ z < w4.heap.size) w4 cv x := (ODops.reads o2).to (g3.trans g4) (fun _ _ _ h => h) (fun _ _ _ h => h) (fun z _ hz => ⟨hz.1, by omega⟩) fun z _ hz => ⟨hz.1, by omega⟩
  have r3 : RDops (fun z => W.heap.size ≤ z ∧ z < w4.heap.size) (fun z => W.heap.size ≤ z ∧ z < w4.heap.size) w4 cu y := (ODops.reads o3).to g4 (fun _ _ _ h => h) (fun _ _ _ h => h) (fun z _ hz => ⟨by omega, by omega⟩) fun z _ hz => ⟨by omega, by omega⟩
  have hR4 := (hR.grow (g23.trans g4)).more (F' := fun z => F z ∨ W.heap.size ≤ z ∧ z < w4.heap.size) (C' := fun z => C z ∨ W.heap.size ≤ z ∧ z < w4.heap.size) (fun _ h => .inl h) (fun _ h => .inl h) (fun z hz => by
    rcases hz with hz | hz
    · have := hR.cf z hz; exact ⟨.inl this.1, by omega, .inl hz⟩
    · exact ⟨.inr hz, hz.2, .inr fun hf => by have := hF z hf; omega⟩)
  have hg : RGrp (fun z => C z ∨ W.heap.size ≤ z ∧ z < w4.heap.size) w4 [cv, cu] ⟨x, y⟩ := ⟨cv, cu, rfl, r2.to (Mod.refl (fun _ => False) _) (fun _ _ _ h => h) (fun _ _ _ h => h) (fun _ _ h => .inr h) fun _ _ h => .inr h, r3.to (Mod.refl (fun _ => False) _) (fun _ _ _ h => h) (fun _ _ _ h => h) (fun _ _ h => .inr h) fun _ _ h => .inr h⟩
  have g04 := g23.trans g4
  refine JoinK_i (fun _ w6 => ∃ F' uv', (∀ z, F' z → F z ∨ W.heap.size ≤ z ∧ z < w6.heap.size) ∧ HistR F' (fun z => C z ∨ W.heap.size ≤ z ∧ z < w4.heap.size) w6 b sv ks uv' rv ov h.max (keepL h.max h.us ⟨x, y⟩) h.rs h.op h.own ∧ Mod F W w6) ?_ ?_
  · rintro _ w6 ⟨F', uv', hF', hR6, m6⟩ _
    refine nilckK_s ?_
    rw [faK_i, addr0]
    refine hR6.setR (F' := F') (M := fun _ => False) (Mod.refl _ _) (fun _ h => h.elim) (fun _ h => h) (.inl OwnR.nil) (fun g hg => nomatch hg) fun w7 hR7 m7 => ⟨rfl, F', fun z hz => ?_, ⟨_, sv, uv', _, ov, hR7⟩, m6.trans (m7.mono fun z _ e => by rw [e]; exact hR.fb.1)⟩
    have := m7.size
    rcases hF' z hz with h | h
    · exact .inl h
    · exact .inr ⟨h.1, by omega⟩
  refine nilckK_s ?_
  rw [faK_i, addr0]
  refine ld1K_i (hR4.cells 5 _ rfl) ?_
  rw [hop]
  refine condK_f ?_
  refine ldnK_i (vs := [cv, cu]) rfl hc4 ?_
  rw [← hop]
  refine callK_mono (keep_ok hR4 hl hmx hg) ?_
  rintro _ w6 ⟨F', uv', hF', hR6, m6⟩
  have z4 := g04.size
  have z6 := m6.size
  refine ⟨F', uv', fun z hz => ?_, hR6, (g04.mono fun _ _ h => h.elim : Mod F W w4).next m6 fun z hz e => ?_⟩
  · rcases hF' z hz with (h | h) | h
    · exact .inl h
    · exact .inr ⟨h.1, by omega⟩
    · exact .inr ⟨by omega, h.2⟩
  · rcases e with e | e
    · exact e
    · omega
/-- slices.Clone of groups -/
theorem clone_grp {S : Nat → Prop} {v : Value} {l : List Grp} (h : SlR S 2 (RGrp C) W v l) (hC : ∀ x, C x → x < W.heap.size) (hl : l.length ≤ 1099511627) :
    callK Tryz.prog 88 [v] (fun v' w' => OwnR W.heap.size TGrp 2 (RGrp C) w' v' l ∧ Grow W w') W := by
  apply S88_ok
  unfold S88
  obtain ⟨a, c, rfl, hm⟩ := h.shape
  cases a with
  | none =>
    have : l = [] := by
      cases l with
      | nil => rfl
      | cons x l => obtain ⟨p, r, e, _⟩ := h.get (i := 0) (by simp); cases e
    subst this
    simp only [KS]
    exact ⟨OwnR.nil, Mod.refl _ _⟩
  | some p =>
    simp only [KS]
    refine rowK_empty ?_
    have hg : Grow W (W.alloc (.cells #[] TGrp)) := Mod.alloc _ _ _
    have hbx : (W.alloc (.cells #[] TGrp)).heap[W.heap.size]? = some (.cells #[] TGrp (0, 0)) := by show (W.heap.push _)[W.heap.size]? = _; simp
    obtain ⟨v', w', h1, h2, h3, _⟩ := append_new (ty := 65) elem_grp hbx (h.grow hg (by decide) fun r x hx => hx.mod hg fun _ _ _ h => h) (fun _ _ _ => RGrp.one) (by omega) (fun w2 hg2 r y hr => hr.mod (Mod.of_grownBy hg2) fun x hx hC' e => by have := hC x hC'; simp only [Option.some.injEq] at e; omega)
    exact runK_i h1 ⟨h2, hg.trans h3⟩
/-- the newest group of one stack to the other one -/
theorem moveU_ok (h : HistR F C W b sv ks uv rv ov mx us rs false own) (hl1 : us.length ≤ 65536) (hl2 : rs.length ≤ 65536) (hF : ∀ x, F x → x < W.heap.size) :
    callK Tryz.prog 52 [.pointer (some ⟨b, 0, none⟩), .pointer (some ⟨b, 3, none⟩), .pointer (some ⟨b, 4, none⟩)] (fun v' w' => (us = [] ∧ v' = .tuple #[.agg #[.slice none 0 0, .slice none 0 0], .int .i64 10] ∧ Grow W w') ∨
      ∃ l g r F' uv' rv', us = l ++ [g] ∧ v' = .tuple #[.agg (List.toArray r), .int .i64 0] ∧ r.length = 2 ∧ RGrp C w' r g ∧ (∀ x, F' x → F x ∨ W.heap.size ≤ x ∧ x < w'.heap.size) ∧ HistR F' C w' b sv ks uv' rv' ov mx l (rs ++ [g]) false own ∧ Mod F W w') W := by
  apply S52_ok
  unfold S52
  have hlt := h.lt
  have hoA := h.und.ownB
  have hoB := h.red.ownB
  refine newz_i fun b6 w1 hb6 hz1 g1 _ hl6 => ?_
  have hR1 := h.grow g1
  obtain ⟨a, c, e, hcap, hcm, hel⟩ := h.und.sl (by decide)
  have hsl := hR1.und.sl (by decide)
  rw [e] at hsl
  refine nilckK_s ?_
  refine ld1K_i (hR1.cells 3 _ rfl) ?_
  rw [e, lenK_i, subK_i, wrap64 (by omega) (by omega)]
  refine nilckK_s ?_
  rw [faK_i, addr0]
  refine ld1K_i (hR1.cells 5 _ rfl) ?_
  refine condK_f ?_
  rw [ltK_i]
  refine condK_p (fun hneg => ?_) fun hpos => ?_
  · refine ⟨#[.slice none 0 0, .slice none 0 0], by kernel_rfl, ?_⟩
    refine stn_over (vs := [.slice none 0 0, .slice none 0 0]) rfl (fun u hu => by simp at hu; subst hu; rfl) (fun j hj => hl6 j hj) fun W'' m hc _ => ?_
    exact ldnK_i rfl hc (.inl ⟨List.eq_nil_of_length_eq_zero (by omega), rfl, g1.next m fun x hx e => by omega⟩)
  obtain ⟨l, g, hlg⟩ := concat_of_pos (l := us) (by omega)
  have hlen : us.length = l.length + 1 := by rw [hlg]; simp
  have en : ((us.length : Int) - 1) = ((l.length : Nat) : Int) := by omega
  rw [en]
  refine nilckK_s ?_
  refine ld1K_i (hR1.cells 3 _ rfl) ?_
  rw [e]
  have hi : l.length < us.length := by omega
  obtain ⟨p, r, rfl, _, hr, hc, hre⟩ := hsl.get hi
  have hge : us[l.length] = g := by
    have : us[l.length]? = some g := by rw [hlg]; simp
    rw [List.getElem?_eq_getElem hi] at this
    exact Option.some.inj this
  rw [hge] at hre
  refine ixK_n hi (ldnK_i hr (fun j u hu => by rw [Addr.add_add]; exact hc j u hu) ?_)
  refine newst_n (vs := r) hr rfl hre.one fun b9 w3 hb9 hz9 g3 hc9 _ => ?_
  have g13 := g1.trans g3
  have hR3 := hR1.grow g3
  refine nilckK_s ?_
  refine ld1K_i (hR3.cells 3 _ rfl) ?_
  rw [e]
  refine runK_i (slice_h_run (e := TGrp) (k := 2) (i := Tryz.t95) (j := l.length) (by kernel_rfl) (by kernel_rfl) (by kernel_rfl) (by omega) w3) ?_
  rw [sliced_zero]
  have hsl3 := hR3.und.sl (by decide)
  rw [e] at hsl3
  have htk := hsl3.takeN (j := l.length) (by omega)
  have etk : us.take l.length = l := by rw [hlg]; simp
  rw [etk] at htk
  refine callK_mono (clone_grp htk (fun x hx => (hR3.cf x hx).2) (by omega)) ?_
  rintro cl w4 ⟨ho4, g4⟩
  have g34 := g3.trans g4
  have g14 := g13.trans g4
  have hR4 := hR3.grow g4
  have ho4' := OwnR.ownB ho4
  refine nilckK_s ?_
  have z1 := g1.size
  have z3 := g3.size
  have z4 := g4.size
  refine hR3.setU (F' := fun x => F x ∨ w3.heap.size ≤ x ∧ x < w4.heap.size) (M := fun _ => False) g4 (fun _ h => h.elim) (fun _ h => .inl h) (.inl (ho4.base fun _ _ => Nat.zero_le _)) (fun y hy => .inr ⟨(ho4' y hy).1, .inr ⟨(ho4' y hy).1, (ho4' y hy).2⟩⟩) fun w5 hR5 m5 => ?_
  have z5 := m5.size
  have gd : Grow w5 w5.drew := Mod.drew _ _
  have zd : w5.drew.heap.size = w5.heap.size := rfl
  have hR5d := hR5.grow gd
  obtain ⟨dv, uu, rfl, hd, hu⟩ := hre
  have hre : RGrp C w1 [dv, uu] g := ⟨dv, uu, rfl, hd, hu⟩
  have m35 : Mod (fun y => y = b) w3 w5.drew := ((g4.mono fun _ _ h => h.elim).trans m5).next gd fun _ _ h => h.elim
  have hb9c : ∀ j v, ([dv, uu] : List Value)[j]? = some v → w5.drew.cell? ((⟨b9, 0, none⟩ : Addr).add j) = some v := fun j v hv => m35.cell (hc9 j v hv) (by rw [add_block]; exact fun e => by have e' : b9 = b := e; omega)
  refine drawC_i (fun k y => (k = 6 ∧ rv.ownBlock = some y) ∨ (k = 8 ∧ y = b)) ?_
  refine nilckK_s ?_
  refine sld1_i ⟨hR5d.cells 4 _ rfl, fun j hj e => by
    rcases e with ⟨rfl, e⟩ | ⟨rfl, _⟩
    · exact (h.rF b e).2.2.1 rfl
    · exact absurd hj (by decide)⟩ ?_
  refine sldn_i (vs := [dv, uu]) rfl (fun q v hv => ⟨hb9c q v hv, fun j hj e => by
    rcases e with ⟨rfl, e⟩ | ⟨rfl, e⟩
    · rw [add_block] at e; have := hoB b9 e; omega
    · rw [add_block] at e; have e' : b9 = b := e; omega⟩) ?_
  have hCb : ∀ x, C x → ¬ x = b := fun x hx e => h.fb.2 (e ▸ hx)
  have hg5 : RGrp C w5.drew [dv, uu] g := (hre.mod g3 fun _ _ _ h => h).mod m35 fun x _ hx => hCb x hx
  refine StkR.push elem_grp hR5d.red (cs := [dv, uu]) (x := g) (by kernel_rfl) rfl hg5 (fun _ _ _ => RGrp.one) (fun w2 w3 r y hs hm hr => hr.mod hm fun x hx hC e => ?_) (by omega) (by simp only [maxLen]; omega) (fun w2 g => g.mono fun _ _ h => h.elim) fun w7 bv' w8 ho m78 m8 hn => ⟨m78.mono fun x _ e => .inl ⟨rfl, e⟩, ?_⟩
  · rcases e with e | e
    · exact (h.rF x e).2.1 hC
    · have := (h.cf x hC).2; omega
  refine nilckK_s ?_
  have z8 := m8.size
  have hlt8 := OwnR.ownB ho
  refine hR5d.setR (F' := fun x => F x ∨ w3.heap.size ≤ x ∧ x < w8.heap.size) m8 (fun _ h => h) (fun x h => by rcases h with h | h; exact .inl h; exact .inr ⟨h.1, by omega⟩) (.inl ho) (fun y hy => by
    rcases hn y hy with e | e
    · exact .inl e
    · exact .inr ⟨e, .inr ⟨by omega, (hlt8 y hy).2⟩⟩) fun w9 hR9 m9 => ⟨m9.mono fun x _ e => .inr ⟨rfl, e⟩, ?_⟩
  have z9 := m9.size
  have m59 : Mod (fun y => rv.ownBlock = some y ∨ y = b) w5.drew w9 := (m8.mono fun _ _ h => .inl h).trans (m9.mono fun _ _ h => .inr h)
  have hb9d : ∀ j v, ([dv, uu] : List Value)[j]? = some v → w9.cell? ((⟨b9, 0, none⟩ : Addr).add j) = some v := fun j v hv => m59.cell (hb9c j v hv) (by
    rw [add_block]
    rintro (e | e)
    · have := hoB b9 e; omega
    · have e' : b9 = b := e; omega)
  refine ldnK_i (vs := [dv, uu]) rfl hb9d ?_
  have hg9 : RGrp C w9 [dv, uu] g := hg5.mod m59 fun x _ hx e => by
    rcases e with e | e
    · exact (h.rF x e).2.1 hx
    · exact hCb x hx e
  refine stn_over (vs := [dv, uu]) rfl hg9.one (fun j hj => ((((hl6 j hj).mod g3 fun h => h).mod m35 fun e => by rw [add_block] at e; have e' : b6 = b := e; omega).mod m59 fun e => by
    rw [add_block] at e
    rcases e with e | e
    · have := hoB b6 e; omega
    · have e' : b6 = b := e; omega)) fun w10 m10 hc10 _ => ?_
  have z10 := m10.size
  refine ldnK_i rfl hc10 (.inr ⟨l, g, [dv, uu], fun x => F x ∨ w3.heap.size ≤ x ∧ x < w8.heap.size, _, _, hlg, rfl, rfl, hg9.mod m10 fun x _ hx e => by have := (h.cf x hx).2; omega, fun x hx => ?_, hR9.mod m10 fun x hx e => ?_, ?_⟩)
  · rcases hx with hx | hx
    · exact .inl hx
    · exact .inr ⟨by omega, by omega⟩
  · rcases hx with hx | hx
    · have := hF x hx; omega
    · omega
  · refine (((g13.mono fun _ _ h => h.elim : Mod F W w3).next m35 fun x hx e => by rw [e]; exact h.fb.1).next m59 fun x hx e => ?_).next m10 fun x hx e => by omega
    rcases e with e | e
    · exact (h.rF x e).1
    · rw [e]; exact h.fb.1
/-- the newest group of one stack to the other one -/
theorem moveR_ok (h : HistR F C W b sv ks uv rv ov mx us rs false own) (hl1 : us.length ≤ 65536) (hl2 : rs.length ≤ 65536) (hF : ∀ x, F x → x < W.heap.size) :
    callK Tryz.prog 52 [.pointer (some ⟨b, 0, none⟩), .pointer (some ⟨b, 4, none⟩), .pointer (some ⟨b, 3, none⟩)] (fun v' w' => (rs = [] ∧ v' = .tuple #[.agg #[.slice none 0 0, .slice none 0 0], .int .i64 10] ∧ Grow W w') ∨
      ∃ l g r F' uv' rv', rs = l ++ [g] ∧ v' = .tuple #[.agg (List.toArray r), .int .i64 0] ∧ r.length = 2 ∧ RGrp C w' r g ∧ (∀ x, F' x → F x ∨ W.heap.size ≤ x ∧ x < w'.heap.size) ∧ HistR F' C w' b sv ks uv' rv' ov mx (us ++ [g]) l false own ∧ Mod F W w') W := by
  apply S52_ok
  unfold S52
  have hlt := h.lt
  have hoA := h.red.ownB
  have hoB := h.und.ownB
  refine newz_i fun b6 w1 hb6 hz1 g1 _ hl6 => ?_
  have hR1 := h.grow g1
  obtain ⟨a, c, e, hcap, hcm, hel⟩ := h.red.sl (by decide)
  have hsl := hR1.red.sl (by decide)
  rw [e] at hsl
  refine nilckK_s ?_
  refine ld1K_i (hR1.cells 4 _ rfl) ?_
  rw [e, lenK_i, subK_i, wrap64 (by omega) (by omega)]
  refine nilckK_s ?_
  rw [faK_i, addr0]
  refine ld1K_i (hR1.cells 5 _ rfl) ?_
  refine condK_f ?_
  rw [ltK_i]
  refine condK_p (fun hneg => ?_) fun hpos => ?_
  · refine ⟨#[.slice none 0 0, .slice none 0 0], by kernel_rfl, ?_⟩
    refine stn_over (vs := [.slice none 0 0, .slice none 0 0]) rfl (fun u hu => by simp at hu; subst hu; rfl) (fun j hj => hl6 j hj) fun W'' m hc _ => ?_
    exact ldnK_i rfl hc (.inl ⟨List.eq_nil_of_length_eq_zero (by omega), rfl, g1.next m fun x hx e => by omega⟩)
  obtain ⟨l, g, hlg⟩ := concat_of_pos (l := rs) (by omega)
  have hlen : rs.length = l.length + 1 := by rw [hlg]; simp
  have en : ((rs.length : Int) - 1) = ((l.length : Nat) : Int) := by omega
  rw [en]
  refine nilckK_s ?_
  refine ld1K_i (hR1.cells 4 _ rfl) ?_
  rw [e]
  have hi : l.length < rs.length := by omega
  obtain ⟨p, r, rfl, _, hr, hc, hre⟩ := hsl.get hi
  have hge : rs[l.length] = g := by
    have : rs[l.length]? = some g := by rw [hlg]; simp
    rw [List.getElem?_eq_getElem hi] at this
    exact Option.some.inj this
  rw [hge] at hre
  refine ixK_n hi (ldnK_i hr (fun j u hu => by rw [Addr.add_add]; exact hc j u hu) ?_)
  refine newst_n (vs := r) hr rfl hre.one fun b9 w3 hb9 hz9 g3 hc9 _ => ?_
  have g13 := g1.trans g3
  have hR3 := hR1.grow g3
  refine nilckK_s ?_
  refine ld1K_i (hR3.cells 4 _ rfl) ?_
  rw [e]
  refine runK_i (slice_h_run (e := TGrp) (k := 2) (i := Tryz.t95) (j := l.length) (by kernel_rfl) (by kernel_rfl) (by kernel_rfl) (by omega) w3) ?_
  rw [sliced_zero]
  have hsl3 := hR3.red.sl (by decide)
  rw [e] at hsl3
  have htk := hsl3.takeN (j := l.length) (by omega)
  have etk : rs.take l.length = l := by rw [hlg]; simp
  rw [etk] at htk
  refine callK_mono (clone_grp htk (fun x hx => (hR3.cf x hx).2) (by omega)) ?_
  rintro cl w4 ⟨ho4, g4⟩
  have g34 := g3.trans g4
  have g14 := g13.trans g4
  have hR4 := hR3.grow g4
  have ho4' := OwnR.ownB ho4
  refine nilckK_s ?_
  have z1 := g1.size
  have z3 := g3.size
  have z4 := g4.size
  refine hR3.setR (F' := fun x => F x ∨ w3.heap.size ≤ x ∧ x < w4.heap.size) (M := fun _ => False) g4 (fun _ h => h.elim) (fun _ h => .inl h) (.inl (ho4.base fun _ _ => Nat.zero_le _)) (fun y hy => .inr ⟨(ho4' y hy).1, .inr ⟨(ho4' y hy).1, (ho4' y hy).2⟩⟩) fun w5 hR5 m5 => ?_
  have z5 := m5.size
  have gd : Grow w5 w5.drew := Mod.drew _ _
  have zd : w5.drew.heap.size = w5.heap.size := rfl
  have hR5d := hR5.grow gd
  obtain ⟨dv, uu, rfl, hd, hu⟩ := hre
  have hre : RGrp C w1 [dv, uu] g := ⟨dv, uu, rfl, hd, hu⟩
  have m35 : Mod (fun y => y = b) w3 w5.drew := ((g4.mono fun _ _ h => h.elim).trans m5).next gd fun _ _ h => h.elim
  have hb9c : ∀ j v, ([dv, uu] : List Value)[j]? = some v → w5.drew.cell? ((⟨b9, 0, none⟩ : Addr).add j) = some v := fun j v hv => m35.cell (hc9 j v hv) (by rw [add_block]; exact fun e => by have e' : b9 = b := e; omega)
  refine drawC_i (fun k y => (k = 6 ∧ uv.ownBlock = some y) ∨ (k = 8 ∧ y = b)) ?_
  refine nilckK_s ?_
  refine sld1_i ⟨hR5d.cells 3 _ rfl, fun j hj e => by
    rcases e with ⟨rfl, e⟩ | ⟨rfl, _⟩
    · exact (h.uF b e).2.2 rfl
    · exact absurd hj (by decide)⟩ ?_
  refine sldn_i (vs := [dv, uu]) rfl (fun q v hv => ⟨hb9c q v hv, fun j hj e => by
    rcases e with ⟨rfl, e⟩ | ⟨rfl, e⟩
    · rw [add_block] at e; have := hoB b9 e; omega
    · rw [add_block] at e; have e' : b9 = b := e; omega⟩) ?_
  have hCb : ∀ x, C x → ¬ x = b := fun x hx e => h.fb.2 (e ▸ hx)
  have hg5 : RGrp C w5.drew [dv, uu] g := (hre.mod g3 fun _ _ _ h => h).mod m35 fun x _ hx => hCb x hx
  refine StkR.push elem_grp hR5d.und (cs := [dv, uu]) (x := g) (by kernel_rfl) rfl hg5 (fun _ _ _ => RGrp.one) (fun w2 w3 r y hs hm hr => hr.mod hm fun x hx hC e => ?_) (by omega) (by simp only [maxLen]; omega) (fun w2 g => g.mono fun _ _ h => h.elim) fun w7 bv' w8 ho m78 m8 hn => ⟨m78.mono fun x _ e => .inl ⟨rfl, e⟩, ?_⟩
  · rcases e with e | e
    · exact (h.uF x e).2.1 hC
    · have := (h.cf x hC).2; omega
  refine nilckK_s ?_
  have z8 := m8.size
  have hlt8 := OwnR.ownB ho
  refine hR5d.setU (F' := fun x => F x ∨ w3.heap.size ≤ x ∧ x < w8.heap.size) m8 (fun _ h => h) (fun x h => by rcases h with h | h; exact .inl h; exact .inr ⟨h.1, by omega⟩) (.inl ho) (fun y hy => by
    rcases hn y hy with e | e
    · exact .inl e
    · exact .inr ⟨e, .inr ⟨by omega, (hlt8 y hy).2⟩⟩) fun w9 hR9 m9 => ⟨m9.mono fun x _ e => .inr ⟨rfl, e⟩, ?_⟩
  have z9 := m9.size
  have m59 : Mod (fun y => uv.ownBlock = some y ∨ y = b) w5.drew w9 := (m8.mono fun _ _ h => .inl h).trans (m9.mono fun _ _ h => .inr h)
  have hb9d : ∀ j v, ([dv, uu] : List Value)[j]? = some v → w9.cell? ((⟨b9, 0, none⟩ : Addr).add j) = some v := fun j v hv => m59.cell (hb9c j v hv) (by
    rw [add_block]
    rintro (e | e)
    · have := hoB b9 e; omega
    · have e' : b9 = b := e; omega)
  refine ldnK_i (vs := [dv, uu]) rfl hb9d ?_
  have hg9 : RGrp C w9 [dv, uu] g := hg5.mod m59 fun x _ hx e => by
    rcases e with e | e
    · exact (h.uF x e).2.1 hx
    · exact hCb x hx e
  refine stn_over (vs := [dv, uu]) rfl hg9.one (fun j hj => ((((hl6 j hj).mod g3 fun h => h).mod m35 fun e => by rw [add_block] at e; have e' : b6 = b := e; omega).mod m59 fun e => by
    rw [add_block] at e
    rcases e with e | e
    · have := hoB b6 e; omega
    · have e' : b6 = b := e; omega)) fun w10 m10 hc10 _ => ?_
  have z10 := m10.size
  refine ldnK_i rfl hc10 (.inr ⟨l, g, [dv, uu], fun x => F x ∨ w3.heap.size ≤ x ∧ x < w8.heap.size, _, _, hlg, rfl, rfl, hg9.mod m10 fun x _ hx e => by have := (h.cf x hx).2; omega, fun x hx => ?_, hR9.mod m10 fun x hx e => ?_, ?_⟩)
  · rcases hx with hx | hx
    · exact .inl hx
    · exact .inr ⟨by omega, by omega⟩
  · rcases hx with hx | hx
    · have := hF x hx; omega
    · omega
  · refine (((g13.mono fun _ _ h => h.elim : Mod F W w3).next m35 fun x hx e => by rw [e]; exact h.fb.1).next m59 fun x hx e => ?_).next m10 fun x hx e => by omega
    rcases e with e | e
    · exact (h.uF x e).1
    · rw [e]; exact h.fb.1
end
end Go.Proofs.YtlbaopamhkmepaaGreatDoor

namespace Go.Proofs.YtlbaopamhkmepaaGreatDoor
open Go Go.K
section
variable {F C M : Nat → Prop} {W W' : World} {b : Nat} {sv : Value} {ks : List DKey} {h : Hist}
theorem undo_ok (hh : HistI F W b ks h) (hop : h.op = false) (hl1 : h.us.length ≤ 65536) (hl2 : h.rs.length ≤ 65536) (hF : ∀ x, F x → x < W.heap.size) (hb : ∀ g ∈ h.us, mDops g.u ≤ 1099511627776) :
    callK Tryz.prog 19 [.pointer (some ⟨b, 0, none⟩)] (fun v' w' => (h.us = [] ∧ ∃ cv, v' = .tuple #[cv, .int .i64 10] ∧ Grow W w') ∨
      ∃ l g cv n, h.us = l ++ [g] ∧ v' = .tuple #[cv, .int .i64 0] ∧ W.heap.size ≤ n ∧ ODops n w' cv g.u ∧ ∃ F', (∀ x, F' x → (F x ∨ W.heap.size ≤ x) ∧ x < n) ∧ HistI F' w' b ks { h with us := l, rs := h.rs ++ [g] } ∧ n ≤ w'.heap.size ∧ Mod F W w') W := by
  apply S19_ok
  unfold S19
  refine callK_mono (hready_ok hh) ?_
  rintro _ _ ⟨rfl, rfl⟩
  rename World => W
  obtain ⟨C, sv, uv, rv, ov, hR⟩ := hh
  rw [hop] at hR
  rw [notK_i]
  refine condK_f ?_
  refine JoinK_i (fun vs w2 => (h.us = [] ∧ ∃ b4, vs = [.pointer (some ⟨b4, 0, none⟩), .int .i64 10] ∧ (∀ j v, ([.slice none 0 0, .slice none 0 0] : List Value)[j]? = some v → w2.cell? ((⟨b4, 0, none⟩ : Addr).add j) = some v) ∧ Grow W w2) ∨
    ∃ l g b4 r F' uv' rv', h.us = l ++ [g] ∧ vs = [.pointer (some ⟨b4, 0, none⟩), .int .i64 0] ∧ RGrp C w2 r g ∧ (∀ j v, r[j]? = some v → w2.cell? ((⟨b4, 0, none⟩ : Addr).add j) = some v) ∧ (∀ x, F' x → (F x ∨ W.heap.size ≤ x) ∧ x < w2.heap.size) ∧ HistR F' C w2 b sv ks uv' rv' ov h.max l (h.rs ++ [g]) false h.own ∧ Mod F W w2) ?_ ?_
  · rintro _ w2 (⟨hn, b4, rfl, hc, g2⟩ | ⟨l, g, b4, r, F', uv', rv', hlg, rfl, ⟨dv, uu, rfl, hd, hu⟩, hc, hF', hR2, m2⟩) _
    · simp only [nth_s, nth_z, List.headD_cons, List.tail_cons]
      rw [faK_i]
      refine ld1K_i (hc 1 _ rfl) ?_
      refine callK_mono (copy_dops (S := fun _ => False) (D := fun _ => False) (x := []) SlR.nil (by simp [mDops])) ?_
      rintro cv w3 ⟨_, g3⟩
      exact .inl ⟨hn, cv, rfl, g2.trans g3⟩
    · simp only [nth_s, nth_z, List.headD_cons, List.tail_cons]
      rw [faK_i]
      refine ld1K_i (hc 1 _ rfl) ?_
      refine callK_mono (copy_dops hu (hb g (by rw [hlg]; simp))) ?_
      rintro cv w3 ⟨o3, g3⟩
      exact .inr ⟨l, g, cv, w2.heap.size, hlg, rfl, m2.size, o3, F', hF', ⟨C, sv, uv', rv', ov, by rw [hop]; exact hR2.grow g3⟩, g3.size, m2.next g3 fun _ _ h => h.elim⟩
  have gd : Grow W W.drew := Mod.drew _ _
  have zd : W.drew.heap.size = W.heap.size := rfl
  refine drawC_i (fun k y => (k = 7 ∧ F y) ∨ (k = 12 ∧ W.heap.size ≤ y)) ?_
  refine nilckK_s ?_
  rw [faK_i, addr0]
  refine nilckK_s ?_
  rw [faK_i, addr0]
  refine ⟨?_, ?_⟩
  · refine callK_mono (moveU_ok (hR.grow gd) hl1 hl2 hF) ?_
    rintro _ w5 (⟨hn, rfl, g5⟩ | ⟨l, g, r, F', uv', rv', hlg, rfl, hr2, hg, hF', hR5, m5⟩)
    · refine ⟨g5.mono fun _ _ h => h.elim, ?_⟩
      refine extK_i (vs := [_, _]) (by rfl) (extK_i (vs := [_, _]) (by rfl) ?_)
      refine newz_i fun b4 w6 hb4 hz6 g6 _ hl6 => ⟨g6.mono fun _ _ h => h.elim, ?_⟩
      have z5 := g5.size
      refine stn_over (vs := [.slice none 0 0, .slice none 0 0]) rfl (fun u hu => by simp at hu; subst hu; rfl) (fun j hj => hl6 j hj) fun w7 m7 hc7 _ => ⟨m7.mono fun x _ e => .inr ⟨rfl, by omega⟩, .inl ⟨hn, b4, rfl, hc7, ((gd.trans g5).trans g6).next m7 fun x hx e => by omega⟩⟩
    · refine ⟨m5.mono fun x _ e => .inl ⟨rfl, e⟩, ?_⟩
      refine extK_i (vs := [_, _]) (by rfl) (extK_i (vs := [_, _]) (by rfl) ?_)
      refine newz_i fun b4 w6 hb4 hz6 g6 _ hl6 => ⟨g6.mono fun _ _ h => h.elim, ?_⟩
      have z5 := m5.size
      have hg6 := hg.mod g6 fun _ _ _ h => h
      have hR6 := hR5.grow g6
      refine stn_over (vs := r) hr2 hg6.one (fun j hj => hl6 j hj) fun w7 m7 hc7 _ => ⟨m7.mono fun x _ e => .inr ⟨rfl, by omega⟩, .inr ⟨l, g, b4, r, F', uv', rv', hlg, rfl, hg6.mod m7 fun x _ hx e => ?_, hc7, fun x hx => ?_, hR6.mod m7 fun x hx e => ?_, ?_⟩⟩
      · have := (hR5.cf x hx).2; omega
      · have := m7.size
        rcases hF' x hx with e | e
        · exact ⟨.inl e, by have := hF x e; omega⟩
        · exact ⟨.inr (by omega), by omega⟩
      · rcases hF' x hx with e' | e'
        · have := hF x e'; omega
        · omega
      · exact (((gd.mono fun _ _ h => h.elim : Mod F W W.drew).trans m5).next g6 fun _ _ h => h.elim).next m7 fun x hx e => by omega
  · refine newz_i fun b4 w8 hb4 hz8 g8 _ hl8 => ⟨g8.mono fun _ _ h => h.elim, ?_⟩
    have z8 := g8.size
    have hF8 : ∀ x, F x → x < w8.heap.size := fun x hx => by have := hF x hx; omega
    refine callK_mono (moveU_ok ((hR.grow gd).grow g8) hl1 hl2 hF8) ?_
    rintro _ w9 (⟨hn, rfl, g9⟩ | ⟨l, g, r, F', uv', rv', hlg, rfl, hr2, hg, hF', hR9, m9⟩)
    · refine ⟨g9.mono fun _ _ h => h.elim, ?_⟩
      refine extK_i (vs := [_, _]) (by rfl) (extK_i (vs := [_, _]) (by rfl) ?_)
      refine stn_over (vs := [.slice none 0 0, .slice none 0 0]) rfl (fun u hu => by simp at hu; subst hu; rfl) (fun j hj => (hl8 j hj).mod g9 fun h => h) fun w7 m7 hc7 _ => ⟨m7.mono fun x _ e => .inr ⟨rfl, by omega⟩, .inl ⟨hn, b4, rfl, hc7, ((gd.trans g8).trans g9).next m7 fun x hx e => by omega⟩⟩
    · refine ⟨m9.mono fun x _ e => .inl ⟨rfl, e⟩, ?_⟩
      refine extK_i (vs := [_, _]) (by rfl) (extK_i (vs := [_, _]) (by rfl) ?_)
      have z9 := m9.size
      have b4F : ¬ F b4 := fun e => by have := hF b4 e; omega
      refine stn_over (vs := r) hr2 hg.one (fun j hj => (hl8 j hj).mod m9 (by rw [add_block]; exact b4F)) fun w7 m7 hc7 _ => ⟨m7.mono fun x _ e => .inr ⟨rfl, by omega⟩, .inr ⟨l, g, b4, r, F', uv', rv', hlg, rfl, hg.mod m7 fun x _ hx e => ?_, hc7, fun x hx => ?_, hR9.mod m7 fun x hx e => ?_, ?_⟩⟩
      · exact b4F (e ▸ (hR.cf x hx).1)
      · have := m7.size
        rcases hF' x hx with e | e
        · exact ⟨.inl e, by have := hF x e; omega⟩
        · exact ⟨.inr (by omega), by omega⟩
      · rcases hF' x hx with e' | e'
        · exact b4F (e ▸ e')
        · omega
      · exact (((gd.trans g8).mono fun _ _ h => h.elim : Mod F W w8).trans m9).next m7 fun x hx e => by omega
theorem redo_ok (hh : HistI F W b ks h) (hop : h.op = false) (hl1 : h.us.length ≤ 65536) (hl2 : h.rs.length ≤ 65536) (hF : ∀ x, F x → x < W.heap.size) (hb : ∀ g ∈ h.rs, mDops g.d ≤ 1099511627776) :
    callK Tryz.prog 21 [.pointer (some ⟨b, 0, none⟩)] (fun v' w' => (h.rs = [] ∧ ∃ cv, v' = .tuple #[cv, .int .i64 10] ∧ Grow W w') ∨
      ∃ l g cv n, h.rs = l ++ [g] ∧ v' = .tuple #[cv, .int .i64 0] ∧ W.heap.size ≤ n ∧ ODops n w' cv g.d ∧ ∃ F', (∀ x, F' x → (F x ∨ W.heap.size ≤ x) ∧ x < n) ∧ HistI F' w' b ks { h with us := h.us ++ [g], rs := l } ∧ n ≤ w'.heap.size ∧ Mod F W w') W := by
  apply S21_ok
  unfold S21
  refine callK_mono (hready_ok hh) ?_
  rintro _ _ ⟨rfl, rfl⟩
  rename World => W
  obtain ⟨C, sv, uv, rv, ov, hR⟩ := hh
  rw [hop] at hR
  rw [notK_i]
  refine condK_f ?_
  refine JoinK_i (fun vs w2 => (h.rs = [] ∧ ∃ b4, vs = [.pointer (some ⟨b4, 0, none⟩), .int .i64 10] ∧ (∀ j v, ([.slice none 0 0, .slice none 0 0] : List Value)[j]? = some v → w2.cell? ((⟨b4, 0, none⟩ : Addr).add j) = some v) ∧ Grow W w2) ∨
    ∃ l g b4 r F' uv' rv', h.rs = l ++ [g] ∧ vs = [.pointer (some ⟨b4, 0, none⟩), .int .i64 0] ∧ RGrp C w2 r g ∧ (∀ j v, r[j]? = some v → w2.cell? ((⟨b4, 0, none⟩ : Addr).add j) = some v) ∧ (∀ x, F' x → (F x ∨ W.heap.size ≤ x) ∧ x < w2.heap.size) ∧ HistR F' C w2 b sv ks uv' rv' ov h.max (h.us ++ [g]) l false h.own ∧ Mod F W w2) ?_ ?_
  · rintro _ w2 (⟨hn, b4, rfl, hc, g2⟩ | ⟨l, g, b4, r, F', uv', rv', hlg, rfl, ⟨dv, uu, rfl, hd, hu⟩, hc, hF', hR2, m2⟩) _
    · simp only [nth_s, nth_z, List.headD_cons, List.tail_cons]
      rw [faK_i]
      refine ld1K_i (hc 0 _ rfl) ?_
      refine callK_mono (copy_dops (S := fun _ => False) (D := fun _ => False) (x := []) SlR.nil (by simp [mDops])) ?_
      rintro cv w3 ⟨_, g3⟩
      exact .inl ⟨hn, cv, rfl, g2.trans g3⟩
    · simp only [nth_s, nth_z, List.headD_cons, List.tail_cons]
      rw [faK_i]
      refine ld1K_i (hc 0 _ rfl) ?_
      refine callK_mono (copy_dops hd (hb g (by rw [hlg]; simp))) ?_
      rintro cv w3 ⟨o3, g3⟩
      exact .inr ⟨l, g, cv, w2.heap.size, hlg, rfl, m2.size, o3, F', hF', ⟨C, sv, uv', rv', ov, by rw [hop]; exact hR2.grow g3⟩, g3.size, m2.next g3 fun _ _ h => h.elim⟩
  have gd : Grow W W.drew := Mod.drew _ _
  have zd : W.drew.heap.size = W.heap.size := rfl
  refine drawC_i (fun k y => (k = 7 ∧ F y) ∨ (k = 12 ∧ W.heap.size ≤ y)) ?_
  refine nilckK_s ?_
  rw [faK_i, addr0]
  refine nilckK_s ?_
  rw [faK_i, addr0]
  refine ⟨?_, ?_⟩
  · refine callK_mono (moveR_ok (hR.grow gd) hl1 hl2 hF) ?_
    rintro _ w5 (⟨hn, rfl, g5⟩ | ⟨l, g, r, F', uv', rv', hlg, rfl, hr2, hg, hF', hR5, m5⟩)
    · refine ⟨g5.mono fun _ _ h => h.elim, ?_⟩
      refine extK_i (vs := [_, _]) (by rfl) (extK_i (vs := [_, _]) (by rfl) ?_)
      refine newz_i fun b4 w6 hb4 hz6 g6 _ hl6 => ⟨g6.mono fun _ _ h => h.elim, ?_⟩
      have z5 := g5.size
      refine stn_over (vs := [.slice none 0 0, .slice none 0 0]) rfl (fun u hu => by simp at hu; subst hu; rfl) (fun j hj => hl6 j hj) fun w7 m7 hc7 _ => ⟨m7.mono fun x _ e => .inr ⟨rfl, by omega⟩, .inl ⟨hn, b4, rfl, hc7, ((gd.trans g5).trans g6).next m7 fun x hx e => by omega⟩⟩
    · refine ⟨m5.mono fun x _ e => .inl ⟨rfl, e⟩, ?_⟩
      refine extK_i (vs := [_, _]) (by rfl) (extK_i (vs := [_, _]) (by rfl) ?_)
      refine newz_i fun b4 w6 hb4 hz6 g6 _ hl6 => ⟨g6.mono fun _ _ h => h.elim, ?_⟩
      have z5 := m5.size
      have hg6 := hg.mod g6 fun _ _ _ h => h
      have hR6 := hR5.grow g6
      refine stn_over (vs := r) hr2 hg6.one (fun j hj => hl6 j hj) fun w7 m7 hc7 _ => ⟨m7.mono fun x _ e => .inr ⟨rfl, by omega⟩, .inr ⟨l, g, b4, r, F', uv', rv', hlg, rfl, hg6.mod m7 fun x _ hx e => ?_, hc7, fun x hx => ?_, hR6.mod m7 fun x hx e => ?_, ?_⟩⟩
      · have := (hR5.cf x hx).2; omega
      · have := m7.size
        rcases hF' x hx with e | e
        · exact ⟨.inl e, by have := hF x e; omega⟩
        · exact ⟨.inr (by omega), by omega⟩
      · rcases hF' x hx with e' | e'
        · have := hF x e'; omega
        · omega
      · exact (((gd.mono fun _ _ h => h.elim : Mod F W W.drew).trans m5).next g6 fun _ _ h => h.elim).next m7 fun x hx e => by omega
  · refine newz_i fun b4 w8 hb4 hz8 g8 _ hl8 => ⟨g8.mono fun _ _ h => h.elim, ?_⟩
    have z8 := g8.size
    have hF8 : ∀ x, F x → x < w8.heap.size := fun x hx => by have := hF x hx; omega
    refine callK_mono (moveR_ok ((hR.grow gd).grow g8) hl1 hl2 hF8) ?_
    rintro _ w9 (⟨hn, rfl, g9⟩ | ⟨l, g, r, F', uv', rv', hlg, rfl, hr2, hg, hF', hR9, m9⟩)
    · refine ⟨g9.mono fun _ _ h => h.elim, ?_⟩
      refine extK_i (vs := [_, _]) (by rfl) (extK_i (vs := [_, _]) (by rfl) ?_)
      refine stn_over (vs := [.slice none 0 0, .slice none 0 0]) rfl (fun u hu => by simp at hu; subst hu; rfl) (fun j hj => (hl8 j hj).mod g9 fun h => h) fun w7 m7 hc7 _ => ⟨m7.mono fun x _ e => .inr ⟨rfl, by omega⟩, .inl ⟨hn, b4, rfl, hc7, ((gd.trans g8).trans g9).next m7 fun x hx e => by omega⟩⟩
    · refine ⟨m9.mono fun x _ e => .inl ⟨rfl, e⟩, ?_⟩
      refine extK_i (vs := [_, _]) (by rfl) (extK_i (vs := [_, _]) (by rfl) ?_)
      have z9 := m9.size
      have b4F : ¬ F b4 := fun e => by have := hF b4 e; omega
      refine stn_over (vs := r) hr2 hg.one (fun j hj => (hl8 j hj).mod m9 (by rw [add_block]; exact b4F)) fun w7 m7 hc7 _ => ⟨m7.mono fun x _ e => .inr ⟨rfl, by omega⟩, .inr ⟨l, g, b4, r, F', uv', rv', hlg, rfl, hg.mod m7 fun x _ hx e => ?_, hc7, fun x hx => ?_, hR9.mod m7 fun x hx e => ?_, ?_⟩⟩
      · exact b4F (e ▸ (hR.cf x hx).1)
      · have := m7.size
        rcases hF' x hx with e | e
        · exact ⟨.inl e, by have := hF x e; omega⟩
        · exact ⟨.inr (by omega), by omega⟩
      · rcases hF' x hx with e' | e'
        · exact b4F (e ▸ e')
        · omega
      · exact (((gd.trans g8).mono fun _ _ h => h.elim : Mod F W w8).trans m9).next m7 fun x hx e => by omega
end
/-- a history of the law's own (w0: the world in which the law began) -/
structure HL (w0 : World) (F : Nat → Prop) (W : World) (b : Nat) (ks : List DKey) (h : Hist) : Prop where
  his : HistI F W b ks h
  hF : ∀ x, F x → w0.heap.size ≤ x ∧ x < W.heap.size
  g : Grow w0 W
/-- a history that holds no more than it may, of small groups -/
structure Hist.Ok (h : Hist) (B : Nat) : Prop where
  mx : h.max ≤ 65536
  tot : h.us.length + h.rs.length ≤ h.max
  us : ∀ g ∈ h.us, mDops g.u ≤ B ∧ mDops g.d ≤ B
  rs : ∀ g ∈ h.rs, mDops g.u ≤ B ∧ mDops g.d ≤ B
section
variable {w0 W W' : World} {F : Nat → Prop} {b : Nat} {ks : List DKey} {h h' : Hist}
theorem HL.grow (hh : HL w0 F W b ks h) (g : Grow W W') : HL w0 F W' b ks h := ⟨hh.his.grow g, fun x hx => ⟨(hh.hF x hx).1, Nat.lt_of_lt_of_le (hh.hF x hx).2 g.size⟩, hh.g.trans g⟩
theorem HL.after (hh : HL w0 F W b ks h) (ha : HAfter F W W' b ks h') : ∃ F', HL w0 F' W' b ks h' ∧ (∀ x, F' x → F x ∨ W.heap.size ≤ x) ∧ Mod F W W' := by
  obtain ⟨F', h1, h2, h3⟩ := ha
  have s := h3.size
  have s0 := hh.g.size
  refine ⟨F', ⟨h2, fun x hx => ?_, hh.g.next h3 fun x hx e => by have := (hh.hF x e).1; omega⟩, fun x hx => ?_, h3⟩
  · rcases h1 x hx with e | e
    · have := hh.hF x e; exact ⟨this.1, by omega⟩
    · exact ⟨by omega, e.2⟩
  · rcases h1 x hx with e | e
    · exact .inl e
    · exact .inr e.1
theorem HL.push {S D S' D' : Nat → Prop} {dv uu : Value} {x y : List Dop} (hh : HL w0 F W b ks h) (hop : h.op = false) (hl : h.us.length ≤ h.max) (hmx : h.max ≤ 65536) (hd : RDops S D W dv x) (hu : RDops S' D' W uu y) (bx : mDops x ≤ 1099511627776) (by' : mDops y ≤ 1099511627776) :
    callK Tryz.prog 18 [.pointer (some ⟨b, 0, none⟩), dv, uu] (fun v' w' => v' = .int .i64 0 ∧ ∃ F', HL w0 F' w' b ks { h with us := keepL h.max h.us ⟨x, y⟩, rs := [] } ∧ (∀ x, F' x → F x ∨ W.heap.size ≤ x) ∧ Mod F W w') W :=
  callK_mono (push_ok hh.his hop hl hmx hd hu bx by' fun x hx => (hh.hF x hx).2) fun _ _ h' => ⟨h'.1, hh.after h'.2⟩
theorem HL.undo (hh : HL w0 F W b ks h) (hop : h.op = false) (hl1 : h.us.length ≤ 65536) (hl2 : h.rs.length ≤ 65536) (hb : ∀ g ∈ h.us, mDops g.u ≤ 1099511627776) :
    callK Tryz.prog 19 [.pointer (some ⟨b, 0, none⟩)] (fun v' w' => (h.us = [] ∧ ∃ cv, v' = .tuple #[cv, .int .i64 10] ∧ Grow W w') ∨
      ∃ l g cv n F', h.us = l ++ [g] ∧ v' = .tuple #[cv, .int .i64 0] ∧ W.heap.size ≤ n ∧ ODops n w' cv g.u ∧ HL w0 F' w' b ks { h with us := l, rs := h.rs ++ [g] } ∧ (∀ x, F' x → (F x ∨ W.heap.size ≤ x) ∧ x < n) ∧ Mod F W w') W := by
  refine callK_mono (undo_ok hh.his hop hl1 hl2 (fun x hx => (hh.hF x hx).2) hb) ?_
  rintro v w' (h1 | ⟨l, g, cv, n, h1, h2, h3, h4, F', h5, h6, h7, h8⟩)
  · exact .inl h1
  · have s0 := hh.g.size
    refine .inr ⟨l, g, cv, n, F', h1, h2, h3, h4, ⟨h6, fun x hx => ?_, hh.g.next h8 fun x hx e => by have := (hh.hF x e).1; omega⟩, h5, h8⟩
    obtain ⟨e, hn⟩ := h5 x hx
    rcases e with e | e
    · exact ⟨(hh.hF x e).1, by omega⟩
    · exact ⟨by omega, by omega⟩
theorem HL.redo (hh : HL w0 F W b ks h) (hop : h.op = false) (hl1 : h.us.length ≤ 65536) (hl2 : h.rs.length ≤ 65536) (hb : ∀ g ∈ h.rs, mDops g.d ≤ 1099511627776) :
    callK Tryz.prog 21 [.pointer (some ⟨b, 0, none⟩)] (fun v' w' => (h.rs = [] ∧ ∃ cv, v' = .tuple #[cv, .int .i64 10] ∧ Grow W w') ∨
      ∃ l g cv n F', h.rs = l ++ [g] ∧ v' = .tuple #[cv, .int .i64 0] ∧ W.heap.size ≤ n ∧ ODops n w' cv g.d ∧ HL w0 F' w' b ks { h with us := h.us ++ [g], rs := l } ∧ (∀ x, F' x → (F x ∨ W.heap.size ≤ x) ∧ x < n) ∧ Mod F W w') W := by
  refine callK_mono (redo_ok hh.his hop hl1 hl2 (fun x hx => (hh.hF x hx).2) hb) ?_
  rintro v w' (h1 | ⟨l, g, cv, n, h1, h2, h3, h4, F', h5, h6, h7, h8⟩)
  · exact .inl h1
  · have s0 := hh.g.size
    refine .inr ⟨l, g, cv, n, F', h1, h2, h3, h4, ⟨h6, fun x hx => ?_, hh.g.next h8 fun x hx e => by have := (hh.hF x e).1; omega⟩, h5, h8⟩
    obtain ⟨e, hn⟩ := h5 x hx
    rcases e with e | e
    · exact ⟨(hh.hF x e).1, by omega⟩
    · exact ⟨by omega, by omega⟩
end
end Go.Proofs.YtlbaopamhkmepaaGreatDoor

namespace Go.K
open Go
/-- a new row of one element -/
theorem OwnR.row1 {α : Type} {B e k : Nat} {R : World → List Value → α → Prop} {w : World} {cs : List Value} {x : α} (hB : B ≤ w.heap.size) (hcs : cs.length = k) (h1 : ∀ u ∈ cs, u.oneCell' = true) (hx : R (w.alloc (.cells cs.toArray e)) cs x) :
    OwnR B e k R (w.alloc (.cells cs.toArray e)) (.slice (some ⟨w.heap.size, 0, none⟩) 1 1) [x] := by
  refine ⟨[cs], ⟨by simp [hcs], .inr ⟨w.heap.size, 1, cs.toArray, rfl, hB, heap_alloc_new w _, by simp, by simp [maxLen], by simp [hcs], by simp [← hcs]⟩⟩, rfl, fun r hr => ?_, fun i r y hr hy => ?_⟩
  · simp only [List.mem_singleton] at hr
    subst hr
    exact ⟨hcs, h1⟩
  · have hi : i = 0 := by have := (List.getElem?_eq_some_iff.1 hr).1; simp at this; exact this
    subst hi
    cases hr; cases hy
    exact hx
end Go.K
namespace Go.Proofs.YtlbaopamhkmepaaGreatDoor
open Go Go.K

def insO (r : Int) : Dop := ⟨2, 0, [r], [], []⟩
def delO (n : Int) : Dop := ⟨3, n, [], [], []⟩
/-- an insert of one rune, and what takes it away -/
theorem in_ok {r : Int} {w : World} : callK Tryz.prog 17 [.int .i32 r] (fun v' w' => Grow w w' ∧ ∃ dv uv, v' = .tuple #[dv, uv] ∧ ODops w.heap.size w' dv [insO r] ∧ ODops w.heap.size w' uv [delO 1] ∧ (∀ g, uv.ownBlock = some g → dv.ownBlock ≠ some g ∧ (∀ x, w.heap.size ≤ x → x < w'.heap.size → x = g ∨ x < g))) w := by
  apply S17_ok
  unfold S17
  refine rowK_i (cs := [.int .i32 r]) (by kernel_rfl) ?_
  have g1 : Grow w (w.alloc (.cells [Value.int .i32 r].toArray 21)) := Mod.alloc _ _ _
  have o1 : OwnR w.heap.size 21 1 RRune (w.alloc (.cells [Value.int .i32 r].toArray 21)) (.slice (some ⟨w.heap.size, 0, none⟩) 1 1) [r] := OwnR.row1 (Nat.le_refl _) rfl (fun u hu => by simp at hu; subst hu; rfl) rfl
  have z1 : (w.alloc (.cells [Value.int .i32 r].toArray 21)).heap.size = w.heap.size + 1 := by simp
  generalize w.alloc (.cells [Value.int .i32 r].toArray 21) = w1 at g1 o1 z1 ⊢
  refine ⟨#[.int .u8 2, .int .i64 0, .slice (some ⟨w.heap.size, 0, none⟩) 1 1, .slice none 0 0, .slice none 0 0], by kernel_rfl, ?_⟩
  refine rowK_i (cs := [.int .u8 2, .int .i64 0, .slice (some ⟨w.heap.size, 0, none⟩) 1 1, .slice none 0 0, .slice none 0 0]) (by kernel_rfl) ?_
  have g2 : Grow w1 (w1.alloc (.cells [Value.int .u8 2, .int .i64 0, .slice (some ⟨w.heap.size, 0, none⟩) 1 1, .slice none 0 0, .slice none 0 0].toArray 39)) := Mod.alloc _ _ _
  have o2 : ODops w.heap.size (w1.alloc (.cells [Value.int .u8 2, .int .i64 0, .slice (some ⟨w.heap.size, 0, none⟩) 1 1, .slice none 0 0, .slice none 0 0].toArray 39)) (.slice (some ⟨w1.heap.size, 0, none⟩) 1 1) [insO r] := by
    refine OwnR.row1 (by omega) rfl (fun u hu => by simp at hu; rcases hu with rfl | rfl | rfl | rfl <;> rfl) ⟨_, _, _, rfl, ⟨OwnR.mod (o1.base fun _ _ => Nat.zero_le _) g2 (fun _ _ h => h) fun _ _ _ h => h, fun g hg => ?_⟩, ⟨OwnR.nil, fun g hg => nomatch hg⟩, ⟨OwnR.nil, fun g hg => nomatch hg⟩⟩
    have e : w.heap.size = g := Option.some.inj hg
    exact ⟨by omega, fun e2 => by have e3 : w1.heap.size = g := Option.some.inj e2; omega⟩
  have z2 : (w1.alloc (.cells [Value.int .u8 2, .int .i64 0, .slice (some ⟨w.heap.size, 0, none⟩) 1 1, .slice none 0 0, .slice none 0 0].toArray 39)).heap.size = w1.heap.size + 1 := by simp
  generalize w1.alloc (.cells [Value.int .u8 2, .int .i64 0, .slice (some ⟨w.heap.size, 0, none⟩) 1 1, .slice none 0 0, .slice none 0 0].toArray 39) = w2 at g2 o2 z2 ⊢
  refine ⟨#[.int .u8 3, .int .i64 1, .slice none 0 0, .slice none 0 0, .slice none 0 0], by kernel_rfl, ?_⟩
  refine rowK_i (cs := [.int .u8 3, .int .i64 1, .slice none 0 0, .slice none 0 0, .slice none 0 0]) (by kernel_rfl) ?_
  have g3 : Grow w2 (w2.alloc (.cells [Value.int .u8 3, .int .i64 1, .slice none 0 0, .slice none 0 0, .slice none 0 0].toArray 39)) := Mod.alloc _ _ _
  refine ⟨(g1.trans g2).trans g3, _, _, rfl, ODops.grow o2 g3 fun _ _ _ h => h, ?_, fun g hg => ?_⟩
  · exact OwnR.row1 (by omega) rfl (fun u hu => by simp at hu; rcases hu with rfl | rfl | rfl <;> rfl) ⟨_, _, _, rfl, ⟨OwnR.nil, fun g hg => nomatch hg⟩, ⟨OwnR.nil, fun g hg => nomatch hg⟩, ⟨OwnR.nil, fun g hg => nomatch hg⟩⟩
  · have e : w2.heap.size = g := Option.some.inj hg
    refine ⟨fun e2 => by have e3 : w1.heap.size = g := Option.some.inj e2; omega, fun x _ hx => ?_⟩
    have : (w2.alloc (.cells [Value.int .u8 3, .int .i64 1, .slice none 0 0, .slice none 0 0, .slice none 0 0].toArray 39)).heap.size = w2.heap.size + 1 := by simp
    omega
/-- what was told and stays: it lies between lo and hi, the history does not -/
structure HK (F : Nat → Prop) (W : World) (lo hi : Nat) (v : Value) (l : List Dop) : Prop where
  rd : RDops (fun z => lo ≤ z ∧ z < hi) (fun z => lo ≤ z ∧ z < hi) W v l
  sz : hi ≤ W.heap.size
  ap : ∀ x, F x → x < lo ∨ hi ≤ x
theorem HK.next {F F' : Nat → Prop} {W W' : World} {lo hi : Nat} {v : Value} {l : List Dop} (h : HK F W lo hi v l) (hm : Mod F W W') (hF : ∀ x, F' x → F x ∨ W.heap.size ≤ x) : HK F' W' lo hi v l := by
  have hn : ∀ b, b < W.heap.size → (lo ≤ b ∧ b < hi) → ¬ F b := fun b _ hb hf => by rcases h.ap b hf with e | e <;> omega
  refine ⟨h.rd.mod hm hn hn, Nat.le_trans h.sz hm.size, fun x hx => ?_⟩
  rcases hF x hx with e | e
  · exact h.ap x e
  · have := h.sz; exact .inr (by omega)
theorem HK.grow {F : Nat → Prop} {W W' : World} {lo hi : Nat} {v : Value} {l : List Dop} (h : HK F W lo hi v l) (g : Grow W W') : HK F W' lo hi v l := ⟨h.rd.grow g, Nat.le_trans h.sz g.size, h.ap⟩
theorem HK.new {F : Nat → Prop} {W : World} {n : Nat} {v : Value} {l : List Dop} (h : ODops n W v l) (hF : ∀ x, F x → x < n ∨ W.heap.size ≤ x) : HK F W n W.heap.size v l := ⟨ODops.reads h, Nat.le_refl _, hF⟩
theorem mins (r : Int) : mDops [insO r] ≤ 1099511627776 := by simp [mDops, mDop, insO, mSet, mPat]
theorem mdel (n : Int) : mDops [delO n] ≤ 1099511627776 := by simp [mDops, mDop, delO, mSet, mPat]
def gin (r n : Int) : Grp := ⟨[insO r], [delO n]⟩
end Go.Proofs.YtlbaopamhkmepaaGreatDoor

namespace Go.Proofs.YtlbaopamhkmepaaGreatDoor
open Go Go.K

theorem newnil_ok {w : World} : callK Tryz.prog 14 [.slice none 0 0] (fun v' w' => Grow w w' ∧ ∃ sv, v' = .tuple #[sv, .int .i64 0] ∧ SchR (fun x => w.heap.size ≤ x) w' sv []) w := by
  refine callK_mono (new_key_ok (S := fun _ => False) (keys := []) SlR.nil) ?_
  rintro v w' ⟨g, hr⟩
  refine ⟨g, ?_⟩
  rcases hr with ⟨_, sv, ks, rfl, hp, _, hS⟩ | ⟨hn, _⟩
  · have : ks = [] := List.perm_nil.1 hp
    subst this
    exact ⟨sv, rfl, hS⟩
  · exact absurd ((mayk_iff (keys := [])).2 ⟨by simp, (fun x hx => by simp at hx), List.Pairwise.nil⟩) hn
theorem HL.new {w0 W : World} {C : Nat → Prop} {sv : Value} {ks : List DKey} {mx : Nat} (hS : SchR C W sv ks) (hC : ∀ x, x < W.heap.size → C x → w0.heap.size ≤ x) (g : Grow w0 W) (hmx : mx ≤ 65536) :
    callK Tryz.prog 15 [sv, .int .i64 mx] (fun v' w' => ∃ b F, v' = .tuple #[.pointer (some ⟨b, 0, none⟩), .int .i64 0] ∧ HL w0 F w' b ks ⟨mx, [], [], false, []⟩) W := by
  refine callK_mono (hnew_ok hS hmx) ?_
  rintro _ w' ⟨g', b, hb, rfl, hH⟩
  have := g.size
  have := g'.size
  exact ⟨b, _, rfl, hH, fun x hx => by rcases hx with ⟨h1, h2⟩ | ⟨h1, h2⟩; exact ⟨hC x h2 h1, by omega⟩; exact ⟨by omega, h2⟩, g.trans g'⟩
theorem concat_inj {α : Type} {l l' : List α} {g g' : α} (h : l ++ [g] = l' ++ [g']) : l = l' ∧ g = g' := by
  have := List.append_inj' h rfl
  exact ⟨this.1, by simpa using this.2⟩
/-- the three groups of the known case -/
def kus : Nat → List Grp
  | 0 => []
  | 1 => [gin 97 1]
  | 2 => [gin 97 1, gin 98 1]
  | _ => [gin 98 1, gin 99 1]
set_option maxRecDepth 20000 in
theorem known27_ok {w : World} : callK Tryz.prog 16 [] (fun v w' => v = .bool true ∧ Grow w w') w := by
  apply S16_ok
  unfold S16
  refine callK_mono newnil_ok ?_
  rintro _ w1 ⟨g1, sv, rfl, hS⟩
  refine extK_i (vs := [_, _]) (by rfl) (extK_i (vs := [_, _]) (by rfl) ?_)
  refine callK_mono (HL.new (mx := 2) hS (fun x _ hx => hx) g1 (by decide)) ?_
  rintro _ w2 ⟨b, F, rfl, hH⟩
  refine extK_i (vs := [_, _]) (by rfl) (extK_i (vs := [_, _]) (by rfl) ?_)
  refine JoinK_i (fun _ W => W = w2) ?_ ?_
  rotate_left
  · rw [neK_i]
    refine condK_neg (fun _ => ?_) fun e => (e rfl).elim
    rw [neK_i]
    refine condK_neg (fun _ => ?_) fun e => (e rfl).elim
    exact pnilK_s (condK_f rfl)
  rintro _ _ rfl _
  rename World => w2
  refine runK_i (v := .agg #[.int .i32 97, .int .i32 98, .int .i32 99]) (w' := w2) (by kernel_rfl) ?_
  refine LoopK_i (fun vs W => ∃ (i : Nat) (F : Nat → Prop), i ≤ 3 ∧ vs = [.int .i64 i] ∧ HL w F W b [] ⟨2, kus i, [], false, []⟩) (fun vs _ => 3 - iOf vs 0) ⟨0, F, by omega, rfl, hH⟩ ?_
  rintro vs W ⟨i, F, hi, rfl, hH⟩ _
  rw [nth_z, List.headD_cons, ltK_i]
  refine condK_p (fun hlt => ?_) fun hge => ?_
  · have step : ∀ (r : Int), keepL 2 (kus i) (gin r 1) = kus (i + 1) → (kus i).length ≤ 2 → (Instr.index 93 (.agg #[.int .i32 97, .int .i32 98, .int .i32 99]) (.int .i64 i)).run Tryz.prog W = .ok (.int .i32 r) W →
        runK Tryz.prog (Instr.index 93 (.agg #[.int .i32 97, .int .i32 98, .int .i32 99]) (.int .i64 i)) (fun t43 w6 => callK Tryz.prog 17 [t43] (fun t46 w7 => extK 0 t46 fun t47 => extK 1 t46 fun t48 => callK Tryz.prog 18 [.pointer (some ⟨b, 0, none⟩), t47, t48] (fun t52 w8 => neK .i64 t52 (.int .i64 0) fun t53 => condK t53 ((.bool false : Value) = .bool true ∧ Grow w w8) (addK .i64 (.int .i64 i) (.int .i64 1) fun t54 => (∃ (i : Nat) (F : Nat → Prop), i ≤ 3 ∧ [t54] = [.int .i64 (i : Int)] ∧ HL w F w8 b [] ⟨2, kus i, [], false, []⟩) ∧ 3 - iOf [t54] 0 < 3 - iOf [.int .i64 (i : Int)] 0)) w7) w6) W := by
      intro r hk hl hrun
      refine runK_i hrun (callK_mono in_ok ?_)
      rintro _ w7 ⟨g7, dv, uv, rfl, hd, hu, _⟩
      refine extK_i (vs := [_, _]) (by rfl) (extK_i (vs := [_, _]) (by rfl) ?_)
      refine callK_mono ((hH.grow g7).push rfl hl (show 2 ≤ 65536 by decide) (ODops.sl hd) (ODops.sl hu) (mins r) (mdel 1)) ?_
      rintro _ w8 ⟨rfl, F8, hH8, _, _⟩
      have hH8' : HL w F8 w8 b [] ⟨2, kus (i + 1), [], false, []⟩ := by rw [← hk]; exact hH8
      rw [neK_i]
      refine condK_neg (fun _ => ?_) fun e => (e rfl).elim
      rw [addK_i, loop_step (by omega)]
      exact ⟨⟨i + 1, F8, by omega, rfl, hH8'⟩, by rw [iOf0, iOf0]; omega⟩
    rcases (show i = 0 ∨ i = 1 ∨ i = 2 by omega) with rfl | rfl | rfl
    · exact step 97 rfl (by decide) (by kernel_rfl)
    · exact step 98 rfl (by decide) (by kernel_rfl)
    · exact step 99 rfl (by decide) (by kernel_rfl)
  obtain rfl : i = 3 := by omega
  have b8 : ∀ (us : List Grp), (∀ g ∈ us, g = gin 97 1 ∨ g = gin 98 1 ∨ g = gin 99 1) → (∀ g ∈ us, mDops g.u ≤ 1099511627776) ∧ ∀ g ∈ us, mDops g.d ≤ 1099511627776 := fun us h => ⟨fun g hg => by rcases h g hg with rfl | rfl | rfl <;> exact mdel 1, fun g hg => by rcases h g hg with rfl | rfl | rfl <;> exact mins _⟩
  -- undone: c
  refine callK_mono (hH.undo rfl (by simp [kus]) (by simp) (b8 _ (by simp [kus])).1) ?_
  rintro _ w9 (⟨hn, _⟩ | ⟨l, g, cx, n9, F9, hlg, rfl, hn9, ox, hH9, hF9, m9⟩)
  · cases hn
  obtain ⟨rfl, rfl⟩ := concat_inj (l := [gin 98 1]) (g := gin 99 1) hlg
  have kx : HK F9 w9 n9 w9.heap.size cx [delO 1] := HK.new ox fun x hx => .inl (hF9 x hx).2
  have hH9' : HL w F9 w9 b [] ⟨2, [gin 98 1], [gin 99 1], false, []⟩ := hH9
  refine extK_i (vs := [_, _]) (by rfl) (extK_i (vs := [_, _]) (by rfl) ?_)
  -- undone: b
  refine callK_mono (hH9'.undo rfl (by simp) (by simp) (b8 _ (by simp)).1) ?_
  rintro _ w10 (⟨hn, _⟩ | ⟨l, g, c10, n10, F10, hlg, rfl, hn10, _, hH10, hF10, m10⟩)
  · cases hn
  obtain ⟨rfl, rfl⟩ := concat_inj (l := []) (g := gin 98 1) hlg
  have kx10 := kx.next m10 fun x hx => (hF10 x hx).1
  have hH10' : HL w F10 w10 b [] ⟨2, [], [gin 99 1, gin 98 1], false, []⟩ := hH10
  refine extK_i (vs := [_, _]) (by rfl) (extK_i (vs := [_, _]) (by rfl) ?_)
  -- no more
  refine callK_mono (hH10'.undo rfl (by simp) (by simp) (by simp)) ?_
  rintro _ w11 (⟨_, c11, rfl, g11⟩ | ⟨l, g, _, _, _, hlg, _⟩)
  rotate_left
  · exact absurd hlg (by simp)
  refine extK_i (vs := [_, _]) (by rfl) (extK_i (vs := [_, _]) (by rfl) ?_)
  have hH11 := hH10'.grow g11
  have kx11 := kx10.grow g11
  -- done again: b
  refine callK_mono (hH11.redo rfl (by simp) (by simp) (b8 _ (by simp)).2) ?_
  rintro _ w12 (⟨hn, _⟩ | ⟨l, g, cy, n12, F12, hlg, rfl, hn12, oy, hH12, hF12, m12⟩)
  · cases hn
  obtain ⟨rfl, rfl⟩ := concat_inj (l := [gin 99 1]) (g := gin 98 1) hlg
  have hH12' : HL w F12 w12 b [] ⟨2, [gin 98 1], [gin 99 1], false, []⟩ := hH12
  have kx12 := kx11.next m12 fun x hx => (hF12 x hx).1
  have ky : HK F12 w12 n12 w12.heap.size cy [insO 98] := HK.new oy fun x hx => .inl (hF12 x hx).2
  refine extK_i (vs := [_, _]) (by rfl) (extK_i (vs := [_, _]) (by rfl) ?_)
  refine callK_mono in_ok ?_
  rintro _ w13 ⟨g13, dv, uv, rfl, hd, hu, _⟩
  refine extK_i (vs := [_, _]) (by rfl) (extK_i (vs := [_, _]) (by rfl) ?_)
  have hH13 := hH12'.grow g13
  refine callK_mono (depths_ok hH13.his) ?_
  rintro _ w14 ⟨rfl, g14⟩
  refine extK_i (vs := [_, _]) (by rfl) (extK_i (vs := [_, _]) (by rfl) ?_)
  have hH14 := hH13.grow g14
  rw [eqK_i]; refine condK_p (fun _ => ?_) fun e => (e rfl).elim
  rw [eqK_i]; refine condK_p (fun _ => ?_) fun e => (e rfl).elim
  rw [eqK_i]; refine condK_p (fun _ => ?_) fun e => (e rfl).elim
  rw [eqK_i]; refine condK_p (fun _ => ?_) fun e => (e rfl).elim
  have g24 := g13.trans g14
  refine callK_mono (rsame_dops (kx12.grow g24).rd (ODops.sl (ODops.grow hu g14 fun _ _ _ h => h))) ?_
  rintro _ w15 ⟨rfl, g15⟩
  rw [decide_eq_true rfl]
  refine condK_t ?_
  refine callK_mono (rsame_dops (ky.grow (g24.trans g15)).rd (ODops.sl (ODops.grow hd (g14.trans g15) fun _ _ _ h => h))) ?_
  rintro _ w16 ⟨rfl, g16⟩
  rw [decide_eq_true rfl]
  refine condK_t ?_
  rw [eqK_i]; refine condK_p (fun _ => ?_) fun e => (e rfl).elim
  rw [eqK_i]; refine condK_p (fun _ => ?_) fun e => (e rfl).elim
  have g46 := (g14.trans g15).trans g16
  have hH16 := (hH14.grow g15).grow g16
  refine callK_mono (hH16.push rfl (by simp) (by simp) (ODops.sl (ODops.grow hd g46 fun _ _ _ h => h)) (ODops.sl (ODops.grow hu g46 fun _ _ _ h => h)) (mins 98) (mdel 1)) ?_
  rintro _ w17 ⟨rfl, F17, hH17, _, _⟩
  rw [eqK_i]; refine condK_p (fun _ => ?_) fun e => (e rfl).elim
  refine callK_mono (begin_ok hH17.his) ?_
  rintro _ w18 (⟨h1, _⟩ | ⟨_, rfl, ha⟩)
  · cases h1
  obtain ⟨F18, hH18, _, _⟩ := hH17.after ha
  rw [eqK_i]; refine condK_p (fun _ => ?_) fun e => (e rfl).elim
  refine callK_mono (begin_ok hH18.his) ?_
  rintro _ w19 (⟨_, rfl, rfl⟩ | ⟨h1, _⟩)
  rotate_left
  · cases h1
  rw [eqK_i]; refine condK_p (fun _ => ?_) fun e => (e rfl).elim
  refine callK_mono (open_ok hH18.his) ?_
  rintro _ _ ⟨rfl, rfl⟩
  exact ⟨rfl, hH18.g⟩
end Go.Proofs.YtlbaopamhkmepaaGreatDoor

namespace Go.Proofs.YtlbaopamhkmepaaGreatDoor
open Go Go.K

theorem gin_small (r n : Int) : mDops (gin r n).u ≤ 1099511627776 ∧ mDops (gin r n).d ≤ 1099511627776 := ⟨mdel n, mins r⟩
theorem rep_small {i : Nat} {r n : Int} : (∀ g ∈ List.replicate i (gin r n), mDops g.u ≤ 1099511627776) ∧ ∀ g ∈ List.replicate i (gin r n), mDops g.d ≤ 1099511627776 :=
  ⟨fun g hg => by rw [(List.mem_replicate.1 hg).2]; exact (gin_small r n).1, fun g hg => by rw [(List.mem_replicate.1 hg).2]; exact (gin_small r n).2⟩
theorem rep_end {α : Type} {x : α} {i : Nat} {l : List α} {g : α} (h : List.replicate i x = l ++ [g]) : ∃ j, i = j + 1 ∧ l = List.replicate j x ∧ g = x := by
  cases i with
  | zero => simp at h
  | succ j =>
    rw [List.replicate_succ'] at h
    obtain ⟨h1, h2⟩ := concat_inj h
    exact ⟨j, rfl, h1.symm, h2.symm⟩
theorem keep_rep {mx i : Nat} {g : Grp} (h : i ≤ mx) : keepL mx (List.replicate i g) g = List.replicate (min (i + 1) mx) g := by
  unfold keepL
  rw [List.length_replicate, ← List.replicate_succ']
  split
  · rw [Nat.min_eq_left (by omega)]
  · rw [List.drop_replicate, Nat.min_eq_right (by omega)]
    congr 1; omega
set_option maxRecDepth 20000 in
theorem HistoryEmpties_ok {n back : Int} {w : World} :
    callK Tryz.prog 4 [.int .i64 n, .int .i64 back] (fun v w' => v = .bool true ∧ Grow w w') w := by
  apply S4_ok
  unfold S4
  have kn : ∀ {w1 : World}, Grow w w1 → callK Tryz.prog 16 [] (fun v w' => v = .bool true ∧ Grow w w') w1 := fun g => callK_mono known27_ok fun _ _ h => ⟨h.1, g.trans h.2⟩
  refine JoinK_i (fun _ W => W = w ∧ 1 ≤ n ∧ n ≤ 20 ∧ 1 ≤ back ∧ back ≤ n) ?_ ?_
  rotate_left
  · rw [ltK_i]
    refine condK_p (fun _ => kn (Mod.refl _ _)) fun h1 => ?_
    rw [gtK_i]
    refine condK_p (fun _ => kn (Mod.refl _ _)) fun h2 => ?_
    rw [ltK_i]
    refine condK_p (fun _ => kn (Mod.refl _ _)) fun h3 => ?_
    rw [gtK_i]
    exact condK_p (fun _ => kn (Mod.refl _ _)) fun h4 => ⟨rfl, by omega, by omega, by omega, by omega⟩
  rintro _ _ ⟨rfl, hn1, hn2, hb1, hb2⟩ _
  rename World => w
  obtain ⟨n, rfl⟩ : ∃ m : Nat, n = m := ⟨n.toNat, by omega⟩
  obtain ⟨back, rfl⟩ : ∃ m : Nat, back = m := ⟨back.toNat, by omega⟩
  refine callK_mono newnil_ok ?_
  rintro _ w1 ⟨g1, sv, rfl, hS⟩
  refine extK_i (vs := [_, _]) (by rfl) (extK_i (vs := [_, _]) (by rfl) ?_)
  refine callK_mono (HL.new (mx := 20) hS (fun x _ hx => hx) g1 (by decide)) ?_
  rintro _ w2 ⟨b, F, rfl, hH⟩
  refine extK_i (vs := [_, _]) (by rfl) (extK_i (vs := [_, _]) (by rfl) ?_)
  refine JoinK_i (fun _ W => W = w2) ?_ ?_
  rotate_left
  · rw [neK_i]
    refine condK_neg (fun _ => ?_) fun e => (e rfl).elim
    rw [neK_i]
    refine condK_neg (fun _ => ?_) fun e => (e rfl).elim
    exact pnilK_s (condK_f rfl)
  rintro _ _ rfl _
  rename World => w2
  refine callK_mono in_ok ?_
  rintro _ w3 ⟨g3, dv, uv, rfl, hd, hu, _⟩
  refine extK_i (vs := [_, _]) (by rfl) (extK_i (vs := [_, _]) (by rfl) ?_)
  have hH3 := hH.grow g3
  have lt3 := hH.hF
  have kd : HK F w3 w2.heap.size w3.heap.size dv [insO 120] := HK.new hd fun x hx => .inl (lt3 x hx).2
  have ku : HK F w3 w2.heap.size w3.heap.size uv [delO 1] := HK.new hu fun x hx => .inl (lt3 x hx).2
  refine LoopK_i (fun vs W => ∃ (i : Nat) (F : Nat → Prop), i ≤ n ∧ vs = [.int .i64 i] ∧ HL w F W b [] ⟨20, List.replicate i (gin 120 1), [], false, []⟩ ∧ HK F W w2.heap.size w3.heap.size dv [insO 120] ∧ HK F W w2.heap.size w3.heap.size uv [delO 1]) (fun vs _ => n - iOf vs 0) ⟨0, F, by omega, rfl, hH3, kd, ku⟩ ?_
  rintro vs W ⟨i, F, hi, rfl, hH, kd, ku⟩ _
  rw [nth_z, List.headD_cons, ltK_i]
  refine condK_p (fun hlt => ?_) fun hge => ?_
  · refine callK_mono (hH.push rfl (by simp only [List.length_replicate]; omega) (show 20 ≤ 65536 by decide) kd.rd ku.rd (mins 120) (mdel 1)) ?_
    rintro _ w8 ⟨rfl, F8, hH8, hF8, m8⟩
    rw [neK_i]
    refine condK_neg (fun _ => ?_) fun e => (e rfl).elim
    rw [addK_i, loop_step (by omega)]
    refine ⟨⟨i + 1, F8, by omega, rfl, ?_, kd.next m8 hF8, ku.next m8 hF8⟩, by rw [iOf0, iOf0]; omega⟩
    have e : keepL 20 (List.replicate i (gin 120 1)) (gin 120 1) = List.replicate (i + 1) (gin 120 1) := by rw [keep_rep (by omega), Nat.min_eq_left (by omega)]
    rw [← e]
    exact hH8
  obtain rfl : i = n := by omega
  clear hH3 lt3 hge hi
  rename_i hHo kdo kuo
  refine LoopK_i (fun vs W => ∃ (j : Nat) (F : Nat → Prop), j ≤ back ∧ vs = [.int .i64 j] ∧ HL w F W b [] ⟨20, List.replicate (i - j) (gin 120 1), List.replicate j (gin 120 1), false, []⟩ ∧ HK F W w2.heap.size w3.heap.size dv [insO 120] ∧ HK F W w2.heap.size w3.heap.size uv [delO 1]) (fun vs _ => back - iOf vs 0) ⟨0, F, by omega, rfl, hH, kd, ku⟩ ?_
  clear hH kd ku
  rintro vs W ⟨j, F, hj, rfl, hH, kd, ku⟩ _
  rw [nth_z, List.headD_cons, ltK_i]
  refine condK_p (fun hlt => ?_) fun hge => ?_
  · refine callK_mono (hH.undo rfl (by simp only [List.length_replicate]; omega) (by simp only [List.length_replicate]; omega) rep_small.1) ?_
    rintro _ w9 (⟨hn, _⟩ | ⟨l, g, cx, n9, F9, hlg, rfl, hn9, ox, hH9, hF9, m9⟩)
    · have hn' := congrArg List.length hn
      simp only [List.length_replicate, List.length_nil] at hn'
      omega
    obtain ⟨q, hq, rfl, rfl⟩ := rep_end hlg
    refine extK_i (vs := [_, _]) (by rfl) (extK_i (vs := [_, _]) (by rfl) ?_)
    rw [neK_i]
    refine condK_neg (fun _ => ?_) fun e => (e rfl).elim
    rw [addK_i, loop_step (by omega)]
    refine ⟨⟨j + 1, F9, by omega, rfl, ?_, kd.next m9 fun x hx => (hF9 x hx).1, ku.next m9 fun x hx => (hF9 x hx).1⟩, by rw [iOf0, iOf0]; omega⟩
    have e1 : i - (j + 1) = q := by omega
    rw [e1, List.replicate_succ' (n := j)]
    exact hH9
  obtain rfl : j = back := by omega
  refine callK_mono (hH.redo rfl (by simp only [List.length_replicate]; omega) (by simp only [List.length_replicate]; omega) rep_small.2) ?_
  rintro _ w10 (⟨hn, _⟩ | ⟨l, g, cx, n9, F10, hlg, rfl, hn9, ox, hH10, hF10, m10⟩)
  · have hn' := congrArg List.length hn
    simp only [List.length_replicate, List.length_nil] at hn'
    omega
  obtain ⟨q, rfl, rfl, rfl⟩ := rep_end hlg
  have hH10' : HL w F10 w10 b [] ⟨20, List.replicate (i - (q + 1) + 1) (gin 120 1), List.replicate q (gin 120 1), false, []⟩ := by
    rw [List.replicate_succ' (n := i - (q + 1))]; exact hH10
  have kd10 := kd.next m10 fun x hx => (hF10 x hx).1
  have ku10 := ku.next m10 fun x hx => (hF10 x hx).1
  refine extK_i (vs := [_, _]) (by rfl) (extK_i (vs := [_, _]) (by rfl) ?_)
  rw [neK_i]
  refine condK_neg (fun _ => ?_) fun e => (e rfl).elim
  refine JoinK_i (fun _ W => Grow w10 W) ?_ ?_
  rotate_left
  · refine callK_mono (depths_ok hH10'.his) ?_
    rintro _ w11 ⟨rfl, g11⟩
    refine extK_i (vs := [_, _]) (by rfl) (extK_i (vs := [_, _]) (by rfl) ?_)
    rw [subK_i, wrap64 (by omega) (by omega), addK_i, wrap64 (by omega) (by omega), neK_i]
    refine condK_neg (fun _ => ?_) fun e => (e (by simp only [List.length_replicate]; omega)).elim
    rw [subK_i, neK_i, wrap64 (by omega) (by omega)]
    exact condK_neg (fun _ => g11) fun e => (e (by simp only [List.length_replicate]; omega)).elim
  rintro _ w11 g11 _
  refine callK_mono ((hH10'.grow g11).push rfl (by simp only [List.length_replicate]; omega) (show 20 ≤ 65536 by decide) (kd10.grow g11).rd (ku10.grow g11).rd (mins 120) (mdel 1)) ?_
  rintro _ w12 ⟨rfl, F12, hH12, _, _⟩
  have hH12' : HL w F12 w12 b [] ⟨20, List.replicate (min (i - (q + 1) + 1 + 1) 20) (gin 120 1), [], false, []⟩ := by
    rw [← keep_rep (by omega)]; exact hH12
  rw [neK_i]
  refine condK_neg (fun _ => ?_) fun e => (e rfl).elim
  refine callK_mono (hH12'.redo rfl (by simp only [List.length_replicate]; omega) (by simp) (by simp)) ?_
  rintro _ w13 (⟨_, c13, rfl, g13⟩ | ⟨l, g, _, _, _, hlg, _⟩)
  rotate_left
  · exact absurd hlg (by simp)
  refine extK_i (vs := [_, _]) (by rfl) (extK_i (vs := [_, _]) (by rfl) ?_)
  have hH13 := hH12'.grow g13
  refine callK_mono (depths_ok hH13.his) ?_
  rintro _ w14 ⟨rfl, g14⟩
  refine extK_i (vs := [_, _]) (by rfl) (extK_i (vs := [_, _]) (by rfl) ?_)
  rw [eqK_i]
  refine condK_p (fun _ => ?_) fun e => (e rfl).elim
  rw [subK_i, wrap64 (by omega) (by omega), addK_i, wrap64 (by omega) (by omega), minK_i, eqK_i]
  refine condK_p (fun _ => ?_) fun e => (e ?_).elim
  rotate_left
  · simp only [List.length_replicate]; split <;> omega
  rw [eqK_i]
  refine condK_p (fun _ => ?_) fun e => (e rfl).elim
  exact kn (hH13.grow g14).g
end Go.Proofs.YtlbaopamhkmepaaGreatDoor

namespace Go.K
open Go
variable {H : Type} {enc : TypeId × Value → H} {P : Program} {w : World} {base : Nat} {spare : Nat → Bool} {held : Bool}
theorem SlR.of_trod {α : Type} {t e k : Nat} {R : World → List Value → α → Prop} {fuel : Nat} {cs : List Value} {x : DataW H × List MemPlace} (ht : P.underlying t = some (.slice e)) (hk : P.cellsOf e = k)
    (hel : ∀ n cs' y, DataW.trod enc P w base spare held n e cs' = some y → ∃ x, R w cs' x) (h : DataW.trod enc P w base spare held fuel t cs = some x) :
    ∃ v l, cs = [v] ∧ SlR (fun _ => True) k R w v l := by
  rcases Go.Deep.open_slice ht h with ⟨rfl, _⟩ | ⟨a, len, cap, m, n, D, Pl, rfl, hb, hl, hm, hmm, _, hall⟩
  · exact ⟨_, [], rfl, SlR.nil⟩
  · have hlm : len ≤ m := by rw [hmm]; split <;> omega
    have one : ∀ i, i < len → ∃ (cs' : List Value) (x : α), cs'.length = k ∧ (∀ j u, cs'[j]? = some u → w.cell? (a.add (i * k + j)) = some u) ∧ R w cs' x := by
      intro i hi
      obtain ⟨cs', h1, h2⟩ := hall i (by omega)
      obtain ⟨x, hx⟩ := hel n cs' _ h2
      obtain ⟨_, hlen, hc⟩ := World.cells?_some h1
      rw [hk] at hlen hc
      refine ⟨cs', x, hlen, fun j u hu => ?_, hx⟩
      have hj : j < k := by rw [← hlen]; exact (List.getElem?_eq_some_iff.1 hu).1
      have := hc j hj
      rw [Addr.add_add] at this
      rw [this]; exact hu
    have build : ∀ q, q ≤ len → ∃ l : List α, l.length = q ∧ ∀ i x, l[i]? = some x → ∃ cs' : List Value, cs'.length = k ∧ (∀ j u, cs'[j]? = some u → w.cell? (a.add (i * k + j)) = some u) ∧ R w cs' x := by
      intro q
      induction q with
      | zero => exact fun _ => ⟨[], rfl, fun i x h => by simp at h⟩
      | succ q ih =>
        intro hq
        obtain ⟨l, h1, h2⟩ := ih (by omega)
        obtain ⟨cs', x, h3, h4, h5⟩ := one q (by omega)
        refine ⟨l ++ [x], by simp [h1], fun i y hy => ?_⟩
        by_cases hi : i < q
        · rw [List.getElem?_append_left (by omega)] at hy; exact h2 i y hy
        · have : i = q := by have := (List.getElem?_eq_some_iff.1 hy).1; simp [h1] at this; omega
          subst this
          rw [List.getElem?_append_right (by omega)] at hy
          simp [h1] at hy; subst hy
          exact ⟨cs', h3, h4, h5⟩
    obtain ⟨l, h1, h2⟩ := build len (Nat.le_refl _)
    subst h1
    refine ⟨_, l, rfl, a, cap, rfl, hl, hm, fun i x hx => ?_⟩
    obtain ⟨cs', h3, h4, h5⟩ := h2 i x hx
    exact ⟨a, cs', rfl, trivial, h3, h4, h5⟩
end Go.K
namespace Go.Proofs.YtlbaopamhkmepaaGreatDoor
open Go Go.K
open Go.ChangeShapes Go.Joins
variable {H : Type} {enc : TypeId × Value → H} {w : World} {base : Nat} {spare : Nat → Bool} {held : Bool}
theorem attr_of_trod {n : Nat} {cs : List Value} {y : DataW H × List MemPlace} (h : DataW.trod enc Tryz.prog w base spare held n 109 cs = some y) : ∃ x : Attr, cs = x.cells := by
  have c0 : Tryz.prog.cellsOf 109 = 5 := by kernel_rfl
  have c1 : Tryz.prog.cellsOf 3 = 1 := by kernel_rfl
  have c2 : Tryz.prog.cellsOf 107 = 4 := by kernel_rfl
  have c3 : Tryz.prog.cellsOf 5 = 1 := by kernel_rfl
  have c4 : Tryz.prog.cellsOf 2 = 1 := by kernel_rfl
  have c5 : Tryz.prog.cellsOf 34 = 1 := by kernel_rfl
  have c6 : Tryz.prog.cellsOf 9 = 1 := by kernel_rfl
  obtain ⟨y0, y1, m, _, hl, h0, h1⟩ := trod_struct2 Tryz.underlying109 h
  rw [c0] at hl
  simp only [c1, c2] at h0 h1
  match cs, hl with
  | [a0, a1, a2, a3, a4], _ =>
    simp only [List.drop_zero, List.take_succ_cons, List.take_zero, List.drop_succ_cons] at h0 h1
    obtain ⟨k, e0, _, _⟩ := DataW.trod_int Tryz.underlying3 h0
    obtain ⟨z0, z1, z2, z3, m', _, _, g0, g1, g2, g3⟩ := trod_struct4 Tryz.underlying107 h1
    simp only [c3, c4, c5, c6, List.drop_zero, List.take_succ_cons, List.take_zero, List.drop_succ_cons] at g0 g1 g2 g3
    obtain ⟨k0, f0, _, _⟩ := DataW.trod_int Tryz.underlying5 g0
    obtain ⟨k1, f1, _, _⟩ := DataW.trod_int Tryz.underlying2 g1
    obtain ⟨k2, f2, _, _⟩ := DataW.trod_int Tryz.underlying34 g2
    obtain ⟨k3, f3, _, _⟩ := DataW.trod_string Tryz.underlying9 g3
    cases e0; cases f0; cases f1; cases f2; cases f3
    exact ⟨⟨k, ⟨k0, k1, k2, k3⟩⟩, rfl⟩
theorem set_of_trod {n : Nat} {cs : List Value} {y : DataW H × List MemPlace} (h : DataW.trod enc Tryz.prog w base spare held n 36 cs = some y) : ∃ v l, cs = [v] ∧ RSet (fun _ => True) w v l :=
  SlR.of_trod Tryz.underlying36 (by kernel_rfl) (fun _ _ _ h => attr_of_trod h) h
theorem cel_of_trod {n : Nat} {cs : List Value} {y : DataW H × List MemPlace} (h : DataW.trod enc Tryz.prog w base spare held n 152 cs = some y) : ∃ x : Cel, RCel (fun _ => True) w cs x := by
  have c0 : Tryz.prog.cellsOf 152 = 2 := by kernel_rfl
  have c1 : Tryz.prog.cellsOf 21 = 1 := by kernel_rfl
  have c2 : Tryz.prog.cellsOf 36 = 1 := by kernel_rfl
  obtain ⟨y0, y1, m, _, hl, h0, h1⟩ := trod_struct2 Tryz.underlying152 h
  rw [c0] at hl
  simp only [c1, c2] at h0 h1
  match cs, hl with
  | [a0, a1], _ =>
    simp only [List.drop_zero, List.take_succ_cons, List.take_zero, List.drop_succ_cons] at h0 h1
    obtain ⟨k, e0, _, _⟩ := DataW.trod_int Tryz.underlying21 h0
    obtain ⟨v, l, e1, hs⟩ := set_of_trod h1
    cases e0; cases e1
    exact ⟨⟨k, l⟩, _, rfl, hs⟩
end Go.Proofs.YtlbaopamhkmepaaGreatDoor

namespace Go.Proofs.YtlbaopamhkmepaaGreatDoor
open Go Go.K
open Go.ChangeShapes Go.Joins
variable {H : Type} {enc : TypeId × Value → H} {w : World} {base : Nat} {spare : Nat → Bool} {held : Bool}
theorem len4 {α : Type} {l : List α} (h : l.length = 4) : ∃ a b c d, l = [a, b, c, d] := by
  match l, h with | [a, b, c, d], _ => exact ⟨a, b, c, d, rfl⟩
theorem len5 {α : Type} {l : List α} (h : l.length = 5) : ∃ a b c d e, l = [a, b, c, d, e] := by
  match l, h with | [a, b, c, d, e], _ => exact ⟨a, b, c, d, e, rfl⟩
theorem len6 {α : Type} {l : List α} (h : l.length = 6) : ∃ a b c d e f, l = [a, b, c, d, e, f] := by
  match l, h with | [a, b, c, d, e, f], _ => exact ⟨a, b, c, d, e, f, rfl⟩
theorem bulk_app (l m : List (DataW H)) : Rows.uptoBulkAll (l ++ m) = Rows.uptoBulkAll l + Rows.uptoBulkAll m := by
  induction l with
  | nil => simp [Rows.uptoBulkAll]
  | cons d l ih => simp only [List.cons_append, Rows.uptoBulkAll, ih]; omega
theorem SlR.of_trodU {α : Type} {t e k : Nat} {R : World → List Value → α → Prop} {μ : α → Nat} {fuel : Nat} {cs : List Value} {x : DataW H × List MemPlace} (ht : Tryz.prog.underlying t = some (.slice e)) (hk : Tryz.prog.cellsOf e = k)
    (hel : ∀ n cs' y, DataW.trod enc Tryz.prog w base spare held n e cs' = some y → ∃ x, R w cs' x ∧ μ x ≤ Rows.uptoBulk y.1) (h : DataW.trod enc Tryz.prog w base spare held fuel t cs = some x) :
    ∃ v l, cs = [v] ∧ SlR (fun _ => True) k R w v l ∧ (l.map μ).sum + 1 ≤ Rows.uptoBulk x.1 := by
  rcases Go.Deep.open_slice ht h with ⟨rfl, rfl⟩ | ⟨a, len, cap, m, n, D, Pl, rfl, hb, hl, hm, hmm, rfl, hall⟩
  · exact ⟨_, [], rfl, SlR.nil, by simp [Rows.uptoBulk]⟩
  · have hlm : len ≤ m := by rw [hmm]; split <;> omega
    have one : ∀ i, i < len → ∃ (cs' : List Value) (x : α), cs'.length = k ∧ (∀ j u, cs'[j]? = some u → w.cell? (a.add (i * k + j)) = some u) ∧ R w cs' x ∧ μ x ≤ Rows.uptoBulk (D i) := by
      intro i hi
      obtain ⟨cs', h1, h2⟩ := hall i (by omega)
      obtain ⟨x, hx, hmu⟩ := hel n cs' _ h2
      obtain ⟨_, hlen, hc⟩ := World.cells?_some h1
      rw [hk] at hlen hc
      refine ⟨cs', x, hlen, fun j u hu => ?_, hx, hmu⟩
      have hj : j < k := by rw [← hlen]; exact (List.getElem?_eq_some_iff.1 hu).1
      have := hc j hj
      rw [Addr.add_add] at this
      rw [this]; exact hu
    have build : ∀ q, q ≤ len → ∃ l : List α, l.length = q ∧ (l.map μ).sum ≤ Rows.uptoBulkAll ((List.range q).map D) ∧ ∀ i x, l[i]? = some x → ∃ cs' : List Value, cs'.length = k ∧ (∀ j u, cs'[j]? = some u → w.cell? (a.add (i * k + j)) = some u) ∧ R w cs' x := by
      intro q
      induction q with
      | zero => exact fun _ => ⟨[], rfl, by simp [Rows.uptoBulkAll], fun i x h => by simp at h⟩
      | succ q ih =>
        intro hq
        obtain ⟨l, h1, hs, h2⟩ := ih (by omega)
        obtain ⟨cs', x, h3, h4, h5, h6⟩ := one q (by omega)
        refine ⟨l ++ [x], by simp [h1], ?_, fun i y hy => ?_⟩
        · rw [List.range_succ, List.map_append (f := D), bulk_app]
          simp only [List.map_append, List.sum_append, List.map_cons, List.map_nil, List.sum_cons, List.sum_nil, Rows.uptoBulkAll]
          omega
        by_cases hi : i < q
        · rw [List.getElem?_append_left (by omega)] at hy; exact h2 i y hy
        · have : i = q := by have := (List.getElem?_eq_some_iff.1 hy).1; simp [h1] at this; omega
          subst this
          rw [List.getElem?_append_right (by omega)] at hy
          simp [h1] at hy; subst hy
          exact ⟨cs', h3, h4, h5⟩
    obtain ⟨l, h1, hs, h2⟩ := build len (Nat.le_refl _)
    subst h1
    refine ⟨_, l, rfl, ⟨a, cap, rfl, hl, hm, fun i x hx => ?_⟩, ?_⟩
    · obtain ⟨cs', h3, h4, h5⟩ := h2 i x hx
      exact ⟨a, cs', rfl, trivial, h3, h4, h5⟩
    · simp only [Rows.uptoBulk]; omega
theorem val_of_trodU {n : Nat} {cs : List Value} {y : DataW H × List MemPlace} (h : DataW.trod enc Tryz.prog w base spare held n 107 cs = some y) : ∃ x : AVal, cs = x.cells ∧ x.s.size + 1 ≤ Rows.uptoBulk y.1 := by
  have c2 : Tryz.prog.cellsOf 107 = 4 := by kernel_rfl
  have c3 : Tryz.prog.cellsOf 5 = 1 := by kernel_rfl
  have c4 : Tryz.prog.cellsOf 2 = 1 := by kernel_rfl
  have c5 : Tryz.prog.cellsOf 34 = 1 := by kernel_rfl
  have c6 : Tryz.prog.cellsOf 9 = 1 := by kernel_rfl
  obtain ⟨z0, z1, z2, z3, m', rfl, hl, g0, g1, g2, g3⟩ := trod_struct4 Tryz.underlying107 h
  rw [c2] at hl
  simp only [c3, c4, c5, c6] at g0 g1 g2 g3
  match cs, hl with
  | [a0, a1, a2, a3], _ =>
    simp only [List.drop_zero, List.take_succ_cons, List.take_zero, List.drop_succ_cons] at g0 g1 g2 g3
    obtain ⟨k0, f0, e0, _⟩ := DataW.trod_int Tryz.underlying5 g0
    obtain ⟨k1, f1, e1, _⟩ := DataW.trod_int Tryz.underlying2 g1
    obtain ⟨k2, f2, e2, _⟩ := DataW.trod_int Tryz.underlying34 g2
    obtain ⟨k3, f3, e3, _⟩ := DataW.trod_string Tryz.underlying9 g3
    cases f0; cases f1; cases f2; cases f3; subst e0; subst e1; subst e2; subst e3
    refine ⟨⟨k0, k1, k2, k3⟩, rfl, ?_⟩
    simp only [Rows.uptoBulk, Rows.uptoBulkAll, Array.length_toList, ByteArray.size_data]
    omega
theorem attr_of_trodU {n : Nat} {cs : List Value} {y : DataW H × List MemPlace} (h : DataW.trod enc Tryz.prog w base spare held n 109 cs = some y) : ∃ x : Attr, RAttr w cs x ∧ mAttr x ≤ Rows.uptoBulk y.1 := by
  have c0 : Tryz.prog.cellsOf 109 = 5 := by kernel_rfl
  have c1 : Tryz.prog.cellsOf 3 = 1 := by kernel_rfl
  have c2 : Tryz.prog.cellsOf 107 = 4 := by kernel_rfl
  obtain ⟨y0, y1, m, rfl, hl, h0, h1⟩ := trod_struct2 Tryz.underlying109 h
  rw [c0] at hl
  simp only [c1, c2] at h0 h1
  match cs, hl with
  | [a0, a1, a2, a3, a4], _ =>
    simp only [List.drop_zero, List.take_succ_cons, List.take_zero, List.drop_succ_cons] at h0 h1
    obtain ⟨k, e0, _, _⟩ := DataW.trod_int Tryz.underlying3 h0
    obtain ⟨v, e1, hs⟩ := val_of_trodU h1
    cases e0; cases e1
    refine ⟨⟨k, v⟩, rfl, ?_⟩
    simp only [mAttr, Rows.uptoBulk, Rows.uptoBulkAll]
    omega
theorem chg_of_trodU {n : Nat} {cs : List Value} {y : DataW H × List MemPlace} (h : DataW.trod enc Tryz.prog w base spare held n 111 cs = some y) : ∃ x : Chg, RChg w cs x ∧ mChg x ≤ Rows.uptoBulk y.1 := by
  have c0 : Tryz.prog.cellsOf 111 = 6 := by kernel_rfl
  have c1 : Tryz.prog.cellsOf 3 = 1 := by kernel_rfl
  have c2 : Tryz.prog.cellsOf 107 = 4 := by kernel_rfl
  have c3 : Tryz.prog.cellsOf 4 = 1 := by kernel_rfl
  obtain ⟨xs, m, _, rfl, hl, hlen, hf⟩ := DataW.trod_struct Tryz.underlying111 h
  match xs, hlen with
  | [y0, y1, y2], _ =>
    have h0 : DataW.trod enc Tryz.prog w base spare held m 3 ((cs.drop 0).take (Tryz.prog.cellsOf 3)) = some y0 := hf 0 _ rfl
    have h1 : DataW.trod enc Tryz.prog w base spare held m 4 ((cs.drop 1).take (Tryz.prog.cellsOf 4)) = some y1 := hf 1 _ rfl
    have h2 : DataW.trod enc Tryz.prog w base spare held m 107 ((cs.drop 2).take (Tryz.prog.cellsOf 107)) = some y2 := hf 2 _ rfl
    rw [c0] at hl
    rw [c1] at h0
    rw [c3] at h1
    rw [c2] at h2
    obtain ⟨a0, a1, a2, a3, a4, a5, rfl⟩ := len6 hl
    · clear hf
      simp only [List.drop_zero, List.take_succ_cons, List.take_zero, List.drop_succ_cons] at h0 h1 h2
      obtain ⟨k, e0, _, _⟩ := DataW.trod_int Tryz.underlying3 h0
      obtain ⟨b, e1, _⟩ := DataW.trod_bool Tryz.underlying4 h1
      obtain ⟨v, e2, hs⟩ := val_of_trodU h2
      cases e0; cases e1; cases e2
      refine ⟨⟨k, b, v⟩, rfl, ?_⟩
      simp only [mChg, List.map_cons, List.map_nil, Rows.uptoBulk, Rows.uptoBulkAll]
      omega
theorem rune_of_trodU {n : Nat} {cs : List Value} {y : DataW H × List MemPlace} (h : DataW.trod enc Tryz.prog w base spare held n 21 cs = some y) : ∃ x : Int, RRune w cs x ∧ 1 ≤ Rows.uptoBulk y.1 := by
  obtain ⟨k, rfl, e, _⟩ := DataW.trod_int Tryz.underlying21 h
  subst e
  exact ⟨k, rfl, by simp [Rows.uptoBulk]⟩
theorem set_of_trodU {n : Nat} {cs : List Value} {y : DataW H × List MemPlace} (h : DataW.trod enc Tryz.prog w base spare held n 36 cs = some y) : ∃ v l, cs = [v] ∧ RSet (fun _ => True) w v l ∧ mSet l + 1 ≤ Rows.uptoBulk y.1 :=
  SlR.of_trodU (μ := mAttr) Tryz.underlying36 (by kernel_rfl) (fun _ _ _ h => attr_of_trodU h) h
theorem pat_of_trodU {n : Nat} {cs : List Value} {y : DataW H × List MemPlace} (h : DataW.trod enc Tryz.prog w base spare held n 37 cs = some y) : ∃ v l, cs = [v] ∧ RPat (fun _ => True) w v l ∧ mPat l + 1 ≤ Rows.uptoBulk y.1 :=
  SlR.of_trodU (μ := mChg) Tryz.underlying37 (by kernel_rfl) (fun _ _ _ h => chg_of_trodU h) h
theorem runes_of_trodU {n : Nat} {cs : List Value} {y : DataW H × List MemPlace} (h : DataW.trod enc Tryz.prog w base spare held n 35 cs = some y) : ∃ v l, cs = [v] ∧ RRun (fun _ => True) w v l ∧ l.length + 1 ≤ Rows.uptoBulk y.1 := by
  obtain ⟨v, l, e, h1, h2⟩ := SlR.of_trodU (μ := fun _ : Int => 1) Tryz.underlying35 (by kernel_rfl) (fun _ _ _ h => rune_of_trodU h) h
  refine ⟨v, l, e, h1, ?_⟩
  have : (l.map fun _ => 1).sum = l.length := by clear h1 h2; induction l with | nil => rfl | cons a l ih => simp only [List.map_cons, List.sum_cons, List.length_cons, ih]; omega
  omega
theorem dop_of_trodU {n : Nat} {cs : List Value} {y : DataW H × List MemPlace} (h : DataW.trod enc Tryz.prog w base spare held n 39 cs = some y) : ∃ x : Dop, RDop (fun _ => True) w cs x ∧ mDop x ≤ Rows.uptoBulk y.1 := by
  have c0 : Tryz.prog.cellsOf 39 = 5 := by kernel_rfl
  have c1 : Tryz.prog.cellsOf 3 = 1 := by kernel_rfl
  have c2 : Tryz.prog.cellsOf 5 = 1 := by kernel_rfl
  have c3 : Tryz.prog.cellsOf 35 = 1 := by kernel_rfl
  have c4 : Tryz.prog.cellsOf 36 = 1 := by kernel_rfl
  have c5 : Tryz.prog.cellsOf 37 = 1 := by kernel_rfl
  obtain ⟨xs, m, _, rfl, hl, hlen, hf⟩ := DataW.trod_struct Tryz.underlying39 h
  match xs, hlen with
  | [y0, y1, y2, y3, y4], _ =>
    have h0 : DataW.trod enc Tryz.prog w base spare held m 5 ((cs.drop 0).take (Tryz.prog.cellsOf 5)) = some y0 := hf 0 _ rfl
    have h1 : DataW.trod enc Tryz.prog w base spare held m 3 ((cs.drop 1).take (Tryz.prog.cellsOf 3)) = some y1 := hf 1 _ rfl
    have h2 : DataW.trod enc Tryz.prog w base spare held m 35 ((cs.drop 2).take (Tryz.prog.cellsOf 35)) = some y2 := hf 2 _ rfl
    have h3 : DataW.trod enc Tryz.prog w base spare held m 36 ((cs.drop 3).take (Tryz.prog.cellsOf 36)) = some y3 := hf 3 _ rfl
    have h4 : DataW.trod enc Tryz.prog w base spare held m 37 ((cs.drop 4).take (Tryz.prog.cellsOf 37)) = some y4 := hf 4 _ rfl
    rw [c0] at hl
    rw [c2] at h0
    rw [c1] at h1
    rw [c3] at h2
    rw [c4] at h3
    rw [c5] at h4
    obtain ⟨a0, a1, a2, a3, a4, rfl⟩ := len5 hl
    · clear hf
      simp only [List.drop_zero, List.take_succ_cons, List.take_zero, List.drop_succ_cons] at h0 h1 h2 h3 h4
      obtain ⟨k, e0, _, _⟩ := DataW.trod_int Tryz.underlying5 h0
      obtain ⟨n, e1, _, _⟩ := DataW.trod_int Tryz.underlying3 h1
      obtain ⟨rv, rl, e2, hr, b2⟩ := runes_of_trodU h2
      obtain ⟨sv, sl, e3, hs, b3⟩ := set_of_trodU h3
      obtain ⟨pv, pl', e4, hp, b4⟩ := pat_of_trodU h4
      cases e0; cases e1; cases e2; cases e3; cases e4
      refine ⟨⟨k, n, rl, sl, pl'⟩, ⟨a2, a3, a4, rfl, hr, hs, hp⟩, ?_⟩
      simp only [mDop, List.map_cons, List.map_nil, Rows.uptoBulk, Rows.uptoBulkAll]
      omega
theorem dops_of_trodU {n : Nat} {cs : List Value} {y : DataW H × List MemPlace} (h : DataW.trod enc Tryz.prog w base spare held n 31 cs = some y) : ∃ v l, cs = [v] ∧ RDops (fun _ => True) (fun _ => True) w v l ∧ mDops l + 1 ≤ Rows.uptoBulk y.1 :=
  SlR.of_trodU (μ := mDop) Tryz.underlying31 (by kernel_rfl) (fun _ _ _ h => dop_of_trodU h) h

/-! ### keys -/
theorem key_of_trodU {n : Nat} {cs : List Value} {y : DataW H × List MemPlace} (h : DataW.trod enc Tryz.prog w base spare held n 84 cs = some y) : ∃ x : DKey, RKey w cs x ∧ 1 ≤ Rows.uptoBulk y.1 := by
  have c0 : Tryz.prog.cellsOf 84 = 6 := by kernel_rfl
  have c1 : Tryz.prog.cellsOf 3 = 1 := by kernel_rfl
  have c2 : Tryz.prog.cellsOf 5 = 1 := by kernel_rfl
  have c3 : Tryz.prog.cellsOf 4 = 1 := by kernel_rfl
  obtain ⟨xs, m, _, rfl, hl, hlen, hf⟩ := DataW.trod_struct Tryz.underlying84 h
  match xs, hlen with
  | [y0, y1, y2, y3, y4, y5], _ =>
    have h0 : DataW.trod enc Tryz.prog w base spare held m 3 ((cs.drop 0).take (Tryz.prog.cellsOf 3)) = some y0 := hf 0 _ rfl
    have h1 : DataW.trod enc Tryz.prog w base spare held m 4 ((cs.drop 1).take (Tryz.prog.cellsOf 4)) = some y1 := hf 1 _ rfl
    have h2 : DataW.trod enc Tryz.prog w base spare held m 5 ((cs.drop 2).take (Tryz.prog.cellsOf 5)) = some y2 := hf 2 _ rfl
    have h3 : DataW.trod enc Tryz.prog w base spare held m 4 ((cs.drop 3).take (Tryz.prog.cellsOf 4)) = some y3 := hf 3 _ rfl
    have h4 : DataW.trod enc Tryz.prog w base spare held m 4 ((cs.drop 4).take (Tryz.prog.cellsOf 4)) = some y4 := hf 4 _ rfl
    have h5 : DataW.trod enc Tryz.prog w base spare held m 3 ((cs.drop 5).take (Tryz.prog.cellsOf 3)) = some y5 := hf 5 _ rfl
    rw [c0] at hl
    rw [c1] at h0
    rw [c3] at h1
    rw [c2] at h2
    rw [c3] at h3
    rw [c3] at h4
    rw [c1] at h5
    obtain ⟨a0, a1, a2, a3, a4, a5, rfl⟩ := len6 hl
    · clear hf
      simp only [List.drop_zero, List.take_succ_cons, List.take_zero, List.drop_succ_cons] at h0 h1 h2 h3 h4 h5
      obtain ⟨k0, e0, _, _⟩ := DataW.trod_int Tryz.underlying3 h0
      obtain ⟨k1, e1, _⟩ := DataW.trod_bool Tryz.underlying4 h1
      obtain ⟨k2, e2, _, _⟩ := DataW.trod_int Tryz.underlying5 h2
      obtain ⟨k3, e3, _⟩ := DataW.trod_bool Tryz.underlying4 h3
      obtain ⟨k4, e4, _⟩ := DataW.trod_bool Tryz.underlying4 h4
      obtain ⟨k5, e5, _, _⟩ := DataW.trod_int Tryz.underlying3 h5
      cases e0; cases e1; cases e2; cases e3; cases e4; cases e5
      refine ⟨⟨k0, k1, k2, k3, k4, k5⟩, rfl, ?_⟩
      simp only [Rows.uptoBulk]
      omega
theorem keys_of_trodU {n : Nat} {cs : List Value} {y : DataW H × List MemPlace} (h : DataW.trod enc Tryz.prog w base spare held n 48 cs = some y) : ∃ v l, cs = [v] ∧ RKeys (fun _ => True) w v l ∧ l.length + 1 ≤ Rows.uptoBulk y.1 := by
  obtain ⟨v, l, e, h1, h2⟩ := SlR.of_trodU (μ := fun _ : DKey => 1) Tryz.underlying48 (by kernel_rfl) (fun _ _ _ h => key_of_trodU h) h
  refine ⟨v, l, e, h1, ?_⟩
  have : (l.map fun _ => 1).sum = l.length := by clear h1 h2; induction l with | nil => rfl | cons a l ih => simp only [List.map_cons, List.sum_cons, List.length_cons, ih]; omega
  omega
end Go.Proofs.YtlbaopamhkmepaaGreatDoor

namespace Go.Proofs.YtlbaopamhkmepaaGreatDoor
open Go Go.K

/-- how many bytes a rune has that begins so (0: none begins so), and the bounds of the second byte -/
def hdSize (b0 : Int) : Nat := if b0 < 194 then 0 else if b0 < 224 then 2 else if b0 < 240 then 3 else if b0 < 245 then 4 else 0
def hdLo (b0 : Int) : Int := if b0 = 224 then 160 else if b0 = 240 then 144 else 128
def hdHi (b0 : Int) : Int := if b0 = 237 then 159 else if b0 = 244 then 143 else 191
theorem wrap32 {x : Int} (h0 : -2147483648 ≤ x) (h1 : x < 2147483648) : IntKind.i32.wrap x = x := by
  have e1 : (2 : Int) ^ IntKind.i32.bits = 4294967296 := by decide
  have e2 : (2 : Int) ^ (IntKind.i32.bits - 1) = 2147483648 := by decide
  simp only [IntKind.wrap, e1, e2, IntKind.signed, Bool.true_and, decide_eq_true_eq]
  split <;> omega
theorem cont_step {b : List Int} {i k : Nat} {c r : Int} (hc : b[i]? = some c) (h0 : 0 ≤ r) (h1 : r < 16777216) (c0 : 0 ≤ c) (c1 : c < 256) : contB b (k + 1) i r = if c < 128 ∨ 191 < c then none else contB b k (i + 1) (r * 64 + c - 128) := by
  simp only [contB, hc]
  rw [wrap32 (x := r * 64) (by omega) (by omega), wrap32 (x := c) (by omega) (by omega), wrap32 (x := r * 64 + c) (by omega) (by omega), wrap32 (x := r * 64 + c - 128) (by omega) (by omega)]
theorem head4 {b0 : Int} (h0 : 240 ≤ b0) (h1 : b0 < 256) : nextHead b0 = some (4, b0 - 240) := by
  unfold nextHead
  rw [if_pos h0, wrap32 (x := b0) (by omega) (by omega), wrap32 (by omega) (by omega)]
theorem head3 {b0 : Int} (h0 : 224 ≤ b0) (h1 : b0 < 240) : nextHead b0 = some (3, b0 - 224) := by
  unfold nextHead
  rw [if_neg (by omega), if_pos h0, wrap32 (x := b0) (by omega) (by omega), wrap32 (by omega) (by omega)]
theorem head2 {b0 : Int} (h0 : 192 ≤ b0) (h1 : b0 < 224) : nextHead b0 = some (2, b0 - 192) := by
  unfold nextHead
  rw [if_neg (by omega), if_neg (by omega), if_pos h0, wrap32 (x := b0) (by omega) (by omega), wrap32 (by omega) (by omega)]
theorem next_ascii {b0 : Int} {t : List Int} (h0 : 0 ≤ b0) (h1 : b0 < 128) : nextB (b0 :: t) = (b0, 1) := by
  have hh : nextHead b0 = some (1, b0) := by
    unfold nextHead
    rw [if_neg (by omega), if_neg (by omega), if_neg (by omega), if_neg (by omega), wrap32 (by omega) (by omega)]
  unfold nextB
  rw [List.headD_cons, hh]
  simp only [List.length_cons, contB, Nat.sub_self]
  rw [if_neg (by omega), if_pos ⟨by unfold MayR; omega, by unfold oneLen; rw [if_pos h1]⟩]
theorem next_short {b0 : Int} {t : List Int} (h1 : b0 < 256) (h : (b0 :: t).length < hdSize b0) : nextB (b0 :: t) = (0, 0) := by
  unfold nextB
  rw [List.headD_cons]
  unfold hdSize at h
  split at h
  · omega
  split at h
  · rw [head2 (by omega) (by omega)]; simp only; rw [if_pos h]
  split at h
  · rw [head3 (by omega) (by omega)]; simp only; rw [if_pos h]
  split at h
  · rw [head4 (by omega) (by omega)]; simp only; rw [if_pos h]
  · omega
theorem cont_lt {b : List Int} : ∀ {k i : Nat} {r x : Int}, contB b k i r = some x → (∀ y ∈ b, 0 ≤ y ∧ y < 256) → 0 ≤ r → r * 64 ^ k < 1073741824 → k ≤ 3 → r * 64 ^ k ≤ x ∧ x ≤ r * 64 ^ k + 64 ^ k - 1 := by
  intro k
  induction k with
  | zero => intro i r x h _ _ _ _; simp only [contB] at h; cases h; simp
  | succ k ih =>
    intro i r x h hb h0 h1 hk
    cases hc : b[i]? with
    | none => simp [contB, hc] at h
    | some c =>
      have hcb := hb c (List.mem_iff_getElem?.2 ⟨i, hc⟩)
      have e : (64 : Int) ^ (k + 1) = 64 * 64 ^ k := by rw [Int.pow_succ]; omega
      rw [e] at h1
      have hp : (1 : Int) ≤ 64 ^ k := by
        rcases (show k = 0 ∨ k = 1 ∨ k = 2 by omega) with rfl | rfl | rfl <;> decide
      have h2 : r * (64 * 64 ^ k) = (r * 64) * 64 ^ k := by rw [Int.mul_assoc]
      rw [h2] at h1
      have hr : r * 64 ≤ r * 64 * 64 ^ k := by
        have := Int.mul_le_mul_of_nonneg_left hp (show 0 ≤ r * 64 by omega)
        omega
      rw [cont_step hc h0 (by omega) hcb.1 hcb.2] at h
      split at h
      · cases h
      · rename_i hcc
        have e3 : (r * 64 + c - 128) * 64 ^ k = r * 64 * 64 ^ k + (c - 128) * 64 ^ k := by rw [show r * 64 + c - 128 = r * 64 + (c - 128) by omega, Int.add_mul]
        have hc2 : (c - 128) * 64 ^ k ≤ 63 * 64 ^ k := Int.mul_le_mul_of_nonneg_right (by omega) (by omega)
        have hc3 : 0 ≤ (c - 128) * 64 ^ k := Int.mul_nonneg (by omega) (by omega)
        have hp3 : (64 : Int) ^ k ≤ 4096 := by
          rcases (show k = 0 ∨ k = 1 ∨ k = 2 by omega) with rfl | rfl | rfl <;> decide
        by_cases hbig : (r * 64 + c - 128) * 64 ^ k < 1073741824
        · have := ih h hb (by omega) hbig (by omega)
          rw [e, h2]
          omega
        · exfalso
          rw [e3] at hbig
          have hdv : r * 64 * 64 ^ k ≤ 1073741824 - 64 * 64 ^ k := by
            rcases (show k = 0 ∨ k = 1 ∨ k = 2 by omega) with rfl | rfl | rfl
            · simp only [Int.pow_zero] at *; omega
            · simp only [Int.pow_one] at *; omega
            · rw [show (64 : Int) ^ 2 = 4096 by decide] at *; omega
          omega
theorem next_bad {b0 : Int} {t : List Int} (hb : ∀ y ∈ b0 :: t, 0 ≤ y ∧ y < 256) (h0 : 128 ≤ b0) (h : hdSize b0 = 0) : nextB (b0 :: t) = (0, 0) := by
  have h1 := (hb b0 List.mem_cons_self).2
  have hc : b0 < 194 ∨ 245 ≤ b0 := by
    unfold hdSize at h
    (repeat' split at h) <;> omega
  unfold nextB
  rw [List.headD_cons]
  by_cases h2 : b0 < 192
  · have hh : nextHead b0 = none := by
      unfold nextHead
      rw [if_neg (by omega), if_neg (by omega), if_neg (by omega), if_pos h0]
    rw [hh]
  by_cases h3 : b0 < 194
  · rw [head2 (by omega) (by omega)]
    simp only
    split
    · rfl
    · split
      · rfl
      · rename_i x hx
        have := cont_lt hx hb (by omega) (by omega) (by omega)
        rw [if_neg]
        rintro ⟨_, ho⟩
        unfold oneLen at ho
        rw [if_pos (by omega)] at ho
        omega
  · rw [head4 (by omega) (by omega)]
    simp only
    split
    · rfl
    · split
      · rfl
      · rename_i x hx
        have := cont_lt hx hb (by omega) (by omega) (by omega)
        rw [if_neg]
        rintro ⟨hm, _⟩
        unfold MayR at hm
        omega
theorem next_2 {b0 c1 : Int} {t : List Int} (h : hdSize b0 = 2) (c0 : 0 ≤ c1) (c2 : c1 < 256) :
    nextB (b0 :: c1 :: t) = if hdLo b0 ≤ c1 ∧ c1 ≤ hdHi b0 then ((b0 - 192) * 64 + (c1 - 128), 2) else (0, 0) := by
  have hb : 194 ≤ b0 ∧ b0 < 224 := by
    unfold hdSize at h
    (repeat' split at h) <;> omega
  have hl : hdLo b0 = 128 := by unfold hdLo; rw [if_neg (by omega), if_neg (by omega)]
  have hh : hdHi b0 = 191 := by unfold hdHi; rw [if_neg (by omega), if_neg (by omega)]
  unfold nextB
  rw [List.headD_cons, head2 (by omega) (by omega)]
  simp only
  rw [if_neg (by simp), cont_step (b := b0 :: c1 :: t) (i := 1) (c := c1) rfl (by omega) (by omega) c0 c2, hl, hh]
  by_cases hc : c1 < 128 ∨ 191 < c1
  · rw [if_pos hc, if_neg (by omega)]
  · rw [if_neg hc, if_pos (by omega)]
    simp only [contB]
    rw [if_pos ⟨by unfold MayR; omega, by unfold oneLen; rw [if_neg (by omega), if_pos (by omega)]⟩]
    congr 1; omega
theorem next_3 {b0 c1 c2 : Int} {t : List Int} (h : hdSize b0 = 3) (c0 : 0 ≤ c1) (c0' : c1 < 256) (d0 : 0 ≤ c2) (d0' : c2 < 256) :
    nextB (b0 :: c1 :: c2 :: t) = if (hdLo b0 ≤ c1 ∧ c1 ≤ hdHi b0) ∧ 128 ≤ c2 ∧ c2 ≤ 191 then ((b0 - 224) * 4096 + (c1 - 128) * 64 + (c2 - 128), 3) else (0, 0) := by
  have hb : 224 ≤ b0 ∧ b0 < 240 := by
    unfold hdSize at h
    (repeat' split at h) <;> omega
  have hl : hdLo b0 = if b0 = 224 then 160 else 128 := by
    unfold hdLo; split
    · rfl
    · rw [if_neg (by omega)]
  have hh : hdHi b0 = if b0 = 237 then 159 else 191 := by
    unfold hdHi; split
    · rfl
    · rw [if_neg (by omega)]
  unfold nextB
  rw [List.headD_cons, head3 (by omega) (by omega)]
  simp only
  rw [if_neg (by simp), cont_step (b := b0 :: c1 :: c2 :: t) (i := 1) (c := c1) rfl (by omega) (by omega) c0 c0', hl, hh]
  by_cases hc : c1 < 128 ∨ 191 < c1
  · rw [if_pos hc, if_neg]
    rintro ⟨⟨h1, h2⟩, _⟩
    split at h1 <;> split at h2 <;> omega
  rw [if_neg hc, cont_step (b := b0 :: c1 :: c2 :: t) (i := 2) (c := c2) rfl (by omega) (by omega) d0 d0']
  by_cases hd : c2 < 128 ∨ 191 < c2
  · rw [if_pos hd, if_neg (by omega)]
  rw [if_neg hd]
  simp only [contB]
  by_cases ha : ((if b0 = 224 then (160 : Int) else 128) ≤ c1 ∧ c1 ≤ (if b0 = 237 then (159 : Int) else 191))
  · have hA := (show (_ ∧ 128 ≤ c2 ∧ c2 ≤ 191) from ⟨ha, by omega⟩)
    rw [if_pos hA, if_pos]
    · congr 1; omega
    · obtain ⟨h1, h2⟩ := ha
      refine ⟨?_, ?_⟩
      · unfold MayR
        split at h1 <;> split at h2 <;> omega
      · unfold oneLen
        rw [if_neg (by split at h1 <;> omega), if_neg (by split at h1 <;> omega), if_pos (by omega)]
  · rw [if_neg (fun x : (_ ∧ 128 ≤ c2 ∧ c2 ≤ 191) => ha x.1), if_neg]
    rintro ⟨hm, ho⟩
    apply ha
    unfold MayR at hm
    have : ¬ (b0 - 224) * 64 * 64 + (c1 - 128) * 64 + c2 - 128 < 2048 := by
      intro hx
      unfold oneLen at ho
      split at ho
      · cases ho
      · split at ho
        · cases ho
        · omega
    constructor
    · split <;> omega
    · split <;> omega
theorem next_4 {b0 c1 c2 c3 : Int} {t : List Int} (h : hdSize b0 = 4) (c0 : 0 ≤ c1) (c0' : c1 < 256) (d0 : 0 ≤ c2) (d0' : c2 < 256) (e0 : 0 ≤ c3) (e0' : c3 < 256) :
    nextB (b0 :: c1 :: c2 :: c3 :: t) = if (hdLo b0 ≤ c1 ∧ c1 ≤ hdHi b0) ∧ (128 ≤ c2 ∧ c2 ≤ 191) ∧ 128 ≤ c3 ∧ c3 ≤ 191 then ((b0 - 240) * 262144 + (c1 - 128) * 4096 + (c2 - 128) * 64 + (c3 - 128), 4) else (0, 0) := by
  have hb : 240 ≤ b0 ∧ b0 < 245 := by
    unfold hdSize at h
    (repeat' split at h) <;> omega
  have hl : hdLo b0 = if b0 = 240 then 144 else 128 := by unfold hdLo; rw [if_neg (by omega)]
  have hh : hdHi b0 = if b0 = 244 then 143 else 191 := by unfold hdHi; rw [if_neg (by omega)]
  unfold nextB
  rw [List.headD_cons, head4 (by omega) (by omega)]
  simp only
  rw [if_neg (by simp), cont_step (b := b0 :: c1 :: c2 :: c3 :: t) (i := 1) (c := c1) rfl (by omega) (by omega) c0 c0', hl, hh]
  by_cases hc : c1 < 128 ∨ 191 < c1
  · rw [if_pos hc, if_neg]
    rintro ⟨⟨h1, h2⟩, _⟩
    split at h1 <;> split at h2 <;> omega
  rw [if_neg hc, cont_step (b := b0 :: c1 :: c2 :: c3 :: t) (i := 2) (c := c2) rfl (by omega) (by omega) d0 d0']
  by_cases hd : c2 < 128 ∨ 191 < c2
  · rw [if_pos hd, if_neg (by omega)]
  rw [if_neg hd, cont_step (b := b0 :: c1 :: c2 :: c3 :: t) (i := 3) (c := c3) rfl (by omega) (by omega) e0 e0']
  by_cases he : c3 < 128 ∨ 191 < c3
  · rw [if_pos he, if_neg (by omega)]
  rw [if_neg he]
  simp only [contB]
  by_cases ha : ((if b0 = 240 then (144 : Int) else 128) ≤ c1 ∧ c1 ≤ (if b0 = 244 then (143 : Int) else 191))
  · have hA := (show (_ ∧ (128 ≤ c2 ∧ c2 ≤ 191) ∧ 128 ≤ c3 ∧ c3 ≤ 191) from ⟨ha, by omega⟩)
    rw [if_pos hA, if_pos]
    · congr 1; omega
    · obtain ⟨h1, h2⟩ := ha
      refine ⟨?_, ?_⟩
      · unfold MayR
        split at h1 <;> split at h2 <;> omega
      · unfold oneLen
        rw [if_neg (by split at h1 <;> omega), if_neg (by split at h1 <;> omega), if_neg (by split at h1 <;> omega)]
  · rw [if_neg (fun x : (_ ∧ (128 ≤ c2 ∧ c2 ≤ 191) ∧ 128 ≤ c3 ∧ c3 ≤ 191) => ha x.1), if_neg]
    rintro ⟨hm, ho⟩
    apply ha
    unfold MayR at hm
    have : ¬ ((b0 - 240) * 64 + (c1 - 128)) * 64 * 64 + (c2 - 128) * 64 + c3 - 128 < 65536 := by
      intro hx
      unfold oneLen at ho
      split at ho
      · cases ho
      · split at ho
        · cases ho
        · split at ho
          · cases ho
          · omega
    constructor
    · split <;> omega
    · split <;> omega
theorem readB_step {b : List Int} (hb : b ≠ []) : (readB b).isSome = (decide ((nextB b).2 ≠ 0) && (readB (b.drop (nextB b).2)).isSome) := by
  rw [readB_cons hb]
  by_cases h : (nextB b).2 = 0
  · simp [h]
  · simp [h]
theorem readB_nil : readB ([] : List Int) = some [] := by simp [readB, readF]
theorem readB_skip : ∀ {k : Nat} {b : List Int}, k ≤ b.length → (∀ j x, j < k → b[j]? = some x → 0 ≤ x ∧ x < 128) → (readB b).isSome = (readB (b.drop k)).isSome := by
  intro k
  induction k with
  | zero => intro b _ _; rw [List.drop_zero]
  | succ k ih =>
    intro b hk h
    cases b with
    | nil => simp at hk
    | cons b0 t =>
      have h0 := h 0 b0 (by omega) rfl
      rw [readB_step (by simp), next_ascii h0.1 h0.2]
      simp only [List.drop_succ_cons]
      simp only [ne_eq, Nat.one_ne_zero, not_false_eq_true, decide_true, Bool.true_and, List.drop_zero]
      exact ih (by simpa using hk) fun j x hj hx => h (j + 1) x (by omega) hx
end Go.Proofs.YtlbaopamhkmepaaGreatDoor

namespace Go.Proofs.YtlbaopamhkmepaaGreatDoor
open Go Go.K
theorem order_self (n : Nat) : (FloatKind.f64.format.order n n != some .eq) = decide (NoNum (n : Int)) := by
  have h1 : Ieee.double.signWeight = 9223372036854775808 := by decide
  have h2 : Ieee.double.infRung = 9218868437227405312 := by decide
  have h3 : Ieee.double.binade = 4503599627370496 := by decide
  have hN : NoNum (n : Int) ↔ 9218868437227405312 < n % 9223372036854775808 := by
    unfold NoNum
    rw [Int.tmod_eq_emod_of_nonneg (by omega)]
    omega
  have hs : ∀ x : Int, compare x x = .eq := fun x => by simp [compare, compareOfLessAndEq]
  have hn : ∀ x : Nat, compare x x = .eq := fun x => by simp [compare, compareOfLessAndEq]
  rw [show decide (NoNum (n : Int)) = decide (9218868437227405312 < n % 9223372036854775808) from decide_eq_decide.2 hN]
  show ((Ieee.double.read n).order (Ieee.double.read n) != some .eq) = _
  unfold Ieee.Format.read
  simp only [h1, h2, h3]
  split
  · rename_i hh
    have : ¬ 9218868437227405312 < n % 9223372036854775808 := by omega
    simp only [Ieee.Datum.order, hs, decide_eq_false this]; rfl
  · split
    · have : ¬ 9218868437227405312 < n % 9223372036854775808 := by omega
      simp only [Ieee.Datum.order, hs, decide_eq_false this]; rfl
    · split
      · have : ¬ 9218868437227405312 < n % 9223372036854775808 := by omega
        simp only [Ieee.Datum.order, hn, decide_eq_false this]; rfl
      · have : 9218868437227405312 < n % 9223372036854775808 := by omega
        simp only [Ieee.Datum.order, decide_eq_true this]; rfl
/-- what a word of eight bytes is, as far as the test of the eighth bits goes -/
def U64 (x : Int) : Prop := 0 ≤ x ∧ x < 18446744073709551616
def orN (a b : Int) : Int := ((a.toNat ||| b.toNat : Nat) : Int)
theorem wrapu64 {x : Int} (h : U64 x) : IntKind.u64.wrap x = x := by
  have e1 : (2 : Int) ^ IntKind.u64.bits = 18446744073709551616 := by decide
  unfold U64 at h
  simp only [IntKind.wrap, e1, IntKind.signed, Bool.false_and]
  rw [if_neg (by decide)]
  omega
theorem bv_or {a b : Int} (ha : U64 a) (hb : U64 b) : ((BitVec.ofInt 64 a ||| BitVec.ofInt 64 b).toNat : Int) = orN a b := by
  unfold U64 at ha hb
  unfold orN
  rw [BitVec.toNat_or, BitVec.toNat_ofInt, BitVec.toNat_ofInt]
  have e : ((2 ^ 64 : Nat) : Int) = 18446744073709551616 := by decide
  rw [e, Int.emod_eq_of_lt ha.1 ha.2, Int.emod_eq_of_lt hb.1 hb.2]
theorem bv_and {a b : Int} (ha : U64 a) (hb : U64 b) : ((BitVec.ofInt 64 a &&& BitVec.ofInt 64 b).toNat : Int) = ((a.toNat &&& b.toNat : Nat) : Int) := by
  unfold U64 at ha hb
  rw [BitVec.toNat_and, BitVec.toNat_ofInt, BitVec.toNat_ofInt]
  have e : ((2 ^ 64 : Nat) : Int) = 18446744073709551616 := by decide
  rw [e, Int.emod_eq_of_lt ha.1 ha.2, Int.emod_eq_of_lt hb.1 hb.2]
theorem orN_U {a b : Int} (ha : U64 a) (hb : U64 b) : U64 (orN a b) := by
  unfold U64 at *
  unfold orN
  have : a.toNat ||| b.toNat < 2 ^ 64 := Nat.or_lt_two_pow (by omega) (by omega)
  omega
def HiB (x : Int) (j : Nat) : Prop := x.toNat.testBit (8 * j + 7) = true
theorem HiB.l {a b : Int} {j : Nat} (h : HiB a j) : HiB (orN a b) j := by
  unfold HiB orN at *
  rw [Int.toNat_natCast, Nat.testBit_or, h, Bool.true_or]
theorem HiB.r {a b : Int} {j : Nat} (h : HiB b j) : HiB (orN a b) j := by
  unfold HiB orN at *
  rw [Int.toNat_natCast, Nat.testBit_or, h, Bool.or_true]
theorem hib_byte {x : Int} {j : Nat} (hj : j < 8) (h0 : 128 ≤ x) (h1 : x < 256) : U64 (x * 2 ^ (8 * j)) ∧ HiB (x * 2 ^ (8 * j)) j := by
  obtain ⟨n, rfl⟩ : ∃ n : Nat, x = n := ⟨x.toNat, by omega⟩
  have e : ((n : Int) * 2 ^ (8 * j)) = ((n * 2 ^ (8 * j) : Nat) : Int) := by rw [Int.natCast_mul, Int.natCast_pow]; rfl
  have hp : n * 2 ^ (8 * j) < 2 ^ (8 + 8 * j) := by
    rw [Nat.pow_add]
    exact Nat.mul_lt_mul_of_pos_right (by omega) (Nat.pow_pos (by decide))
  have hq : 2 ^ (8 + 8 * j) ≤ 2 ^ 64 := Nat.pow_le_pow_right (by decide) (by omega)
  refine ⟨?_, ?_⟩
  · rw [e]; unfold U64; omega
  · rw [e]; unfold HiB
    rw [Int.toNat_natCast, Nat.testBit_mul_two_pow]
    simp only [show 8 * j ≤ 8 * j + 7 by omega, decide_true, Bool.true_and, show 8 * j + 7 - 8 * j = 7 by omega]
    rw [Nat.testBit_eq_decide_div_mod_eq]
    rw [decide_eq_true_eq]
    omega
theorem hib_u {x : Int} {j : Nat} (hj : j < 8) (h0 : 0 ≤ x) (h1 : x < 256) : U64 (x * 2 ^ (8 * j)) := by
  obtain ⟨n, rfl⟩ : ∃ n : Nat, x = n := ⟨x.toNat, by omega⟩
  have e : ((n : Int) * 2 ^ (8 * j)) = ((n * 2 ^ (8 * j) : Nat) : Int) := by rw [Int.natCast_mul, Int.natCast_pow]; rfl
  have hp : n * 2 ^ (8 * j) < 2 ^ (8 + 8 * j) := by
    rw [Nat.pow_add]
    exact Nat.mul_lt_mul_of_pos_right (by omega) (Nat.pow_pos (by decide))
  have hq : 2 ^ (8 + 8 * j) ≤ 2 ^ 64 := Nat.pow_le_pow_right (by decide) (by omega)
  rw [e]; unfold U64; omega
theorem hib_none {x : Int} (h : x.toNat &&& 9259542123273814144 = 0) {j : Nat} (hj : j < 8) : ¬ HiB x j := by
  intro hx
  unfold HiB at hx
  have : (x.toNat &&& 9259542123273814144).testBit (8 * j + 7) = true := by
    rw [Nat.testBit_and, hx, Bool.true_and]
    rcases (show j = 0 ∨ j = 1 ∨ j = 2 ∨ j = 3 ∨ j = 4 ∨ j = 5 ∨ j = 6 ∨ j = 7 by omega) with rfl | rfl | rfl | rfl | rfl | rfl | rfl | rfl <;> decide
  rw [h, Nat.zero_testBit] at this
  cases this
end Go.Proofs.YtlbaopamhkmepaaGreatDoor

namespace Go.Proofs.YtlbaopamhkmepaaGreatDoor
open Go Go.K
/-- (*rubric/schema.Schema).Fits -/
def S192 (v0 v1 v2 : Value) (K : Cont) (w : World) : Prop :=
  boxnK 107 v2 (fun t5 w1 =>
  callK Tryz.prog 193 [v0, v1] (fun t12 w2 =>
  extK 0 t12 fun t13 =>
  extK 1 t12 fun t14 =>
  newK 84 [(.int .i64 0), (.bool false), (.int .u8 0), (.bool false), (.bool false), (.int .i64 0)] (fun t7 w3 =>
  stnK 6 t7 t13 (fun w4 =>
  condK t14
  (faK 2 t7 fun t17 =>
  ld1K t17 (fun t18 w5 =>
  faK 0 t5 fun t19 =>
  ld1K t19 (fun t20 w6 =>
  eqK .u8 t18 t20 fun t21 =>
  condK t21
  (ldnK 4 t5 (fun t24 w7 =>
  callK Tryz.prog 191 [t24] (fun t25 w8 =>
  K t25 w8) w7) w6)
  (K (.bool false) w6)) w5) w4)
  (K (.bool false) w4)) w3) w2) w1) w
theorem S192_eq (v0 v1 v2 : Value) (K : Cont) (w : World) : S192 v0 v1 v2 K w = D Tryz.prog okf 27 (bodyOf Tryz.f192) (.node [] [] .nil (.node [] [] .nil (.node [] [] .nil .nil))) (retK Tryz.prog [.tmp 6] K) (nth [v0, v1, v2]) w := by kernel_rfl
theorem S192_ok {v0 v1 v2 : Value} {K : Cont} {w : World} (h : S192 v0 v1 v2 K w) : callK Tryz.prog 192 [v0, v1, v2] K w :=
  callK_of (P := Tryz.prog) (ok := okf) (n := 27) (fn := Tryz.f192) (c := bodyOf Tryz.f192) (rs := [.tmp 6]) (an := (.node [] [] .nil (.node [] [] .nil (.node [] [] .nil .nil)))) good mixed Tryz.func192 (by kernel_rfl) (by kernel_rfl) (by kernel_rfl) (by kernel_rfl) (Eq.mp (S192_eq v0 v1 v2 K w) h)

/-- rubric/value.May -/
def S191 (v0 : Value) (K : Cont) (w : World) : Prop :=
  boxnK 107 v0 (fun t1 w1 =>
  faK 0 t1 fun t5 =>
  ld1K t5 (fun t6 w2 =>
  eqK .u8 t6 (.int .u8 1) fun t8 =>
  condK t8
  (DrawK w2 (fun C =>
  qldnK C 4 t1 fun t9 =>
  faK 1 t1 fun t10 =>
  qld1K C t10 fun t11 =>
  eqK .i64 t11 (.int .i64 1) fun t12 =>
  qcallK Tryz.prog C 206 [t12] fun t13 =>
  qrunK Tryz.prog C (binS .eql 107 (.tmp 9) (.tmp 13) t9 t13) fun t14 =>
  ∀ w3 : World, C w3 →
  K t14 w3))
  (eqK .u8 t6 (.int .u8 2) fun t16 =>
  condK t16
  (DrawK w2 (fun C_1 =>
  qldnK C_1 4 t1 fun t17 =>
  faK 1 t1 fun t18 =>
  qld1K C_1 t18 fun t19 =>
  qcallK Tryz.prog C_1 207 [t19] fun t20 =>
  qrunK Tryz.prog C_1 (binS .eql 107 (.tmp 17) (.tmp 20) t17 t20) fun t21 =>
  ∀ w4 : World, C_1 w4 →
  K t21 w4))
  (eqK .u8 t6 (.int .u8 3) fun t23 =>
  condK t23
  (DrawK w2 (fun C_2 =>
  qldnK C_2 4 t1 fun t24 =>
  faK 2 t1 fun t25 =>
  qld1K C_2 t25 fun t26 =>
  qextK Tryz.prog C_2 209 [t26] fun t27 =>
  qcallK Tryz.prog C_2 208 [t27] fun t28 =>
  qrunK Tryz.prog C_2 (binS .eql 107 (.tmp 24) (.tmp 28) t24 t28) fun t29 =>
  ∀ w5 : World, C_2 w5 →
  K t29 w5))
  (eqK .u8 t6 (.int .u8 4) fun t31 =>
  condK t31
  (faK 3 t1 fun t33 =>
  ld1K t33 (fun t34 w6 =>
  callK Tryz.prog 210 [t34] (fun t35 w7 =>
  extK 0 t35 fun t36 =>
  extK 1 t35 fun t37 =>
  newK 107 [(.int .u8 0), (.int .i64 0), (.int .u64 0), (.string (ByteArray.mk #[]))] (fun t3 w8 =>
  stnK 4 t3 t36 (fun w9 =>
  eqK .i64 t37 (.int .i64 0) fun t39 =>
  condK t39
  (ldnK 4 t1 (fun t41 w10 =>
  ldnK 4 t3 (fun t42 w11 =>
  runK Tryz.prog (binS .eql 107 (.tmp 41) (.tmp 42) t41 t42) (fun t43 w12 =>
  K t43 w12) w11) w10) w9)
  (K (.bool false) w9)) w8) w7) w6) w2)
  (K (.bool false) w2))))) w1) w
theorem S191_eq (v0 : Value) (K : Cont) (w : World) : S191 v0 K w = D Tryz.prog okf 45 (bodyOf Tryz.f191) (.node [] [] .nil (.node [] [] (.node [] [] .nil (.node [] [] .nil (.node [] [] (.node [] [] .draw .nil) (.node [] [] .nil (.node [] [] (.node [] [] .draw .nil) (.node [] [] .nil (.node [] [] (.node [] [] .draw .nil) (.node [] [] .nil (.node [] [] (.node [] [] .nil (.node [] [] .nil .nil)) .nil))))))))) (.node [] [] .nil .nil))) (retK Tryz.prog [.tmp 2] K) (nth [v0]) w := by kernel_rfl
theorem S191_ok {v0 : Value} {K : Cont} {w : World} (h : S191 v0 K w) : callK Tryz.prog 191 [v0] K w :=
  callK_of (P := Tryz.prog) (ok := okf) (n := 45) (fn := Tryz.f191) (c := bodyOf Tryz.f191) (rs := [.tmp 2]) (an := (.node [] [] .nil (.node [] [] (.node [] [] .nil (.node [] [] .nil (.node [] [] (.node [] [] .draw .nil) (.node [] [] .nil (.node [] [] (.node [] [] .draw .nil) (.node [] [] .nil (.node [] [] (.node [] [] .draw .nil) (.node [] [] .nil (.node [] [] (.node [] [] .nil (.node [] [] .nil .nil)) .nil))))))))) (.node [] [] .nil .nil)))) good mixed Tryz.func191 (by kernel_rfl) (by kernel_rfl) (by kernel_rfl) (by kernel_rfl) (Eq.mp (S191_eq v0 K w) h)

/-- rubric/value.Flag -/
def S206 (v0 : Value) (K : Cont) (w : World) : Prop :=
  newK 107 [(.int .u8 0), (.int .i64 0), (.int .u64 0), (.string (ByteArray.mk #[]))] (fun t2 w1 =>
  buildK [(0, 1), (1, 1), (2, 1), (3, 1)] [(.int .u8 0), (.int .i64 0), (.int .u64 0), (.string (ByteArray.mk #[]))] [(0, (.int .u8 1))] fun t4 =>
  newK 107 [(.int .u8 0), (.int .i64 0), (.int .u64 0), (.string (ByteArray.mk #[]))] (fun t3 w2 =>
  stnK 4 t3 t4 (fun w3 =>
  condK v0
  (faK 1 t3 fun t6 =>
  st1K t6 (.int .i64 1) (fun w4 =>
  ldnK 4 t3 (fun t7 w5 =>
  stnK 4 t2 t7 (fun w6 =>
  ldnK 4 t2 (fun r0 w7 =>
  K r0 w7) w6) w5) w4) w3)
  (ldnK 4 t3 (fun t7_1 w8 =>
  stnK 4 t2 t7_1 (fun w9 =>
  ldnK 4 t2 (fun r0_1 w10 =>
  K r0_1 w10) w9) w8) w3)) w2) w1) w
theorem S206_eq (v0 : Value) (K : Cont) (w : World) : S206 v0 K w = D Tryz.prog okf 8 (bodyOf Tryz.f206) (.node [] [] .nil (.node [] [] .nil (.node [] [] (.node [] [] .nil (.node [] [] .nil .nil)) (.node [] [] .nil .nil)))) (retK Tryz.prog [.cell 2 107] K) (nth [v0]) w := by kernel_rfl
theorem S206_ok {v0 : Value} {K : Cont} {w : World} (h : S206 v0 K w) : callK Tryz.prog 206 [v0] K w :=
  callK_of (P := Tryz.prog) (ok := okf) (n := 8) (fn := Tryz.f206) (c := bodyOf Tryz.f206) (rs := [.cell 2 107]) (an := (.node [] [] .nil (.node [] [] .nil (.node [] [] (.node [] [] .nil (.node [] [] .nil .nil)) (.node [] [] .nil .nil))))) good mixed Tryz.func206 (by kernel_rfl) (by kernel_rfl) (by kernel_rfl) (by kernel_rfl) (Eq.mp (S206_eq v0 K w) h)

/-- rubric/value.Int -/
def S207 (v0 : Value) (K : Cont) (w : World) : Prop :=
  newK 107 [(.int .u8 0), (.int .i64 0), (.int .u64 0), (.string (ByteArray.mk #[]))] (fun t2 w1 =>
  buildK [(0, 1), (1, 1), (2, 1), (3, 1)] [(.int .u8 0), (.int .i64 0), (.int .u64 0), (.string (ByteArray.mk #[]))] [(0, (.int .u8 2)), (1, v0)] fun t4 =>
  stnK 4 t2 t4 (fun w2 =>
  ldnK 4 t2 (fun r0 w3 =>
  K r0 w3) w2) w1) w
theorem S207_eq (v0 : Value) (K : Cont) (w : World) : S207 v0 K w = D Tryz.prog okf 5 (bodyOf Tryz.f207) (.node [] [] .nil (.node [] [] .nil .nil)) (retK Tryz.prog [.cell 2 107] K) (nth [v0]) w := by kernel_rfl
theorem S207_ok {v0 : Value} {K : Cont} {w : World} (h : S207 v0 K w) : callK Tryz.prog 207 [v0] K w :=
  callK_of (P := Tryz.prog) (ok := okf) (n := 5) (fn := Tryz.f207) (c := bodyOf Tryz.f207) (rs := [.cell 2 107]) (an := (.node [] [] .nil (.node [] [] .nil .nil))) good mixed Tryz.func207 (by kernel_rfl) (by kernel_rfl) (by kernel_rfl) (by kernel_rfl) (Eq.mp (S207_eq v0 K w) h)

/-- rubric/value.Float -/
def S208 (v0 : Value) (K : Cont) (w : World) : Prop :=
  newK 107 [(.int .u8 0), (.int .i64 0), (.int .u64 0), (.string (ByteArray.mk #[]))] (fun t2 w1 =>
  callK Tryz.prog 216 [v0] (fun t4 w2 =>
  condK t4
  (buildK [(0, 1), (1, 1), (2, 1), (3, 1)] [(.int .u8 0), (.int .i64 0), (.int .u64 0), (.string (ByteArray.mk #[]))] [(0, (.int .u8 3)), (2, (.int .u64 9221120237041090560))] fun t5 =>
  stnK 4 t2 t5 (fun w3 =>
  ldnK 4 t2 (fun r0 w4 =>
  K r0 w4) w3) w2)
  (extcK Tryz.prog 217 [v0] (fun t7 w5 =>
  buildK [(0, 1), (1, 1), (2, 1), (3, 1)] [(.int .u8 0), (.int .i64 0), (.int .u64 0), (.string (ByteArray.mk #[]))] [(0, (.int .u8 3)), (2, t7)] fun t8 =>
  stnK 4 t2 t8 (fun w6 =>
  ldnK 4 t2 (fun r0_1 w7 =>
  K r0_1 w7) w6) w5) w2)) w1) w
theorem S208_eq (v0 : Value) (K : Cont) (w : World) : S208 v0 K w = D Tryz.prog okf 9 (bodyOf Tryz.f208) (.node [] [] .nil (.node [] [] (.node [] [] .nil (.node [] [] (.node [] [] .nil .nil) .nil)) (.node [] [] .nil .nil))) (retK Tryz.prog [.cell 2 107] K) (nth [v0]) w := by kernel_rfl
theorem S208_ok {v0 : Value} {K : Cont} {w : World} (h : S208 v0 K w) : callK Tryz.prog 208 [v0] K w :=
  callK_of (P := Tryz.prog) (ok := okf) (n := 9) (fn := Tryz.f208) (c := bodyOf Tryz.f208) (rs := [.cell 2 107]) (an := (.node [] [] .nil (.node [] [] (.node [] [] .nil (.node [] [] (.node [] [] .nil .nil) .nil)) (.node [] [] .nil .nil)))) good mixed Tryz.func208 (by kernel_rfl) (by kernel_rfl) (by kernel_rfl) (by kernel_rfl) (Eq.mp (S208_eq v0 K w) h)

/-- rubric/value.Text -/
def S210 (v0 : Value) (K : Cont) (w : World) : Prop :=
  newK 107 [(.int .u8 0), (.int .i64 0), (.int .u64 0), (.string (ByteArray.mk #[]))] (fun t2 w1 =>
  slenK v0 fun t7 =>
  gtK .i64 t7 (.int .i64 64) fun t8 =>
  condK t8
  (buildK [(0, 1), (1, 1), (2, 1), (3, 1)] [(.int .u8 0), (.int .i64 0), (.int .u64 0), (.string (ByteArray.mk #[]))] [] fun t9 =>
  stnK 4 t2 t9 (fun w2 =>
  ldnK 4 t2 (fun r0 w3 =>
  K (.tuple #[r0, (.int .i64 3)]) w3) w2) w1)
  (runK Tryz.prog (convert 9 70 v0) (fun t12 w4 =>
  callK Tryz.prog 114 [t12] (fun t13 w5 =>
  extK 0 t13 fun _t14 =>
  extK 1 t13 fun t15 =>
  neK .i64 t15 (.int .i64 0) fun t17 =>
  condK t17
  (buildK [(0, 1), (1, 1), (2, 1), (3, 1)] [(.int .u8 0), (.int .i64 0), (.int .u64 0), (.string (ByteArray.mk #[]))] [] fun t18 =>
  stnK 4 t2 t18 (fun w6 =>
  ldnK 4 t2 (fun r0_1 w7 =>
  K (.tuple #[r0_1, t15]) w7) w6) w5)
  (buildK [(0, 1), (1, 1), (2, 1), (3, 1)] [(.int .u8 0), (.int .i64 0), (.int .u64 0), (.string (ByteArray.mk #[]))] [(0, (.int .u8 4)), (3, v0)] fun t21 =>
  stnK 4 t2 t21 (fun w8 =>
  ldnK 4 t2 (fun r0_2 w9 =>
  K (.tuple #[r0_2, (.int .i64 0)]) w9) w8) w5)) w4) w1)) w
theorem S210_eq (v0 : Value) (K : Cont) (w : World) : S210 v0 K w = D Tryz.prog okf 22 (bodyOf Tryz.f210) (.node [] [] .nil (.node [] [] (.node [] [] .nil (.node [] [] (.node [] [] .nil .nil) .nil)) (.node [] [] (.node [] [] .nil (.node [] [] .nil (.node [] [] (.node [] [] .nil .nil) .nil))) (.node [] [] .nil .nil)))) (retK Tryz.prog [.cell 2 107, .tmp 3] K) (nth [v0]) w := by kernel_rfl
theorem S210_ok {v0 : Value} {K : Cont} {w : World} (h : S210 v0 K w) : callK Tryz.prog 210 [v0] K w :=
  callK_of (P := Tryz.prog) (ok := okf) (n := 22) (fn := Tryz.f210) (c := bodyOf Tryz.f210) (rs := [.cell 2 107, .tmp 3]) (an := (.node [] [] .nil (.node [] [] (.node [] [] .nil (.node [] [] (.node [] [] .nil .nil) .nil)) (.node [] [] (.node [] [] .nil (.node [] [] .nil (.node [] [] (.node [] [] .nil .nil) .nil))) (.node [] [] .nil .nil))))) good mixed Tryz.func210 (by kernel_rfl) (by kernel_rfl) (by kernel_rfl) (by kernel_rfl) (Eq.mp (S210_eq v0 K w) h)

/-- math.IsNaN -/
def S216 (v0 : Value) (K : Cont) (w : World) : Prop :=
  runK Tryz.prog (binS .neq 254 (.tmp 3) (.tmp 4) v0 v0) (fun t5 w1 =>
  K t5 w1) w
theorem S216_eq (v0 : Value) (K : Cont) (w : World) : S216 v0 K w = D Tryz.prog okf 6 (bodyOf Tryz.f216) (.node [] [] .nil (.node [] [] .nil .nil)) (retK Tryz.prog [.tmp 2] K) (nth [v0]) w := by kernel_rfl
theorem S216_ok {v0 : Value} {K : Cont} {w : World} (h : S216 v0 K w) : callK Tryz.prog 216 [v0] K w :=
  callK_of (P := Tryz.prog) (ok := okf) (n := 6) (fn := Tryz.f216) (c := bodyOf Tryz.f216) (rs := [.tmp 2]) (an := (.node [] [] .nil (.node [] [] .nil .nil))) good mixed Tryz.func216 (by kernel_rfl) (by kernel_rfl) (by kernel_rfl) (by kernel_rfl) (Eq.mp (S216_eq v0 K w) h)

/-- rubric/runes.Read -/
def S114 (v0 : Value) (K : Cont) (w : World) : Prop :=
  callK Tryz.prog 174 [v0] (fun t8 w1 =>
  notK t8 fun t9 =>
  condK t9
  (K (.tuple #[(.slice none 0 0), (.int .i64 3)]) w1)
  (runK Tryz.prog (convert 70 9 v0) (fun t11 w2 =>
  runK Tryz.prog (Instr.range 9 t11) (fun t12 w3 =>
  LoopK [(.slice none 0 0)] (fun vs again w4 => ∀ _h : Env,
  runK Tryz.prog (Instr.next t12 true 0) (fun t13 w5 =>
  extK 0 t13 fun t14 =>
  condK t14
  (extK 2 t13 fun t15 =>
  rowK 21 1 1 [(.int .i32 0)] [(0, t15)] (fun t18 w6 =>
  runK Tryz.prog (Builtin.append_ #[35, 35] 35 [(nth vs 0), t18].toArray) (fun t19 w7 =>
  again [t19] w7) w6) w5)
  (K (.tuple #[(nth vs 0), (.int .i64 0)]) w5)) w4) w3) w2) w1)) w
theorem S114_eq (v0 : Value) (K : Cont) (w : World) : S114 v0 K w = D Tryz.prog okf 21 (bodyOf Tryz.f114) (.node [] [] .nil (.node [] [] (.node [] [] .nil (.node [] [] (.node [] [] .nil .nil) .nil)) (.node [] [] .nil (.node [] [] (.node [] [] .nil (.node [4] [(4, 4), (6, 6), (13, 19)] (.node [] [] .nil (.node [] [] (.node [] [] .nil .nil) (.node [] [] .nil .nil))) .nil)) (.node [] [] .nil .nil))))) (retK Tryz.prog [.tmp 2, .tmp 3] K) (nth [v0]) w := by kernel_rfl
theorem S114_ok {v0 : Value} {K : Cont} {w : World} (h : S114 v0 K w) : callK Tryz.prog 114 [v0] K w :=
  callK_of (P := Tryz.prog) (ok := okf) (n := 21) (fn := Tryz.f114) (c := bodyOf Tryz.f114) (rs := [.tmp 2, .tmp 3]) (an := (.node [] [] .nil (.node [] [] (.node [] [] .nil (.node [] [] (.node [] [] .nil .nil) .nil)) (.node [] [] .nil (.node [] [] (.node [] [] .nil (.node [4] [(4, 4), (6, 6), (13, 19)] (.node [] [] .nil (.node [] [] (.node [] [] .nil .nil) (.node [] [] .nil .nil))) .nil)) (.node [] [] .nil .nil)))))) good mixed Tryz.func114 (by kernel_rfl) (by kernel_rfl) (by kernel_rfl) (by kernel_rfl) (Eq.mp (S114_eq v0 K w) h)

/-- unicode/utf8.Valid -/
def S174 (v0 : Value) (K : Cont) (w : World) : Prop :=
  lenK v0 fun t9 =>
  lenK v0 fun t11 =>
  runK Tryz.prog (Instr.sliceAt 70 v0 none (some t9) (some t11)) (fun t12 w1 =>
  LoopK [t12] (fun vs again w2 => ∀ _h : Env,
  lenK (nth vs 0) fun t14 =>
  gtK .i64 t14 (.int .i64 0) fun t15 =>
  condK t15
  (ixK 1 (nth vs 0) (.int .i64 0) fun t17 =>
  ld1K t17 (fun t18 w3 =>
  ltK .u8 t18 (.int .u8 128) fun t20 =>
  condK t20
  (runK Tryz.prog (Instr.sliceAt 70 (nth vs 0) (some (.int .i64 1)) none none) (fun t22 w4 =>
  JoinK (fun vs_1 w5 => ∀ _h_1 : Env,
  condK (nth vs_1 0)
  (runK Tryz.prog (Instr.sliceAt 70 t22 (some (.int .i64 8)) none none) (fun t33 w6 =>
  JoinK (fun vs_2 w7 => ∀ _h_2 : Env,
  condK (nth vs_2 0)
  (runK Tryz.prog (Instr.sliceAt 70 t33 (some (.int .i64 16)) none none) (fun t48 w8 =>
  LoopK [t48] (fun vs_3 again_1 w9 => ∀ _h_3 : Env,
  DrawK w9 (fun C =>
  lenK (nth vs_3 0) fun t50 =>
  gtK .i64 t50 (.int .i64 32) fun t51 =>
  condK t51
  (qcallK Tryz.prog C 200 [(nth vs_3 0)] fun t54 =>
  qrunK Tryz.prog C (Instr.sliceAt 70 (nth vs_3 0) (some (.int .i64 8)) none none) fun t56 =>
  qcallK Tryz.prog C 200 [t56] fun t57 =>
  qrunK Tryz.prog C (binS .or 12 (.tmp 54) (.tmp 57) t54 t57) fun t58 =>
  qrunK Tryz.prog C (Instr.sliceAt 70 (nth vs_3 0) (some (.int .i64 16)) none none) fun t60 =>
  qcallK Tryz.prog C 200 [t60] fun t61 =>
  qrunK Tryz.prog C (Instr.sliceAt 70 (nth vs_3 0) (some (.int .i64 24)) none none) fun t63 =>
  qcallK Tryz.prog C 200 [t63] fun t64 =>
  qrunK Tryz.prog C (binS .or 12 (.tmp 61) (.tmp 64) t61 t64) fun t65 =>
  qrunK Tryz.prog C (binS .or 12 (.tmp 58) (.tmp 65) t58 t65) fun t66 =>
  qrunK Tryz.prog C (binS .and 12 (.tmp 66) (.const (.int .u64 9259542123273814144)) t66 (.int .u64 9259542123273814144)) fun t67 =>
  eqK .u64 t67 (.int .u64 0) fun t68 =>
  ∀ w10 : World, C w10 →
  condK t68
  (runK Tryz.prog (Instr.sliceAt 70 (nth vs_3 0) (some (.int .i64 32)) none none) (fun t71 w11 =>
  again_1 [t71] w11) w10)
  (again [(nth vs_3 0)] w10))
  (∀ w12 : World, C w12 →
  again [(nth vs_3 0)] w12))) w8) w7)
  (again [t33] w7)) (fun J_1 =>
  DrawK w6 (fun C_1 =>
  lenK t33 fun t35 =>
  gtK .i64 t35 (.int .i64 16) fun t36 =>
  condK t36
  (qcallK Tryz.prog C_1 200 [t33] fun t39 =>
  qrunK Tryz.prog C_1 (Instr.sliceAt 70 t33 (some (.int .i64 8)) none none) fun t41 =>
  qcallK Tryz.prog C_1 200 [t41] fun t42 =>
  qrunK Tryz.prog C_1 (binS .or 12 (.tmp 39) (.tmp 42) t39 t42) fun t43 =>
  qrunK Tryz.prog C_1 (binS .and 12 (.tmp 43) (.const (.int .u64 9259542123273814144)) t43 (.int .u64 9259542123273814144)) fun t44 =>
  eqK .u64 t44 (.int .u64 0) fun t45 =>
  ∀ w14 : World, C_1 w14 →
  J_1 [t45] w14)
  (∀ w15 : World, C_1 w15 →
  J_1 [(.bool false)] w15)))) w5)
  (again [t22] w5)) (fun J =>
  lenK t22 fun t24 =>
  gtK .i64 t24 (.int .i64 8) fun t25 =>
  condK t25
  (callK Tryz.prog 200 [t22] (fun t28 w16 =>
  runK Tryz.prog (binS .and 12 (.tmp 28) (.const (.int .u64 9259542123273814144)) t28 (.int .u64 9259542123273814144)) (fun t29 w17 =>
  eqK .u64 t29 (.int .u64 0) fun t30 =>
  J [t30] w17) w16) w4)
  (J [(.bool false)] w4))) w3)
  (runK Tryz.prog (Instr.indexAt 242 (.pointer (some ⟨0, 0, none⟩)) t18) (fun t73 w18 =>
  ld1K t73 (fun t74 w19 =>
  runK Tryz.prog (binS .and 5 (.tmp 75) (.const (.int .u8 7)) t74 (.int .u8 7)) (fun t76 w20 =>
  runK Tryz.prog (convert 5 3 t76) (fun t77 w21 =>
  runK Tryz.prog (binS .shr 5 (.tmp 78) (.const (.int .u64 4)) t74 (.int .u64 4)) (fun t79 w22 =>
  runK Tryz.prog (Instr.indexAt 245 (.pointer (some ⟨1, 0, none⟩)) t79) (fun t80 w23 =>
  ldnK 2 t80 (fun t81 w24 =>
  newK 244 [(.int .u8 0), (.int .u8 0)] (fun t6 w25 =>
  stnK 2 t6 t81 (fun w26 =>
  eqK .i64 t77 (.int .i64 2) fun t84 =>
  condK t84
  (JoinK (fun _vs_4 w27 => ∀ _h_4 : Env,
  runK Tryz.prog (Instr.sliceAt 70 (nth vs 0) (some (.int .i64 2)) none none) (fun t105 w28 =>
  again [t105] w28) w27) (fun J_2 =>
  DrawK w26 (fun C_2 =>
  lenK (nth vs 0) fun t86 =>
  ltK .i64 t86 (.int .i64 2) fun t87 =>
  condK t87
  (∀ w29 : World, C_2 w29 →
  K (.bool false) w29)
  (ixK 1 (nth vs 0) (.int .i64 1) fun t90 =>
  qld1K C_2 t90 fun t91 =>
  faK 0 t6 fun t92 =>
  qld1K C_2 t92 fun t93 =>
  ltK .u8 t91 t93 fun t94 =>
  condK t94
  (∀ w30 : World, C_2 w30 →
  K (.bool false) w30)
  (faK 1 t6 fun t97 =>
  qld1K C_2 t97 fun t98 =>
  ixK 1 (nth vs 0) (.int .i64 1) fun t100 =>
  qld1K C_2 t100 fun t101 =>
  ltK .u8 t98 t101 fun t102 =>
  ∀ w31 : World, C_2 w31 →
  condK t102
  (K (.bool false) w31)
  (J_2 [] w31))))))
  (eqK .i64 t77 (.int .i64 3) fun t107 =>
  condK t107
  (JoinK (fun _vs_5 w32 => ∀ _h_5 : Env,
  runK Tryz.prog (Instr.sliceAt 70 (nth vs 0) (some (.int .i64 3)) none none) (fun t140 w33 =>
  again [t140] w33) w32) (fun J_3 =>
  DrawK w26 (fun C_3 =>
  lenK (nth vs 0) fun t109 =>
  ltK .i64 t109 (.int .i64 3) fun t110 =>
  condK t110
  (∀ w34 : World, C_3 w34 →
  K (.bool false) w34)
  (ixK 1 (nth vs 0) (.int .i64 1) fun t113 =>
  qld1K C_3 t113 fun t114 =>
  faK 0 t6 fun t115 =>
  qld1K C_3 t115 fun t116 =>
  ltK .u8 t114 t116 fun t117 =>
  condK t117
  (∀ w35 : World, C_3 w35 →
  K (.bool false) w35)
  (faK 1 t6 fun t120 =>
  qld1K C_3 t120 fun t121 =>
  ixK 1 (nth vs 0) (.int .i64 1) fun t123 =>
  qld1K C_3 t123 fun t124 =>
  ltK .u8 t121 t124 fun t125 =>
  condK t125
  (∀ w36 : World, C_3 w36 →
  K (.bool false) w36)
  (ixK 1 (nth vs 0) (.int .i64 2) fun t129 =>
  qld1K C_3 t129 fun t130 =>
  ltK .u8 t130 (.int .u8 128) fun t131 =>
  condK t131
  (∀ w37 : World, C_3 w37 →
  K (.bool false) w37)
  (ixK 1 (nth vs 0) (.int .i64 2) fun t135 =>
  qld1K C_3 t135 fun t136 =>
  ltK .u8 (.int .u8 191) t136 fun t137 =>
  ∀ w38 : World, C_3 w38 →
  condK t137
  (K (.bool false) w38)
  (J_3 [] w38))))))))
  (eqK .i64 t77 (.int .i64 4) fun t142 =>
  condK t142
  (JoinK (fun _vs_6 w39 => ∀ _h_6 : Env,
  runK Tryz.prog (Instr.sliceAt 70 (nth vs 0) (some (.int .i64 4)) none none) (fun t187 w40 =>
  again [t187] w40) w39) (fun J_4 =>
  DrawK w26 (fun C_4 =>
  lenK (nth vs 0) fun t144 =>
  ltK .i64 t144 (.int .i64 4) fun t145 =>
  condK t145
  (∀ w41 : World, C_4 w41 →
  K (.bool false) w41)
  (ixK 1 (nth vs 0) (.int .i64 1) fun t148 =>
  qld1K C_4 t148 fun t149 =>
  faK 0 t6 fun t150 =>
  qld1K C_4 t150 fun t151 =>
  ltK .u8 t149 t151 fun t152 =>
  condK t152
  (∀ w42 : World, C_4 w42 →
  K (.bool false) w42)
  (faK 1 t6 fun t155 =>
  qld1K C_4 t155 fun t156 =>
  ixK 1 (nth vs 0) (.int .i64 1) fun t158 =>
  qld1K C_4 t158 fun t159 =>
  ltK .u8 t156 t159 fun t160 =>
  condK t160
  (∀ w43 : World, C_4 w43 →
  K (.bool false) w43)
  (ixK 1 (nth vs 0) (.int .i64 2) fun t164 =>
  qld1K C_4 t164 fun t165 =>
  ltK .u8 t165 (.int .u8 128) fun t166 =>
  condK t166
  (∀ w44 : World, C_4 w44 →
  K (.bool false) w44)
  (ixK 1 (nth vs 0) (.int .i64 2) fun t170 =>
  qld1K C_4 t170 fun t171 =>
  ltK .u8 (.int .u8 191) t171 fun t172 =>
  condK t172
  (∀ w45 : World, C_4 w45 →
  K (.bool false) w45)
  (ixK 1 (nth vs 0) (.int .i64 3) fun t176 =>
  qld1K C_4 t176 fun t177 =>
  ltK .u8 t177 (.int .u8 128) fun t178 =>
  condK t178
  (∀ w46 : World, C_4 w46 →
  K (.bool false) w46)
  (ixK 1 (nth vs 0) (.int .i64 3) fun t182 =>
  qld1K C_4 t182 fun t183 =>
  ltK .u8 (.int .u8 191) t183 fun t184 =>
  ∀ w47 : World, C_4 w47 →
  condK t184
  (K (.bool false) w47)
  (J_4 [] w47))))))))))
  (K (.bool false) w26)))) w25) w24) w23) w22) w21) w20) w19) w18) w3)) w2)
  (K (.bool true) w2)) w1) w
theorem S174_eq (v0 : Value) (K : Cont) (w : World) : S174 v0 K w = D Tryz.prog okf 188 (bodyOf Tryz.f174) (.node [] [] .nil (.node [] [] .nil (.node [] [] (.node [0] [(0, 0), (2, 6), (13, 187)] (.node [] [] (.node [] [] .nil (.node [] [] .nil .nil)) (.node [] [] .nil (.node [] [] (.node [] [] .nil (.node [] [] (.node [] [] .nil (.node [] [] (.cut [31] [(23, 31)] .nil (.node [] [] (.node [] [] .nil (.cut [46] [(34, 46)] .draw (.node [] [] (.node [] [] .nil (.node [0] [(0, 0), (49, 71)] (.node [] [] (.node [] [] .draw (.node [] [] .nil .nil)) .nil) .nil)) .nil))) .nil)) .nil)) .nil)) (.node [] [] .nil (.node [] [] .nil (.node [] [] .nil (.node [] [] .nil (.node [] [] .nil (.node [] [] (.cut [] [(2, 2), (85, 103)] (.node [] [] .draw (.node [] [] (.node [] [] .nil .nil) .nil)) .nil) (.node [] [] .nil (.node [] [] (.cut [] [(2, 2), (108, 138)] (.node [] [] .draw (.node [] [] (.node [] [] .nil .nil) .nil)) .nil) (.node [] [] .nil (.node [] [] (.cut [] [(2, 2), (143, 185)] (.node [] [] .draw (.node [] [] (.node [] [] .nil .nil) .nil)) .nil) (.node [] [] .nil .nil)))))))))))))) .nil) (.node [] [] .nil .nil)))) (retK Tryz.prog [.tmp 2] K) (nth [v0]) w := by kernel_rfl
theorem S174_ok {v0 : Value} {K : Cont} {w : World} (h : S174 v0 K w) : callK Tryz.prog 174 [v0] K w :=
  callK_of (P := Tryz.prog) (ok := okf) (n := 188) (fn := Tryz.f174) (c := bodyOf Tryz.f174) (rs := [.tmp 2]) (an := (.node [] [] .nil (.node [] [] .nil (.node [] [] (.node [0] [(0, 0), (2, 6), (13, 187)] (.node [] [] (.node [] [] .nil (.node [] [] .nil .nil)) (.node [] [] .nil (.node [] [] (.node [] [] .nil (.node [] [] (.node [] [] .nil (.node [] [] (.cut [31] [(23, 31)] .nil (.node [] [] (.node [] [] .nil (.cut [46] [(34, 46)] .draw (.node [] [] (.node [] [] .nil (.node [0] [(0, 0), (49, 71)] (.node [] [] (.node [] [] .draw (.node [] [] .nil .nil)) .nil) .nil)) .nil))) .nil)) .nil)) .nil)) (.node [] [] .nil (.node [] [] .nil (.node [] [] .nil (.node [] [] .nil (.node [] [] .nil (.node [] [] (.cut [] [(2, 2), (85, 103)] (.node [] [] .draw (.node [] [] (.node [] [] .nil .nil) .nil)) .nil) (.node [] [] .nil (.node [] [] (.cut [] [(2, 2), (108, 138)] (.node [] [] .draw (.node [] [] (.node [] [] .nil .nil) .nil)) .nil) (.node [] [] .nil (.node [] [] (.cut [] [(2, 2), (143, 185)] (.node [] [] .draw (.node [] [] (.node [] [] .nil .nil) .nil)) .nil) (.node [] [] .nil .nil)))))))))))))) .nil) (.node [] [] .nil .nil))))) good mixed Tryz.func174 (by kernel_rfl) (by kernel_rfl) (by kernel_rfl) (by kernel_rfl) (Eq.mp (S174_eq v0 K w) h)

/-- unicode/utf8.word[[]byte] -/
def S200 (v0 : Value) (K : Cont) (w : World) : Prop :=
  DrawK w (fun C_1 =>
  ixK 1 v0 (.int .i64 0) fun t26 =>
  qld1K C_1 t26 fun t27 =>
  qrunK Tryz.prog C_1 (convert 5 34 t27) fun t28 =>
  ixK 1 v0 (.int .i64 1) fun t30 =>
  qld1K C_1 t30 fun t31 =>
  qrunK Tryz.prog C_1 (convert 5 34 t31) fun t32 =>
  qrunK Tryz.prog C_1 (binS .shl 34 (.tmp 32) (.const (.int .u64 8)) t32 (.int .u64 8)) fun t33 =>
  qrunK Tryz.prog C_1 (binS .or 34 (.tmp 28) (.tmp 33) t28 t33) fun t34 =>
  ixK 1 v0 (.int .i64 2) fun t36 =>
  qld1K C_1 t36 fun t37 =>
  qrunK Tryz.prog C_1 (convert 5 34 t37) fun t38 =>
  qrunK Tryz.prog C_1 (binS .shl 34 (.tmp 38) (.const (.int .u64 16)) t38 (.int .u64 16)) fun t39 =>
  qrunK Tryz.prog C_1 (binS .or 34 (.tmp 34) (.tmp 39) t34 t39) fun t40 =>
  ixK 1 v0 (.int .i64 3) fun t42 =>
  qld1K C_1 t42 fun t43 =>
  qrunK Tryz.prog C_1 (convert 5 34 t43) fun t44 =>
  qrunK Tryz.prog C_1 (binS .shl 34 (.tmp 44) (.const (.int .u64 24)) t44 (.int .u64 24)) fun t45 =>
  qrunK Tryz.prog C_1 (binS .or 34 (.tmp 40) (.tmp 45) t40 t45) fun t46 =>
  ixK 1 v0 (.int .i64 4) fun t48 =>
  qld1K C_1 t48 fun t49 =>
  qrunK Tryz.prog C_1 (convert 5 34 t49) fun t50 =>
  qrunK Tryz.prog C_1 (binS .shl 34 (.tmp 50) (.const (.int .u64 32)) t50 (.int .u64 32)) fun t51 =>
  qrunK Tryz.prog C_1 (binS .or 34 (.tmp 46) (.tmp 51) t46 t51) fun t52 =>
  ixK 1 v0 (.int .i64 5) fun t54 =>
  qld1K C_1 t54 fun t55 =>
  qrunK Tryz.prog C_1 (convert 5 34 t55) fun t56 =>
  qrunK Tryz.prog C_1 (binS .shl 34 (.tmp 56) (.const (.int .u64 40)) t56 (.int .u64 40)) fun t57 =>
  qrunK Tryz.prog C_1 (binS .or 34 (.tmp 52) (.tmp 57) t52 t57) fun t58 =>
  ixK 1 v0 (.int .i64 6) fun t60 =>
  qld1K C_1 t60 fun t61 =>
  qrunK Tryz.prog C_1 (convert 5 34 t61) fun t62 =>
  qrunK Tryz.prog C_1 (binS .shl 34 (.tmp 62) (.const (.int .u64 48)) t62 (.int .u64 48)) fun t63 =>
  qrunK Tryz.prog C_1 (binS .or 34 (.tmp 58) (.tmp 63) t58 t63) fun t64 =>
  ixK 1 v0 (.int .i64 7) fun t66 =>
  qld1K C_1 t66 fun t67 =>
  qrunK Tryz.prog C_1 (convert 5 34 t67) fun t68 =>
  qrunK Tryz.prog C_1 (binS .shl 34 (.tmp 68) (.const (.int .u64 56)) t68 (.int .u64 56)) fun t69 =>
  qrunK Tryz.prog C_1 (binS .or 34 (.tmp 64) (.tmp 69) t64 t69) fun t70 =>
  ∀ w2 : World, C_1 w2 →
  K t70 w2)
theorem S200_eq (v0 : Value) (K : Cont) (w : World) : S200 v0 K w = D Tryz.prog okf 71 (bodyOf Tryz.f200) (.node [] [] .nil (.node [] [] (.node [] [] (.node [] [] .draw .nil) .nil) (.node [] [] .draw .nil))) (retK Tryz.prog [.tmp 2] K) (nth [v0]) w := by kernel_rfl
theorem S200_ok {v0 : Value} {K : Cont} {w : World} (h : S200 v0 K w) : callK Tryz.prog 200 [v0] K w :=
  callK_of (P := Tryz.prog) (ok := okf) (n := 71) (fn := Tryz.f200) (c := bodyOf Tryz.f200) (rs := [.tmp 2]) (an := (.node [] [] .nil (.node [] [] (.node [] [] (.node [] [] .draw .nil) .nil) (.node [] [] .draw .nil)))) good mixed Tryz.func200 (by kernel_rfl) (by kernel_rfl) (by kernel_rfl) (by kernel_rfl) (Eq.mp (S200_eq v0 K w) h)

end Go.Proofs.YtlbaopamhkmepaaGreatDoor

namespace Go.K
open Go
theorem slice_lo_run {P : Program} {t e k : Nat} {i : TypeInfo} {a : Option Addr} {n c j : Nat} (ht : P.underlying t = some (.slice e)) (hi : P.info? e = some i) (hk : i.size = k) (hj : j ≤ n) (w : World) : (Instr.sliceAt t (.slice a n c) (some (.int .i64 j)) none none).run P w = .ok (sliced a j n c k) w := by
  have hel : P.elem t = e := by simp [Program.elem, ht]
  rw [run_sliceAt_slice _ _ _ _ _ _ (by rw [hel]; exact ht), run_slice_l _ _ _ _ _ (by rw [hel]; exact ht) _ _ (by omega) (by omega), hel]
  simp [sizeOf, typeInfo, hi, hk]
theorem slice_lo_sl {α : Type} {k : Nat} {R : World → List Value → α → Prop} {S : Nat → Prop} {w : World} {a : Option Addr} {n c : Nat} {l : List α} {j : Nat} (h : SlR S k R w (.slice a n c) l) (hj : j ≤ l.length) : SlR S k R w (sliced a j n c k) (l.drop j) := by
  obtain ⟨a', c', e1, h1, h2, h3⟩ := h
  cases e1
  unfold sliced
  refine ⟨_, _, by rw [List.length_drop], by rw [List.length_drop]; omega, by omega, fun q x hx => ?_⟩
  rw [List.getElem?_drop] at hx
  obtain ⟨p, r, rfl, hS, hr, hc, hR⟩ := h3 _ x hx
  have hlt := (List.getElem?_eq_some_iff.1 hx).1
  rw [if_neg (by omega)]
  refine ⟨p.add (j * k), r, rfl, by rw [add_block]; exact hS, hr, fun m u hu => ?_, hR⟩
  rw [Addr.add_add, ← Nat.add_assoc, ← Nat.add_mul]
  exact hc m u hu
theorem slice_all_run {P : Program} {t e k : Nat} {i : TypeInfo} {a : Option Addr} {n c : Nat} (ht : P.underlying t = some (.slice e)) (hi : P.info? e = some i) (hk : i.size = k) (hc : n ≤ c) (w : World) : ∃ a', (Instr.sliceAt t (.slice a n c) none (some (.int .i64 n)) (some (.int .i64 n))).run P w = .ok (.slice a' n n) w ∧ (0 < n → a' = a) := by
  have hel : P.elem t = e := by simp [Program.elem, ht]
  refine ⟨if n = 0 then a else a.map (·.add (0 * k)), ?_, fun h => ?_⟩
  · rw [run_sliceAt_slice _ _ _ _ _ _ (by rw [hel]; exact ht)]
    simp [Instr.slice, run_underlying ht, Instr.sliceBounds, run_sliceBound, hc, sizeOf, typeInfo, hi, hk, Result.andThen]
  · rw [if_neg (by omega)]
    cases a with
    | none => rfl
    | some a => simp [Addr.add]
theorem run_indexAt_arr {P : Program} {t e n s : Nat} {i : TypeInfo} {k : IntKind} {a : Addr} {j : Int} {w : World} (ht : P.underlying t = some (.array n e)) (hi : P.info? e = some i) (hs : i.size = s) (h0 : 0 ≤ j) (h1 : j < n) : (Instr.indexAt t (.pointer (some a)) (.int k j)).run P w = .ok (.pointer (some (a.add (j.toNat * s)))) w := by
  simp [Instr.indexAt, Instr.sureAddr, run_underlying ht, asIntOf, sizeOf, typeInfo, hi, hs, h0, h1, Result.andThen]
theorem run_conv {P : Program} {s d : TypeId} {q k : IntKind} {n : Int} (w : World) (hs : (P.underlying s).isSome = true) (hd : P.underlying d = some (.int k)) : (convert s d (.int q n)).run P w = .ok (.int k (k.wrap n)) w := by
  obtain ⟨e, he⟩ := Option.isSome_iff_exists.mp hs
  simp [convert, run_underlying he, run_underlying hd, Conv.intToInt]
theorem run_shl {P : Program} {t : TypeId} {xo yo : Operand} {k q : IntKind} {a : Int} {n : Nat} (w : World) (hn : n ≤ k.bits) : (binS .shl t xo yo (.int k a) (.int q n)).run P w = .ok (.int k (k.wrap (a * 2 ^ n))) w := by
  have h0 : ¬ ((n : Int) < 0) := by omega
  simp [binS, eqGuard, binOp, Op.shift, Nat.min_eq_left hn, h0]
theorem run_shr {P : Program} {t : TypeId} {xo yo : Operand} {k q : IntKind} {a : Int} {n : Nat} (w : World) (hn : n ≤ k.bits) : (binS .shr t xo yo (.int k a) (.int q n)).run P w = .ok (.int k (a.fdiv (2 ^ n))) w := by
  have h0 : ¬ ((n : Int) < 0) := by omega
  simp [binS, eqGuard, binOp, Op.shift, Nat.min_eq_left hn, h0]
theorem run_bits {P : Program} {t : TypeId} {xo yo : Operand} {k : IntKind} {a b : Int} (w : World) : (binS .or t xo yo (.int k a) (.int k b)).run P w = .ok (.int k (k.wrap (BitVec.ofInt k.bits a ||| BitVec.ofInt k.bits b).toNat)) w ∧ (binS .and t xo yo (.int k a) (.int k b)).run P w = .ok (.int k (k.wrap (BitVec.ofInt k.bits a &&& BitVec.ofInt k.bits b).toNat)) w := by
  constructor <;> simp [binS, eqGuard, binOp, Op.intBits]
end Go.K
namespace Go.Proofs.YtlbaopamhkmepaaGreatDoor
open Go Go.K

theorem run_or64 {t : TypeId} {xo yo : Operand} {a b : Int} (w : World) (ha : U64 a) (hb : U64 b) : (binS .or t xo yo (.int .u64 a) (.int .u64 b)).run Tryz.prog w = .ok (.int .u64 (orN a b)) w := by
  rw [(run_bits w).1]
  have e : ((BitVec.ofInt IntKind.u64.bits a ||| BitVec.ofInt IntKind.u64.bits b).toNat : Int) = orN a b := bv_or ha hb
  rw [e, wrapu64 (orN_U ha hb)]
theorem run_and64 {t : TypeId} {xo yo : Operand} {a b : Int} (w : World) (ha : U64 a) (hb : U64 b) : (binS .and t xo yo (.int .u64 a) (.int .u64 b)).run Tryz.prog w = .ok (.int .u64 ((a.toNat &&& b.toNat : Nat) : Int)) w := by
  rw [(run_bits w).2]
  have e : ((BitVec.ofInt IntKind.u64.bits a &&& BitVec.ofInt IntKind.u64.bits b).toNat : Int) = ((a.toNat &&& b.toNat : Nat) : Int) := bv_and ha hb
  rw [e, wrapu64 ⟨by omega, ?_⟩]
  have := Nat.and_le_left (n := a.toNat) (m := b.toNat)
  have := ha.2
  have := ha.1
  omega
def shB (x : Int) (j : Nat) : Int := x * 2 ^ (8 * j)
/-- eight bytes as a word -/
def wordN (b : List Int) : Int := orN (orN (orN (orN (orN (orN (orN (b.getD 0 0) (shB (b.getD 1 0) 1)) (shB (b.getD 2 0) 2)) (shB (b.getD 3 0) 3)) (shB (b.getD 4 0) 4)) (shB (b.getD 5 0) 5)) (shB (b.getD 6 0) 6)) (shB (b.getD 7 0) 7)
abbrev ByteL (b : List Int) : Prop := ∀ x ∈ b, 0 ≤ x ∧ x < 256
theorem ByteL.getD {b : List Int} (h : ByteL b) (j : Nat) : 0 ≤ b.getD j 0 ∧ b.getD j 0 < 256 := by
  rw [List.getD_eq_getElem?_getD]
  cases e : b[j]? with
  | none => simp
  | some x => exact h x (List.mem_iff_getElem?.2 ⟨j, e⟩)
theorem ByteL.drop {b : List Int} (h : ByteL b) (j : Nat) : ByteL (b.drop j) := fun x hx => h x (List.mem_of_mem_drop hx)
theorem byte_U {x : Int} (h : 0 ≤ x ∧ x < 256) : U64 x := ⟨h.1, by omega⟩
theorem wordN_U {b : List Int} (h : ByteL b) : U64 (wordN b) := by
  have u : ∀ j, j < 8 → U64 (shB (b.getD j 0) j) := fun j hj => hib_u hj (h.getD j).1 (h.getD j).2
  unfold wordN
  exact orN_U (orN_U (orN_U (orN_U (orN_U (orN_U (orN_U (byte_U (h.getD 0)) (u 1 (by decide))) (u 2 (by decide))) (u 3 (by decide))) (u 4 (by decide))) (u 5 (by decide))) (u 6 (by decide))) (u 7 (by decide))
theorem wordN_hi {b : List Int} (h : ByteL b) {j : Nat} (hj : j < 8) (hx : 128 ≤ b.getD j 0) : HiB (wordN b) j := by
  have hh := (hib_byte hj hx (h.getD j).2).2
  unfold wordN
  rcases (show j = 0 ∨ j = 1 ∨ j = 2 ∨ j = 3 ∨ j = 4 ∨ j = 5 ∨ j = 6 ∨ j = 7 by omega) with rfl | rfl | rfl | rfl | rfl | rfl | rfl | rfl
  · rw [show b.getD 0 0 * 2 ^ (8 * 0) = b.getD 0 0 by omega] at hh
    exact .l (.l (.l (.l (.l (.l (.l hh))))))
  · exact .l (.l (.l (.l (.l (.l (.r hh))))))
  · exact .l (.l (.l (.l (.l (.r hh)))))
  · exact .l (.l (.l (.l (.r hh))))
  · exact .l (.l (.l (.r hh)))
  · exact .l (.l (.r hh))
  · exact .l (.r hh)
  · exact .r hh
theorem word_step {C : World → Prop} {p : Addr} {n c : Nat} {b : Int} {j : Nat} {m : Int} {xo yo : Operand} {k : Value → Prop} (hj : j < n) (hm : m = 8 * j) (hj8 : j < 8) (hb : 0 ≤ b ∧ b < 256) (hc : ∀ w, C w → w.cell? (p.add (j * 1)) = some (.int .u8 b)) (hk : k (.int .u64 (shB b j))) :
    ixK 1 (.slice (some p) n c) (.int .i64 j) fun t30 => qld1K C t30 fun t31 => qrunK Tryz.prog C (convert 5 34 t31) fun t32 => qrunK Tryz.prog C (binS .shl 34 xo yo t32 (.int .u64 m)) k := by
  refine ixK_n hj (qld1K_i hc ⟨.int .u64 (IntKind.u64.wrap b), fun w _ => run_conv (k := .u64) w (by kernel_rfl) (by kernel_rfl), ?_⟩)
  rw [wrapu64 (byte_U hb)]
  subst hm
  refine ⟨_, fun w _ => ?_, hk⟩
  have e := run_shl (P := Tryz.prog) (t := 34) (xo := xo) (yo := yo) (k := .u64) (q := .u64) (a := b) (n := 8 * j) w (by show 8 * j ≤ 64; omega)
  rw [wrapu64 (hib_u hj8 hb.1 hb.2)] at e
  have e2 : ((8 * j : Nat) : Int) = 8 * (j : Int) := by omega
  rw [e2] at e
  exact e
theorem word_ok {S : Nat → Prop} {v : Value} {b : List Int} {w : World} (h : RBytes S w v b) (hb : ByteL b) (hl : 8 ≤ b.length) :
    callK Tryz.prog 200 [v] (fun v' w' => v' = .int .u64 (wordN b) ∧ Grow w w') w := by
  apply S200_ok
  unfold S200
  obtain ⟨a, c, rfl, hm⟩ := h.shape
  have cell : ∀ j (hj : j < b.length), ∃ p, a = some p ∧ w.cell? (p.add (j * 1)) = some (.int .u8 (b.getD j 0)) := by
    intro j hj
    obtain ⟨p, r, rfl, _, hr, hc, rfl⟩ := h.get hj
    refine ⟨p, rfl, ?_⟩
    rw [List.getD_eq_getElem?_getD, List.getElem?_eq_getElem hj]
    exact hc 0 _ rfl
  obtain ⟨p, rfl, c0⟩ := cell 0 (by omega)
  have cellp : ∀ j, j < b.length → w.cell? (p.add (j * 1)) = some (.int .u8 (b.getD j 0)) := fun j hj => by obtain ⟨p', e, hc⟩ := cell j hj; cases e; exact hc
  refine drawK_i (fun w2 => Grow w w2) (Mod.drew _ _) ?_
  have hc : ∀ j, j < b.length → ∀ w2, Grow w w2 → w2.cell? (p.add (j * 1)) = some (.int .u8 (b.getD j 0)) := fun j hj w2 g => g.cell (cellp j hj) fun h => h
  have u : ∀ j, j < 8 → U64 (shB (b.getD j 0) j) := fun j hj => hib_u hj (hb.getD j).1 (hb.getD j).2
  refine ixK_n (j := 0) (by omega) (qld1K_i (hc 0 (by omega)) ⟨.int .u64 (IntKind.u64.wrap (b.getD 0 0)), fun w _ => run_conv (k := .u64) w (by kernel_rfl) (by kernel_rfl), ?_⟩)
  rw [wrapu64 (byte_U (hb.getD 0))]
  have u0 := byte_U (hb.getD 0)
  refine word_step (j := 1) (by omega) rfl (by decide) (hb.getD 1) (hc 1 (by omega)) ⟨_, fun w _ => run_or64 w u0 (u 1 (by decide)), ?_⟩
  have u1 := orN_U u0 (u 1 (by decide))
  refine word_step (j := 2) (by omega) rfl (by decide) (hb.getD 2) (hc 2 (by omega)) ⟨_, fun w _ => run_or64 w u1 (u 2 (by decide)), ?_⟩
  have u2 := orN_U u1 (u 2 (by decide))
  refine word_step (j := 3) (by omega) rfl (by decide) (hb.getD 3) (hc 3 (by omega)) ⟨_, fun w _ => run_or64 w u2 (u 3 (by decide)), ?_⟩
  have u3 := orN_U u2 (u 3 (by decide))
  refine word_step (j := 4) (by omega) rfl (by decide) (hb.getD 4) (hc 4 (by omega)) ⟨_, fun w _ => run_or64 w u3 (u 4 (by decide)), ?_⟩
  have u4 := orN_U u3 (u 4 (by decide))
  refine word_step (j := 5) (by omega) rfl (by decide) (hb.getD 5) (hc 5 (by omega)) ⟨_, fun w _ => run_or64 w u4 (u 5 (by decide)), ?_⟩
  have u5 := orN_U u4 (u 5 (by decide))
  refine word_step (j := 6) (by omega) rfl (by decide) (hb.getD 6) (hc 6 (by omega)) ⟨_, fun w _ => run_or64 w u5 (u 6 (by decide)), ?_⟩
  have u6 := orN_U u5 (u 6 (by decide))
  refine word_step (j := 7) (by omega) rfl (by decide) (hb.getD 7) (hc 7 (by omega)) ⟨_, fun w _ => run_or64 w u6 (u 7 (by decide)), ?_⟩
  exact fun w2 g => ⟨rfl, g⟩
/-- a word without a high bit: eight bytes of ASCII -/
theorem word_ascii {b : List Int} (hb : ByteL b) (h : ((wordN b).toNat &&& 9259542123273814144 : Nat) = 0) {j : Nat} (hj : j < 8) : b.getD j 0 < 128 := by
  have := hib_none h hj
  have hx : ¬ 128 ≤ b.getD j 0 := fun hx => this (wordN_hi hb hj hx)
  omega
end Go.Proofs.YtlbaopamhkmepaaGreatDoor

namespace Go.Proofs.YtlbaopamhkmepaaGreatDoor
open Go Go.K

/-- the library's table of first bytes, from 128 on; the ranges of second bytes -/
def firstT (x : Int) : Int := if x < 194 then 241 else if x < 224 then 2 else if x = 224 then 19 else if x = 237 then 35 else if x < 240 then 3 else if x = 240 then 52 else if x < 244 then 4 else if x = 244 then 68 else 241
def accLo (j : Nat) : Int := if j = 1 then 160 else if j = 3 then 144 else if j < 5 then 128 else 0
def accHi (j : Nat) : Int := if j = 2 then 159 else if j = 4 then 143 else if j < 5 then 191 else 0
/-- the tables lie in memory -/
structure Tabs (w : World) : Prop where
  size : 1 < w.heap.size
  first : ∀ j : Nat, 128 ≤ j → j < 256 → w.cell? ⟨0, j, none⟩ = some (.int .u8 (firstT j))
  acc : ∀ j : Nat, j < 16 → w.cell? ⟨1, j * 2, none⟩ = some (.int .u8 (accLo j)) ∧ w.cell? ⟨1, j * 2 + 1, none⟩ = some (.int .u8 (accHi j))
theorem Tabs.grow {w w' : World} (h : Tabs w) (g : Grow w w') : Tabs w' :=
  ⟨Nat.lt_of_lt_of_le h.size g.size, fun j h1 h2 => g.cell (h.first j h1 h2) fun h => h, fun j hj => ⟨g.cell (h.acc j hj).1 fun h => h, g.cell (h.acc j hj).2 fun h => h⟩⟩
theorem Tabs.mod {M : Nat → Prop} {w w' : World} (h : Tabs w) (g : Mod M w w') (hM : ∀ b, b < 3 → ¬ M b) : Tabs w' :=
  ⟨Nat.lt_of_lt_of_le h.size g.size, fun j h1 h2 => g.cell (h.first j h1 h2) (hM 0 (by decide)), fun j hj => ⟨g.cell (h.acc j hj).1 (hM 1 (by decide)), g.cell (h.acc j hj).2 (hM 1 (by decide))⟩⟩

/-- what a first byte's entry says -/
theorem tab_ok {x : Int} (h0 : 128 ≤ x) (h1 : x < 256) : ∃ (f : Int) (z j : Nat), firstT x = f ∧ 0 ≤ f ∧ f < 256 ∧ (f.toNat &&& 7) = z ∧ f / 16 = j ∧ j < 16 ∧ (z = hdSize x ∨ hdSize x = 0 ∧ z = 1) ∧ (hdSize x ≠ 0 → accLo j = hdLo x ∧ accHi j = hdHi x) := by
  unfold firstT hdSize hdLo hdHi
  by_cases a1 : x < 194
  · exact ⟨241, 1, 15, by rw [if_pos a1], by decide, by decide, by decide, by decide, by decide, by rw [if_pos a1]; exact .inr ⟨rfl, rfl⟩, by rw [if_pos a1]; exact fun h => absurd rfl h⟩
  rw [if_neg a1, if_neg a1]
  by_cases a2 : x < 224
  · rw [if_pos a2, if_pos a2]
    exact ⟨2, 2, 0, rfl, by decide, by decide, by decide, by decide, by decide, .inl rfl, fun _ => ⟨by rw [if_neg (by omega), if_neg (by omega)]; rfl, by rw [if_neg (by omega), if_neg (by omega)]; rfl⟩⟩
  rw [if_neg a2, if_neg a2]
  by_cases a3 : x = 224
  · subst a3
    exact ⟨19, 3, 1, rfl, by decide, by decide, by decide, by decide, by decide, .inl rfl, fun _ => ⟨rfl, rfl⟩⟩
  rw [if_neg a3, if_neg a3]
  by_cases a4 : x = 237
  · subst a4
    exact ⟨35, 3, 2, rfl, by decide, by decide, by decide, by decide, by decide, .inl rfl, fun _ => ⟨rfl, rfl⟩⟩
  rw [if_neg a4, if_neg a4]
  by_cases a5 : x < 240
  · rw [if_pos a5, if_pos a5]
    exact ⟨3, 3, 0, rfl, by decide, by decide, by decide, by decide, by decide, .inl rfl, fun _ => ⟨by rw [if_neg (by omega)]; rfl, by rw [if_neg (by omega)]; rfl⟩⟩
  rw [if_neg a5, if_neg a5]
  by_cases a6 : x = 240
  · subst a6
    exact ⟨52, 4, 3, rfl, by decide, by decide, by decide, by decide, by decide, .inl rfl, fun _ => ⟨rfl, rfl⟩⟩
  rw [if_neg a6, if_neg a6]
  by_cases a7 : x < 244
  · rw [if_pos a7, if_pos (by omega)]
    exact ⟨4, 4, 0, rfl, by decide, by decide, by decide, by decide, by decide, .inl rfl, fun _ => ⟨rfl, by rw [if_neg (by omega)]; rfl⟩⟩
  rw [if_neg a7]
  by_cases a8 : x = 244
  · subst a8
    exact ⟨68, 4, 4, rfl, by decide, by decide, by decide, by decide, by decide, .inl rfl, fun _ => ⟨rfl, rfl⟩⟩
  rw [if_neg a8, if_neg (by omega)]
  exact ⟨241, 1, 15, rfl, by decide, by decide, by decide, by decide, by decide, .inr ⟨rfl, rfl⟩, fun h => absurd rfl h⟩
theorem hdSize_v (x : Int) : hdSize x = 0 ∨ hdSize x = 2 ∨ hdSize x = 3 ∨ hdSize x = 4 := by
  unfold hdSize
  (repeat' split) <;> simp
theorem run_and8 {t : TypeId} {xo yo : Operand} {a : Int} {z : Nat} (w : World) (h0 : 0 ≤ a) (h1 : a < 256) (hz : (a.toNat &&& 7) = z) : (binS .and t xo yo (.int .u8 a) (.int .u8 7)).run Tryz.prog w = .ok (.int .u8 z) w := by
  rw [(run_bits w).2]
  have e : ((BitVec.ofInt IntKind.u8.bits a &&& BitVec.ofInt IntKind.u8.bits 7).toNat : Int) = ((a.toNat &&& 7 : Nat) : Int) := by
    show ((BitVec.ofInt 8 a &&& BitVec.ofInt 8 7).toNat : Int) = _
    rw [BitVec.toNat_and, BitVec.toNat_ofInt, BitVec.toNat_ofInt]
    have e : ((2 ^ 8 : Nat) : Int) = 256 := by decide
    rw [e, Int.emod_eq_of_lt h0 h1]
    rfl
  have hz8 : z ≤ 7 := hz ▸ Nat.and_le_right
  rw [e, hz]
  congr 2
  have e1 : (2 : Int) ^ IntKind.u8.bits = 256 := by decide
  simp only [IntKind.wrap, e1, IntKind.signed, Bool.false_and]
  rw [if_neg (by decide)]
  omega
/-- how long a slice is -/
def slLen (v : Value) : Nat := match v with | .slice _ n _ => n | _ => 0
theorem skip_ok {l : List Int} {k : Nat} (hl : ByteL l) (hk : k ≤ l.length) (h : ∀ j, j < k → l.getD j 0 < 128) : (readB l).isSome = (readB (l.drop k)).isSome := by
  refine readB_skip hk fun j x hj hx => ?_
  have := h j hj
  rw [List.getD_eq_getElem?_getD, hx] at this
  exact ⟨(hl x (List.mem_iff_getElem?.2 ⟨j, hx⟩)).1, this⟩
theorem getD_drop (l : List Int) (k j : Nat) : (l.drop k).getD j 0 = l.getD (k + j) 0 := by
  rw [List.getD_eq_getElem?_getD, List.getD_eq_getElem?_getD, List.getElem?_drop]
theorem and_or_zero {a b c : Nat} (h : ((a ||| b) &&& c) = 0) : (a &&& c) = 0 ∧ (b &&& c) = 0 := by
  rw [Nat.and_or_distrib_right] at h
  exact Nat.or_eq_zero_iff.1 h
theorem hi_zero {n : Nat} (h : ((n &&& (9259542123273814144 : Int).toNat : Nat) : Int) = 0) : (n &&& 9259542123273814144) = 0 := Int.ofNat_inj.1 h
set_option maxRecDepth 10000 in
theorem valid_ok {S : Nat → Prop} {v : Value} {b : List Int} {w : World} (h : RBytes S w v b) (hb : ByteL b) (hT : Tabs w) :
    callK Tryz.prog 174 [v] (fun v' w' => v' = .bool (readB b).isSome ∧ Grow w w') w := by
  apply S174_ok
  unfold S174
  have hu : Tryz.prog.underlying 70 = some (.slice 5) := by kernel_rfl
  have hi : Tryz.prog.info? 5 = some Tryz.t5 := by kernel_rfl
  have hs : Tryz.t5.size = 1 := by kernel_rfl
  obtain ⟨a, c, rfl, hm⟩ := h.shape
  obtain ⟨_, _, e0, hc0, _, _⟩ := id h
  cases e0
  rw [lenK_i, lenK_i]
  obtain ⟨a', hr0, ha'⟩ := slice_all_run (a := a) (n := b.length) (c := c) hu hi hs hc0 w
  refine runK_i hr0 ?_
  have h' : RBytes S w (.slice a' b.length b.length) b := by
    obtain ⟨_, _, e0, h1, h2, h3⟩ := h
    cases e0
    refine ⟨_, _, rfl, Nat.le_refl _, hm, fun i x hx => ?_⟩
    obtain ⟨p, r, rfl, q⟩ := h3 i x hx
    have := (List.getElem?_eq_some_iff.1 hx).1
    exact ⟨p, r, ha' (by omega), q⟩
  refine LoopK_i (fun vs W => ∃ l v1, vs = [v1] ∧ RBytes S W v1 l ∧ ByteL l ∧ (readB b).isSome = (readB l).isSome ∧ Grow w W) (fun vs _ => slLen (nth vs 0)) ⟨b, _, rfl, h', hb, rfl, Mod.refl _ _⟩ ?_
  rintro vs W ⟨l, v1, rfl, hl, hB, hrd, gW⟩ _
  rw [nth_z, List.headD_cons]
  obtain ⟨p1, c1, rfl, hm1⟩ := hl.shape
  simp only [maxLen] at hm1
  rw [lenK_i, gtK_i]
  refine condK_p (fun hpos => ?_) fun hneg => ?_
  rotate_left
  · have : l = [] := List.eq_nil_of_length_eq_zero (by omega)
    subst this
    exact ⟨by rw [hrd, readB_nil]; rfl, gW⟩
  -- the round ends with a rest that is shorter
  have again : ∀ {W' : World} {v' : Value} {l' : List Int}, RBytes S W' v' l' → ByteL l' → (readB l).isSome = (readB l').isSome → l'.length < l.length → Grow w W' →
      ((∃ l v1, [v'] = [v1] ∧ RBytes S W' v1 l ∧ ByteL l ∧ (readB b).isSome = (readB l).isSome ∧ Grow w W') ∧ slLen (nth [v'] 0) < slLen (nth [Value.slice p1 l.length c1] 0)) := by
    intro W' v' l' h1 h2 h3 h4 h5
    obtain ⟨q, d, rfl, _⟩ := h1.shape
    exact ⟨⟨l', _, rfl, h1, h2, hrd.trans h3, h5⟩, h4⟩
  have sl : ∀ {W' : World} {q : Option Addr} {n d j : Nat} {l' : List Int} {K : Cont}, RBytes S W' (.slice q n d) l' → j ≤ l'.length → (∀ v', RBytes S W' v' (l'.drop j) → K v' W') → runK Tryz.prog (Instr.sliceAt 70 (.slice q n d) (some (.int .i64 j)) none none) K W' :=
    fun h1 h2 h3 => slice_lo (e := 5) (i := Tryz.t5) hu hi hs h1 h2 h3
  have ge : ∀ {W1 W2 : World} {v' : Value} {l' : List Int}, RBytes S W1 v' l' → Grow W1 W2 → RBytes S W2 v' l' := fun h1 g => h1.grow g (by decide) fun _ _ h => h
  -- a word's call, in a region
  have wq : ∀ {W1 : World} {v' : Value} {l' : List Int} {K : Value → Prop}, RBytes S W1 v' l' → ByteL l' → 8 ≤ l'.length → K (.int .u64 (wordN l')) → qcallK Tryz.prog (fun W2 => Grow W1 W2) 200 [v'] K := by
    intro W1 v' l' K h1 h2 h3 h4
    refine ⟨_, fun w2 g => callK_mono (word_ok (ge h1 g) h2 h3) ?_, h4⟩
    rintro _ w3 ⟨rfl, g3⟩
    exact ⟨rfl, g.trans g3⟩
  obtain ⟨x, t, rfl⟩ : ∃ x t, l = x :: t := by cases l with | nil => simp at hpos | cons x t => exact ⟨x, t, rfl⟩
  have hx := hB x List.mem_cons_self
  have hBt : ByteL t := fun y hy => hB y (List.mem_cons_of_mem _ hy)
  obtain ⟨p, r, rfl, _, hr, hc, rfl⟩ := hl.get (i := 0) (by simp)
  have cx : W.cell? (p.add (0 * 1 + 0)) = some (.int .u8 x) := hc 0 _ rfl
  refine ixK_n (j := 0) (by simp) (ld1K_i cx ?_)
  show ltK .u8 (.int .u8 x) _ _
  rw [ltK_i]
  refine condK_p (fun hlo => ?_) fun hhi => ?_
  · -- ASCII
    have hrt : (readB (x :: t)).isSome = (readB t).isSome := by
      have := skip_ok (l := x :: t) (k := 1) hB (by simp) fun j hj => by
        have : j = 0 := by omega
        subst this; exact hlo
      simpa using this
    refine sl hl (j := 1) (by simp) fun v2 hv2 => ?_
    rw [List.drop_succ_cons, List.drop_zero] at hv2
    obtain ⟨q2, d2, rfl, _⟩ := hv2.shape
    refine JoinK_i (fun vs W2 => Grow W W2 ∧ ∃ q : Bool, vs = [.bool q] ∧ (q = true → 8 ≤ t.length ∧ ∀ j, j < 8 → t.getD j 0 < 128)) ?_ ?_
    · rintro vs W2 ⟨g2, q, rfl, hq⟩ _
      rw [nth_z, List.headD_cons]
      cases q with
      | false => exact condK_f (again (ge hv2 g2) hBt hrt (by simp) (gW.trans g2))
      | true =>
        obtain ⟨h8, hq8⟩ := hq rfl
        refine condK_t (sl (ge hv2 g2) (j := 8) h8 fun v3 hv3 => ?_)
        have hB3 : ByteL (t.drop 8) := ByteL.drop hBt 8
        have hr3 : (readB (x :: t)).isSome = (readB (t.drop 8)).isSome := hrt.trans (skip_ok hBt h8 hq8)
        have hl3 : (t.drop 8).length < (x :: t).length := by simp; omega
        generalize t.drop 8 = l3 at hv3 hB3 hr3 hl3
        obtain ⟨q3, d3, rfl, _⟩ := hv3.shape
        refine JoinK_i (fun vs W3 => Grow W W3 ∧ Grow W2 W3 ∧ ∃ q : Bool, vs = [.bool q] ∧ (q = true → 16 ≤ l3.length ∧ ∀ j, j < 16 → l3.getD j 0 < 128)) ?_ ?_
        · rintro vs W3 ⟨g3, g23, q, rfl, hq⟩ _
          rw [nth_z, List.headD_cons]
          cases q with
          | false => exact condK_f (again (ge hv3 g23) hB3 hr3 hl3 (gW.trans g3))
          | true =>
            obtain ⟨h16, hq16⟩ := hq rfl
            refine condK_t (sl (ge hv3 g23) (j := 16) h16 fun v4 hv4 => ?_)
            refine LoopK_i (fun vs W4 => ∃ l4 v5, vs = [v5] ∧ RBytes S W4 v5 l4 ∧ ByteL l4 ∧ (readB (x :: t)).isSome = (readB l4).isSome ∧ l4.length < (x :: t).length ∧ Grow W W4) (fun vs _ => slLen (nth vs 0))
              ⟨_, _, rfl, hv4, ByteL.drop hB3 16, hr3.trans (skip_ok hB3 h16 hq16), by simp only [List.length_drop]; omega, g3⟩ ?_
            rintro vs W4 ⟨l4, v5, rfl, hv5, hB4, hr4, hl4, g4⟩ _
            rw [nth_z, List.headD_cons]
            obtain ⟨q5, d5, rfl, _⟩ := hv5.shape
            refine drawK_i (fun W' => Grow W4 W') (Mod.drew _ _) ?_
            rw [lenK_i, gtK_i]
            refine condK_p (fun h32 => ?_) fun _ => fun W' g' => again (ge hv5 g') hB4 hr4 hl4 (gW.trans (g4.trans g'))
            have h32' : 32 < l4.length := by omega
            have run := fun (j : Nat) (hj : j ≤ l4.length) (w' : World) => slice_lo_run (a := q5) (n := l4.length) (c := d5) hu hi hs hj w'
            have sls := fun (j : Nat) (hj : j ≤ l4.length) => slice_lo_sl hv5 hj
            refine wq hv5 hB4 (by omega) ?_
            refine ⟨_, fun w' _ => run 8 (by omega) w', ?_⟩
            refine wq (sls 8 (by omega)) (ByteL.drop hB4 8) (by simp only [List.length_drop]; omega) ?_
            have u0 := wordN_U hB4
            have u1 := wordN_U (ByteL.drop hB4 8)
            have u2 := wordN_U (ByteL.drop hB4 16)
            have u3 := wordN_U (ByteL.drop hB4 24)
            refine ⟨_, fun w' _ => run_or64 w' u0 u1, ?_⟩
            refine ⟨_, fun w' _ => run 16 (by omega) w', ?_⟩
            refine wq (sls 16 (by omega)) (ByteL.drop hB4 16) (by simp only [List.length_drop]; omega) ?_
            refine ⟨_, fun w' _ => run 24 (by omega) w', ?_⟩
            refine wq (sls 24 (by omega)) (ByteL.drop hB4 24) (by simp only [List.length_drop]; omega) ?_
            refine ⟨_, fun w' _ => run_or64 w' u2 u3, ?_⟩
            refine ⟨_, fun w' _ => run_or64 w' (orN_U u0 u1) (orN_U u2 u3), ?_⟩
            refine ⟨_, fun w' _ => run_and64 w' (orN_U (orN_U u0 u1) (orN_U u2 u3)) (by unfold U64; decide), ?_⟩
            show eqK .u64 (.int .u64 _) _ _
            rw [eqK_i]
            intro W' g'
            refine condK_p (fun hz => ?_) fun _ => again (ge hv5 g') hB4 hr4 hl4 (gW.trans (g4.trans g'))
            have hz' : ((orN (orN (wordN l4) (wordN (l4.drop 8))) (orN (wordN (l4.drop 16)) (wordN (l4.drop 24)))).toNat &&& 9259542123273814144 : Nat) = 0 := hi_zero hz
            simp only [orN, Int.toNat_natCast] at hz'
            obtain ⟨z1, z2⟩ := and_or_zero hz'
            obtain ⟨z3, z4⟩ := and_or_zero z1
            obtain ⟨z5, z6⟩ := and_or_zero z2
            have a32 : ∀ j, j < 32 → l4.getD j 0 < 128 := by
              intro j hj
              rcases (show j < 8 ∨ 8 ≤ j ∧ j < 16 ∨ 16 ≤ j ∧ j < 24 ∨ 24 ≤ j by omega) with h | h | h | h
              · exact word_ascii hB4 z3 h
              · have := word_ascii (ByteL.drop hB4 8) z4 (j := j - 8) (by omega)
                rw [getD_drop, show 8 + (j - 8) = j by omega] at this; exact this
              · have := word_ascii (ByteL.drop hB4 16) z5 (j := j - 16) (by omega)
                rw [getD_drop, show 16 + (j - 16) = j by omega] at this; exact this
              · have := word_ascii (ByteL.drop hB4 24) z6 (j := j - 24) (by omega)
                rw [getD_drop, show 24 + (j - 24) = j by omega] at this; exact this
            refine sl (ge hv5 g') (j := 32) (by omega) fun v6 hv6 => ?_
            obtain ⟨q6, d6, rfl, _⟩ := hv6.shape
            refine ⟨⟨_, _, rfl, hv6, ByteL.drop hB4 32, hr4.trans (skip_ok hB4 (by omega) a32), by simp only [List.length_drop]; omega, g4.trans g'⟩, ?_⟩
            show (l4.drop 32).length < l4.length
            rw [List.length_drop]; omega
        · refine drawK_i (fun W' => Grow W2 W') (Mod.drew _ _) ?_
          rw [lenK_i, gtK_i]
          refine condK_p (fun h16 => ?_) fun _ => fun W' g' => ⟨g2.trans g', g', false, rfl, fun h => (nomatch h)⟩
          have h16' : 16 < l3.length := by omega
          refine wq hv3 hB3 (by omega) ?_
          refine ⟨_, fun w' _ => slice_lo_run (a := q3) (n := l3.length) (c := d3) hu hi hs (j := 8) (by omega) w', ?_⟩
          refine wq (slice_lo_sl hv3 (by omega)) (ByteL.drop hB3 8) (by simp only [List.length_drop]; omega) ?_
          have u0 := wordN_U hB3
          have u1 := wordN_U (ByteL.drop hB3 8)
          refine ⟨_, fun w' _ => run_or64 w' u0 u1, ?_⟩
          refine ⟨_, fun w' _ => run_and64 w' (orN_U u0 u1) (by unfold U64; decide), ?_⟩
          show eqK .u64 (.int .u64 _) _ _
          rw [eqK_i]
          intro W' g'
          refine ⟨g2.trans g', g', _, rfl, fun hz => ?_⟩
          rw [decide_eq_true_eq] at hz
          have hz' : ((orN (wordN l3) (wordN (l3.drop 8))).toNat &&& 9259542123273814144 : Nat) = 0 := hi_zero hz
          simp only [orN, Int.toNat_natCast] at hz'
          obtain ⟨z1, z2⟩ := and_or_zero hz'
          refine ⟨by omega, fun j hj => ?_⟩
          rcases (show j < 8 ∨ 8 ≤ j by omega) with h | h
          · exact word_ascii hB3 z1 h
          · have := word_ascii (ByteL.drop hB3 8) z2 (j := j - 8) (by omega)
            rw [getD_drop, show 8 + (j - 8) = j by omega] at this; exact this
    · rw [lenK_i, gtK_i]
      refine condK_p (fun h8 => ?_) fun _ => ⟨Mod.refl _ _, false, rfl, fun h => (nomatch h)⟩
      have h8' : 8 < t.length := by omega
      refine callK_mono (word_ok hv2 hBt (by omega)) ?_
      rintro _ W2 ⟨rfl, g2⟩
      refine runK_i (run_and64 W2 (wordN_U hBt) (by unfold U64; decide)) ?_
      rw [eqK_i]
      refine ⟨g2, _, rfl, fun hz => ?_⟩
      rw [decide_eq_true_eq] at hz
      exact ⟨by omega, fun j hj => word_ascii hBt (hi_zero hz) hj⟩
  · -- the first byte of several
    have bad : nextB (x :: t) = (0, 0) → ∀ {W'}, Grow w W' → Value.bool false = .bool (readB b).isSome ∧ Grow w W' := fun e W' g => ⟨by rw [hrd, readB_step (by simp), e]; rfl, g⟩
    have good : ∀ {n : Nat} {r : Int}, nextB (x :: t) = (r, n) → 0 < n → (readB (x :: t)).isSome = (readB ((x :: t).drop n)).isSome := by
      intro n r e hn
      rw [readB_step (by simp), e]
      show (decide (n ≠ 0) && _) = _
      rw [decide_eq_true (show n ≠ 0 by omega), Bool.true_and]
    obtain ⟨f, z, j, hf, hf0, hf1, hz, hj, hj16, hzs, hacc⟩ := tab_ok (x := x) (by omega) hx.2
    have hTW := hT.grow gW
    have cf : W.cell? (Addr.add ⟨0, 0, none⟩ (x.toNat * 1)) = some (.int .u8 f) := by
      rw [addr0, Nat.mul_one, ← hf]
      have := hTW.first x.toNat (by omega) (by omega)
      rwa [show ((x.toNat : Nat) : Int) = x by omega] at this
    refine runK_i (run_indexAt_arr (n := 256) (e := 5) (i := Tryz.t5) (s := 1) (by kernel_rfl) (by kernel_rfl) (by kernel_rfl) hx.1 (by omega)) (ld1K_i cf ?_)
    refine runK_i (run_and8 W hf0 hf1 hz) ?_
    refine runK_i (run_conv (k := .i64) W (by kernel_rfl) (by kernel_rfl)) ?_
    have hz7 : z ≤ 7 := hz ▸ Nat.and_le_right
    rw [wrap64 (by omega) (by omega)]
    refine runK_i (run_shr (n := 4) W (by decide)) ?_
    have ej : f.fdiv (2 ^ 4) = (j : Int) := by
      rw [Int.fdiv_eq_ediv_of_nonneg _ (by decide), ← hj]; rfl
    rw [ej]
    refine runK_i (run_indexAt_arr (n := 16) (e := 244) (i := Tryz.t244) (s := 2) (by kernel_rfl) (by kernel_rfl) (by kernel_rfl) (by omega) (by omega)) ?_
    rw [Int.toNat_natCast, addr0]
    obtain ⟨ca, cb⟩ := hTW.acc j hj16
    refine ldnK_i (vs := [.int .u8 (accLo j), .int .u8 (accHi j)]) rfl (fun q u hu => ?_) ?_
    · rcases q with _ | _ | q
      · cases hu; exact ca
      · cases hu; exact cb
      · simp at hu
    refine newst_n (vs := [.int .u8 (accLo j), .int .u8 (accHi j)]) rfl rfl (fun u hu => by simp at hu; rcases hu with rfl | rfl <;> rfl) fun b6 W2 hb6 hz6 g6 hc6 _ => ?_
    have c6a := hc6 0 _ rfl
    have c6b := hc6 1 _ rfl
    have gW2 := gW.trans g6
    have hl2 := ge hl g6
    have lenpos : 0 < (x :: t).length := by simp
    -- the second byte's test, the third's
    rw [eqK_i]
    refine condK_p (fun h2 => ?_) fun h2 => ?_
    · have hz2 : z = 2 := by omega
      have hsz : hdSize x = 2 := by omega
      obtain ⟨elo, ehi⟩ := hacc (by omega)
      refine JoinK_i (fun _ W3 => Grow W2 W3 ∧ 2 ≤ (x :: t).length ∧ (readB (x :: t)).isSome = (readB ((x :: t).drop 2)).isSome) ?_ ?_
      · rintro vs W3 ⟨g3, hle, hrr⟩ _
        refine sl (ge hl2 g3) (j := 2) hle fun v3 hv3 => ?_
        exact again hv3 (ByteL.drop hB 2) hrr (by rw [List.length_drop]; omega) (gW2.trans g3)
      refine drawK_i (fun W' => Grow W2 W') (Mod.drew _ _) ?_
      rw [lenK_i, ltK_i]
      refine condK_p (fun hsh => fun W' g' => bad (next_short hx.2 (by rw [hsz]; omega)) (gW2.trans g')) fun hlg => ?_
      obtain ⟨y1, t1, rfl⟩ : ∃ y t', t = y :: t' := by cases t with | nil => simp at hlg | cons y t' => exact ⟨y, t', rfl⟩
      have hy1 := hBt y1 List.mem_cons_self
      have hn := next_2 (t := t1) hsz hy1.1 hy1.2
      obtain ⟨_, r1, e1, _, hr1, hc1, rfl⟩ := hl2.get (i := 1) (by simp)
      cases e1
      have cy1 := hc1 0 _ rfl
      refine ixK_n (j := 1) (by simp) (qld1K_i (fun w' g => g.cell cy1 fun h => h) ?_)
      rw [faK_i]
      refine qld1K_i (fun w' g => g.cell c6a fun h => h) ?_
      show ltK .u8 (.int .u8 y1) _ _
      rw [ltK_i]
      refine condK_p (fun hb1 => fun W' g' => bad (by rw [hn, if_neg (by omega)]) (gW2.trans g')) fun hb1 => ?_
      rw [faK_i]
      refine qld1K_i (fun w' g => g.cell c6b fun h => h) ?_
      refine ixK_n (j := 1) (by simp) (qld1K_i (fun w' g => g.cell cy1 fun h => h) ?_)
      show ltK .u8 _ (.int .u8 y1) _
      rw [ltK_i]
      intro W' g'
      refine condK_p (fun hb2 => bad (by rw [hn, if_neg (by omega)]) (gW2.trans g')) fun hb2 => ?_
      exact ⟨g', by simp, good (by rw [hn, if_pos (by omega)]) (by decide)⟩
    rw [eqK_i]
    refine condK_p (fun h3 => ?_) fun h3 => ?_
    · have hz3 : z = 3 := by omega
      have hsz : hdSize x = 3 := by omega
      obtain ⟨elo, ehi⟩ := hacc (by omega)
      refine JoinK_i (fun _ W3 => Grow W2 W3 ∧ 3 ≤ (x :: t).length ∧ (readB (x :: t)).isSome = (readB ((x :: t).drop 3)).isSome) ?_ ?_
      · rintro vs W3 ⟨g3, hle, hrr⟩ _
        refine sl (ge hl2 g3) (j := 3) hle fun v3 hv3 => ?_
        exact again hv3 (ByteL.drop hB 3) hrr (by rw [List.length_drop]; omega) (gW2.trans g3)
      refine drawK_i (fun W' => Grow W2 W') (Mod.drew _ _) ?_
      rw [lenK_i, ltK_i]
      refine condK_p (fun hsh => fun W' g' => bad (next_short hx.2 (by rw [hsz]; omega)) (gW2.trans g')) fun hlg => ?_
      obtain ⟨y1, y2, t1, rfl⟩ : ∃ y y2 t', t = y :: y2 :: t' := by
        rcases t with _ | ⟨y, _ | ⟨y2, t'⟩⟩
        · simp at hlg
        · simp at hlg
        · exact ⟨y, y2, t', rfl⟩
      have hy1 := hBt y1 List.mem_cons_self
      have hy2 := hBt y2 (List.mem_cons_of_mem _ List.mem_cons_self)
      have hn := next_3 (t := t1) hsz hy1.1 hy1.2 hy2.1 hy2.2
      obtain ⟨_, r1, e1, _, hr1, hc1, rfl⟩ := hl2.get (i := 1) (by simp)
      cases e1
      have cy1 := hc1 0 _ rfl
      obtain ⟨_, r2, e2, _, hr2, hc2, rfl⟩ := hl2.get (i := 2) (by simp)
      cases e2
      have cy2 := hc2 0 _ rfl
      refine ixK_n (j := 1) (by simp) (qld1K_i (fun w' g => g.cell cy1 fun h => h) ?_)
      rw [faK_i]
      refine qld1K_i (fun w' g => g.cell c6a fun h => h) ?_
      show ltK .u8 (.int .u8 y1) _ _
      rw [ltK_i]
      refine condK_p (fun hb1 => fun W' g' => bad (by rw [hn, if_neg (by omega)]) (gW2.trans g')) fun hb1 => ?_
      rw [faK_i]
      refine qld1K_i (fun w' g => g.cell c6b fun h => h) ?_
      refine ixK_n (j := 1) (by simp) (qld1K_i (fun w' g => g.cell cy1 fun h => h) ?_)
      show ltK .u8 _ (.int .u8 y1) _
      rw [ltK_i]
      refine condK_p (fun hb2 => fun W' g' => bad (by rw [hn, if_neg (by omega)]) (gW2.trans g')) fun hb2 => ?_
      refine ixK_n (j := 2) (by simp) (qld1K_i (fun w' g => g.cell cy2 fun h => h) ?_)
      show ltK .u8 (.int .u8 y2) _ _
      rw [ltK_i]
      refine condK_p (fun hb3 => fun W' g' => bad (by rw [hn, if_neg (by omega)]) (gW2.trans g')) fun hb3 => ?_
      refine ixK_n (j := 2) (by simp) (qld1K_i (fun w' g => g.cell cy2 fun h => h) ?_)
      show ltK .u8 _ (.int .u8 y2) _
      rw [ltK_i]
      intro W' g'
      refine condK_p (fun hb4 => bad (by rw [hn, if_neg (by omega)]) (gW2.trans g')) fun hb4 => ?_
      exact ⟨g', by simp, good (by rw [hn, if_pos (by omega)]) (by decide)⟩
    rw [eqK_i]
    refine condK_p (fun h4 => ?_) fun h4 => ?_
    · have hz4 : z = 4 := by omega
      have hsz : hdSize x = 4 := by omega
      obtain ⟨elo, ehi⟩ := hacc (by omega)
      refine JoinK_i (fun _ W3 => Grow W2 W3 ∧ 4 ≤ (x :: t).length ∧ (readB (x :: t)).isSome = (readB ((x :: t).drop 4)).isSome) ?_ ?_
      · rintro vs W3 ⟨g3, hle, hrr⟩ _
        refine sl (ge hl2 g3) (j := 4) hle fun v3 hv3 => ?_
        exact again hv3 (ByteL.drop hB 4) hrr (by rw [List.length_drop]; omega) (gW2.trans g3)
      refine drawK_i (fun W' => Grow W2 W') (Mod.drew _ _) ?_
      rw [lenK_i, ltK_i]
      refine condK_p (fun hsh => fun W' g' => bad (next_short hx.2 (by rw [hsz]; omega)) (gW2.trans g')) fun hlg => ?_
      obtain ⟨y1, y2, y3, t1, rfl⟩ : ∃ y y2 y3 t', t = y :: y2 :: y3 :: t' := by
        rcases t with _ | ⟨y, _ | ⟨y2, _ | ⟨y3, t'⟩⟩⟩
        · simp at hlg
        · simp at hlg
        · simp at hlg
        · exact ⟨y, y2, y3, t', rfl⟩
      have hy1 := hBt y1 List.mem_cons_self
      have hy2 := hBt y2 (List.mem_cons_of_mem _ List.mem_cons_self)
      have hy3 := hBt y3 (List.mem_cons_of_mem _ (List.mem_cons_of_mem _ List.mem_cons_self))
      have hn := next_4 (t := t1) hsz hy1.1 hy1.2 hy2.1 hy2.2 hy3.1 hy3.2
      obtain ⟨_, r1, e1, _, hr1, hc1, rfl⟩ := hl2.get (i := 1) (by simp)
      cases e1
      have cy1 := hc1 0 _ rfl
      obtain ⟨_, r2, e2, _, hr2, hc2, rfl⟩ := hl2.get (i := 2) (by simp)
      cases e2
      have cy2 := hc2 0 _ rfl
      obtain ⟨_, r3, e3, _, hr3, hc3, rfl⟩ := hl2.get (i := 3) (by simp)
      cases e3
      have cy3 := hc3 0 _ rfl
      refine ixK_n (j := 1) (by simp) (qld1K_i (fun w' g => g.cell cy1 fun h => h) ?_)
      rw [faK_i]
      refine qld1K_i (fun w' g => g.cell c6a fun h => h) ?_
      show ltK .u8 (.int .u8 y1) _ _
      rw [ltK_i]
      refine condK_p (fun hb1 => fun W' g' => bad (by rw [hn, if_neg (by omega)]) (gW2.trans g')) fun hb1 => ?_
      rw [faK_i]
      refine qld1K_i (fun w' g => g.cell c6b fun h => h) ?_
      refine ixK_n (j := 1) (by simp) (qld1K_i (fun w' g => g.cell cy1 fun h => h) ?_)
      show ltK .u8 _ (.int .u8 y1) _
      rw [ltK_i]
      refine condK_p (fun hb2 => fun W' g' => bad (by rw [hn, if_neg (by omega)]) (gW2.trans g')) fun hb2 => ?_
      refine ixK_n (j := 2) (by simp) (qld1K_i (fun w' g => g.cell cy2 fun h => h) ?_)
      show ltK .u8 (.int .u8 y2) _ _
      rw [ltK_i]
      refine condK_p (fun hb3 => fun W' g' => bad (by rw [hn, if_neg (by omega)]) (gW2.trans g')) fun hb3 => ?_
      refine ixK_n (j := 2) (by simp) (qld1K_i (fun w' g => g.cell cy2 fun h => h) ?_)
      show ltK .u8 _ (.int .u8 y2) _
      rw [ltK_i]
      refine condK_p (fun hb4 => fun W' g' => bad (by rw [hn, if_neg (by omega)]) (gW2.trans g')) fun hb4 => ?_
      refine ixK_n (j := 3) (by simp) (qld1K_i (fun w' g => g.cell cy3 fun h => h) ?_)
      show ltK .u8 (.int .u8 y3) _ _
      rw [ltK_i]
      refine condK_p (fun hb5 => fun W' g' => bad (by rw [hn, if_neg (by omega)]) (gW2.trans g')) fun hb5 => ?_
      refine ixK_n (j := 3) (by simp) (qld1K_i (fun w' g => g.cell cy3 fun h => h) ?_)
      show ltK .u8 _ (.int .u8 y3) _
      rw [ltK_i]
      intro W' g'
      refine condK_p (fun hb6 => bad (by rw [hn, if_neg (by omega)]) (gW2.trans g')) fun hb6 => ?_
      exact ⟨g', by simp, good (by rw [hn, if_pos (by omega)]) (by decide)⟩
    · exact bad (next_bad hB (by omega) (by have := hdSize_v x; omega)) gW2
end Go.Proofs.YtlbaopamhkmepaaGreatDoor

namespace Go.Proofs.YtlbaopamhkmepaaGreatDoor
open Go Go.K

/-- a natural number in groups of seven bits, the lowest first -/
def uvB : Nat → Nat → List Int
  | 0, n => [(n : Int)]
  | f + 1, n => if n ≤ 127 then [(n : Int)] else ((n % 128 + 128 : Nat) : Int) :: uvB f (n / 128)
def uv (n : Nat) : List Int := uvB 9 n
def zigN (n : Int) : Nat := if 0 ≤ n then (2 * n).toNat else (-2 * n - 1).toNat
theorem zigN_inj {a b : Int} (h : zigN a = zigN b) : a = b := by
  unfold zigN at h
  split at h <;> split at h <;> omega
theorem zigN_lt {n : Int} (h0 : -9223372036854775808 ≤ n) (h1 : n ≤ 9223372036854775807) : zigN n < 18446744073709551616 := by
  unfold zigN; split <;> omega
theorem uvB_pre : ∀ {f n m : Nat} {x y : List Int}, n < 128 ^ (f + 1) → m < 128 ^ (f + 1) → uvB f n ++ x = uvB f m ++ y → n = m ∧ x = y := by
  intro f
  induction f with
  | zero =>
    intro n m x y _ _ h
    simp only [uvB, List.singleton_append, List.cons.injEq] at h
    exact ⟨by omega, h.2⟩
  | succ f ih =>
    intro n m x y hn hm h
    rw [Nat.pow_succ] at hn hm
    simp only [uvB] at h
    by_cases h1 : n ≤ 127 <;> by_cases h2 : m ≤ 127
    · rw [if_pos h1, if_pos h2] at h
      simp only [List.singleton_append, List.cons.injEq] at h
      exact ⟨by omega, h.2⟩
    · rw [if_pos h1, if_neg h2] at h
      simp only [List.cons_append, List.cons.injEq] at h
      omega
    · rw [if_neg h1, if_pos h2] at h
      simp only [List.cons_append, List.cons.injEq] at h
      omega
    · rw [if_neg h1, if_neg h2] at h
      simp only [List.cons_append, List.cons.injEq] at h
      have := ih (Nat.div_lt_of_lt_mul (by omega)) (Nat.div_lt_of_lt_mul (by omega)) h.2
      exact ⟨by omega, this.2⟩
theorem uv_pre {n m : Nat} {x y : List Int} (hn : n < 18446744073709551616) (hm : m < 18446744073709551616) (h : uv n ++ x = uv m ++ y) : n = m ∧ x = y := by
  have e : (18446744073709551616 : Nat) ≤ 128 ^ (9 + 1) := by decide
  exact uvB_pre (by omega) (by omega) h
theorem uvB_len : ∀ (f n : Nat), 1 ≤ (uvB f n).length ∧ (uvB f n).length ≤ f + 1 := by
  intro f
  induction f with
  | zero => intro n; simp [uvB]
  | succ f ih =>
    intro n
    simp only [uvB]
    split
    · simp
    · have := ih (n / 128)
      simp only [List.length_cons]; omega
theorem uvB_byte : ∀ (f n : Nat), n < 128 ^ (f + 1) → ∀ x ∈ uvB f n, 0 ≤ x ∧ x < 256 := by
  intro f
  induction f with
  | zero => intro n hn x hx; simp only [uvB, List.mem_singleton] at hx; subst hx; simp at hn; omega
  | succ f ih =>
    intro n hn x hx
    rw [Nat.pow_succ] at hn
    simp only [uvB] at hx
    split at hx
    · simp only [List.mem_singleton] at hx; omega
    · rcases List.mem_cons.1 hx with rfl | hx
      · omega
      · exact ih _ (Nat.div_lt_of_lt_mul (by omega)) x hx
theorem uv_byte {n : Nat} (hn : n < 18446744073709551616) : ∀ x ∈ uv n, 0 ≤ x ∧ x < 256 := by
  have e : (18446744073709551616 : Nat) ≤ 128 ^ (9 + 1) := by decide
  exact uvB_byte 9 n (by omega)

/-- an attribute whose numbers lie in their types -/
def InA (a : Attr) : Prop := (-9223372036854775808 ≤ a.key ∧ a.key ≤ 9223372036854775807) ∧ (0 ≤ a.val.kind ∧ a.val.kind < 256) ∧ (-9223372036854775808 ≤ a.val.n ∧ a.val.n ≤ 9223372036854775807) ∧ (0 ≤ a.val.f ∧ a.val.f < 18446744073709551616) ∧ a.val.s.size < 18446744073709551616
def encA (a : Attr) : List Int := uv (zigN a.key) ++ (uv a.val.kind.toNat ++ (uv (zigN a.val.n) ++ (uv a.val.f.toNat ++ (uv a.val.s.size ++ bytesL a.val.s))))
def encS (l : List Attr) : List Int := l.flatMap encA
theorem bytesL_inj {s t : ByteArray} (h : bytesL s = bytesL t) : s = t := by
  unfold bytesL at h
  have h2 := (List.map_inj_right (f := fun b : UInt8 => (b.toNat : Int)) (fun a b e => UInt8.toNat_inj.1 (Int.ofNat_inj.1 e))).1 h
  cases s; cases t
  simp only [ByteArray.mk.injEq]
  exact Array.toList_inj.1 h2
theorem bytesL_len (s : ByteArray) : (bytesL s).length = s.size := by simp [bytesL]
theorem encA_pre {a b : Attr} (ha : InA a) (hb : InA b) {x y : List Int} (h : encA a ++ x = encA b ++ y) : a = b ∧ x = y := by
  obtain ⟨a1, a2, a3, a4, a5⟩ := ha
  obtain ⟨b1, b2, b3, b4, b5⟩ := hb
  unfold encA at h
  simp only [List.append_assoc] at h
  obtain ⟨e1, h⟩ := uv_pre (zigN_lt a1.1 a1.2) (zigN_lt b1.1 b1.2) h
  obtain ⟨e2, h⟩ := uv_pre (by omega) (by omega) h
  obtain ⟨e3, h⟩ := uv_pre (zigN_lt a3.1 a3.2) (zigN_lt b3.1 b3.2) h
  obtain ⟨e4, h⟩ := uv_pre (by omega) (by omega) h
  obtain ⟨e5, h⟩ := uv_pre a5 b5 h
  obtain ⟨e6, h⟩ := List.append_inj h (by rw [bytesL_len, bytesL_len, e5])
  refine ⟨?_, h⟩
  obtain ⟨ak, av⟩ := a
  obtain ⟨bk, bv⟩ := b
  obtain ⟨v1, v2, v3, v4⟩ := av
  obtain ⟨u1, u2, u3, u4⟩ := bv
  simp only at *
  have := zigN_inj e1
  have := zigN_inj e3
  have := bytesL_inj e6
  have : v1 = u1 := by omega
  have : v3 = u3 := by omega
  subst_vars
  rfl
theorem encS_inj : ∀ {l m : List Attr}, (∀ a ∈ l, InA a) → (∀ a ∈ m, InA a) → encS l = encS m → l = m := by
  have ne : ∀ a x, encA a ++ x ≠ [] := fun a x e => by
    have := uvB_len 9 (zigN a.key)
    have h := congrArg List.length e
    simp only [encA, List.length_append, List.length_nil, uv] at h
    omega
  intro l
  induction l with
  | nil =>
    intro m _ hm h
    cases m with
    | nil => rfl
    | cons b m => exact absurd h.symm (by simpa [encS] using ne b (encS m))
  | cons a l ih =>
    intro m hl hm h
    cases m with
    | nil => exact absurd h (by simpa [encS] using ne a (encS l))
    | cons b m =>
      simp only [encS, List.flatMap_cons] at h
      obtain ⟨rfl, h'⟩ := encA_pre (hl a List.mem_cons_self) (hm b List.mem_cons_self) h
      rw [ih (fun x hx => hl x (List.mem_cons_of_mem _ hx)) (fun x hx => hm x (List.mem_cons_of_mem _ hx)) (show encS l = encS m from h')]
end Go.Proofs.YtlbaopamhkmepaaGreatDoor
