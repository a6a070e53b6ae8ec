/- Contract: the maker is told a retain. Conditions: the sizes; what is told lies apart from the maker. Contracts: what a maker has made; a delta's normal form; whether it is normal. Conditions: the sizes. Contracts of the document's side: whether two deltas are the same. No conditions. Adding onto an empty row that has no room: the row itself stays. No conditions but the sizes. Stacks: rows of the holder's own, or slices without room. No conditions but the sizes. By a program of ours: of each function below the predicate that its code comes to, and that it is sound. No conditions. Maps whose keys are ints, in memory. No conditions. A schema in memory; contracts of what reads it: Find, Len, Keys, Group; of one key by itself; of comparing keys. No conditions. The sort's worlds in our own words: a row of one's own, sorted. No conditions. slices.SortFunc at keys: the shelf's contract, laid; sorted rows of keys. No conditions. Contract of schema.New; known04; the plain law of keys. No conditions. By a program of ours: of each function below the predicate that its code comes to, and that it is sound. No conditions. The history in memory: its stores; contracts of New, keep. Conditions: the sizes. Contracts of the history: ready, New, keep, Push outside a bracket, Depths, Open, Begin. Conditions: the sizes. -/
import Derived.Test.YtlbaopamhkmepaaGreatDoorZHistoryBrackets2
import Derived.MapKept
import Derived.Shelf.GgSortFunc.InsertionK
import Derived.Shelf.SlSortCmp.WholeK
import Derived.Shelf.SlSortCmp.NoneTotal
namespace Go.Proofs.YtlbaopamhkmepaaGreatDoor
open Go Go.K

theorem set3 (W : World) (b : Nat) (u0 u1 u2 : Value) (l : ∀ q, q < 3 → Live W ⟨b, q, none⟩) : ∀ W', W' = ((W.setCell ⟨b, 0, none⟩ u0).setCell ⟨b, 1, none⟩ u1).setCell ⟨b, 2, none⟩ u2 → Mod (fun x => x = b) W W' ∧ W'.cell? ⟨b, 0, none⟩ = some u0 ∧ W'.cell? ⟨b, 1, none⟩ = some u1 ∧ W'.cell? ⟨b, 2, none⟩ = some u2 ∧ (∀ q, q < 3 → Live W' ⟨b, q, none⟩) := by
  rintro W' rfl
  have ne : ∀ q q', q ≠ q' → (⟨b, q, none⟩ : Addr) ≠ ⟨b, q', none⟩ := fun q q' hq e => by simp only [Addr.mk.injEq] at e; omega
  have m1 := setA W b 0 u0
  have m2 := setA (W.setCell ⟨b, 0, none⟩ u0) b 1 u1
  have m3 := setA ((W.setCell ⟨b, 0, none⟩ u0).setCell ⟨b, 1, none⟩ u1) b 2 u2
  refine ⟨(m1.trans m2).trans m3, ?_, ?_, ?_, fun q hq => (((l q hq).set _ _).set _ _).set _ _⟩
  · obtain ⟨u, hu⟩ := Option.isSome_iff_exists.1 (l 0 (by decide)).1
    rw [World.cell?_setCell_other _ _ _ _ (ne 2 0 (by decide)), World.cell?_setCell_other _ _ _ _ (ne 1 0 (by decide))]
    exact World.cell?_setCell_same _ _ _ hu
  · obtain ⟨u, hu⟩ := Option.isSome_iff_exists.1 ((l 1 (by decide)).set ⟨b, 0, none⟩ u0).1
    rw [World.cell?_setCell_other _ _ _ _ (ne 2 1 (by decide))]
    exact World.cell?_setCell_same _ _ _ hu
  · obtain ⟨u, hu⟩ := Option.isSome_iff_exists.1 (((l 2 (by decide)).set ⟨b, 0, none⟩ u0).set ⟨b, 1, none⟩ u1).1
    exact World.cell?_setCell_same _ _ _ hu
def lastPat (d : List Dop) (p : List Chg) : Bool := match d.getLast? with | some o => decide (o.kind = 1 ∧ o.patch = p) | none => false
theorem retain_ok {F S : Nat → Prop} {w : World} {b : Nat} {s : MkS} {n : Int} {pv : Value} {p : List Chg} (h : MkI F w b s) (h1 : RPat S w pv p) (hS : ∀ x, S x → ¬ F x)
    (hb1 : s.done.length + s.ins.length + 2 ≤ 1099511627776) (hb2 : p.length * 56 ≤ 140737488355328) :
    callK Tryz.prog 76 [.pointer (some ⟨b, 0, none⟩), .int .i64 n, pv] (fun _ w' => MkI (fun x => F x ∨ w.heap.size ≤ x) w' b (retS s n p) ∧ Mod F w w') w := by
  apply S76_ok
  unfold S76
  have hI := h
  have hb3 : (s.ins.length + 1) * 88 ≤ 140737488355328 := by omega
  obtain ⟨dv, iv, C, hot, h⟩ := h
  refine JoinK_i (fun vs w1 => w1 = w ∧ ¬ n < 1) ?_ ?_
  rotate_left
  · rw [pnilK_i]
    simp only [Option.isNone_some]
    rw [condK_b, if_neg (by simp), ltK_i]
    refine condK_p (fun e => ?_) fun e => ⟨trivial, e⟩
    exact ⟨by rw [retS, if_pos e]; exact hI.sub fun x hx => .inl hx, Mod.refl _ _⟩
  rintro vs _ ⟨rfl, hn⟩ _
  rename World => w
  have key : retS s n p = ⟨putS (s.done ++ gapL s.ins s.gone) n p, [], 0⟩ := by rw [retS, if_neg hn]
  rw [key]
  have gl : (gapL s.ins s.gone).length ≤ s.ins.length + 1 := by unfold gapL; split <;> simp
  have gd : Grow w w.drew := Mod.drew _ _
  have h' := h.grow gd
  have zd : w.drew.heap.size = w.heap.size := rfl
  have h1' : RPat (fun x => S x ∧ x < w.heap.size) w.drew pv p := (h1.old (by decide)).grow gd (by decide) fun _ _ h => h
  have hbl : b < w.drew.heap.size := World.block_lt_of_cell? w.drew ⟨b, 0, none⟩ h'.c0
  have hdv : ∀ x, dv.ownBlock = some x → x < w.drew.heap.size := fun x hx => (OwnR.ownB h'.done x hx).2
  have hhot : ∀ x, hot = some x → F x ∧ ¬ C x ∧ x ≠ b ∧ dv.ownBlock ≠ some x ∧ x < w.drew.heap.size := by
    intro x hx
    rcases h'.ins with ⟨_, _, e⟩ | ⟨g, c, hh, e1, e2, e3, e4, e5, e6, e7, e8, e9, e10, e11, e12, e13, _⟩
    · rw [e] at hx; cases hx
    · rw [e2] at hx; cases hx; exact ⟨e8, e9, e10, e12, e13⟩
  rw [← zd]
  generalize w.drew = w4 at gd h' zd h1' hbl hdv hhot ⊢
  have dvb : dv.ownBlock ≠ some b := fun e => (h'.dF b e).2.2 rfl
  let C1 : Nat → Prop := fun x => (C x ∨ hot = some x) ∧ x < w4.heap.size
  have C1b : ¬ C1 b := by
    rintro ⟨hx | hx, _⟩
    · exact h'.nb hx
    · exact (hhot b hx).2.2.1 rfl
  have C1d : ∀ x, dv.ownBlock = some x → ¬ C1 x := by
    rintro x hx ⟨hc | hc, _⟩
    · exact (h'.dF x hx).2.1 hc
    · exact (hhot x hc).2.2.2.1 hx
  have C1F : ∀ x, C1 x → F x := by
    rintro x ⟨hc | hc, _⟩
    · exact (h'.cf x hc).1
    · exact (hhot x hc).1
  refine drawC_i (fun k x => (k = 7 ∧ dv.ownBlock = some x) ∨ (k = 10 ∧ x = b)) ?_
  rw [nilckK_i, faK_i, addr0]
  refine sld1_i ⟨h'.c0, fun j hj e => by rcases e with ⟨_, e⟩ | ⟨rfl, _⟩; exact dvb e; exact absurd hj (by decide)⟩ ?_
  refine callK_mono (gap_ok h' hb3) ?_
  rintro v5 w5 ⟨o5, g5⟩
  refine ⟨Grow.mod g5, ?_⟩
  have h5 := h'.grow g5
  have z5 := g5.size
  have d5 : OwnR 0 TOp 5 (RDop C1) w5 dv s.done := OwnR.mod h5.done (Mod.refl (fun _ => False) _) (fun _ _ h => h) fun r x _ hx => hx.mod (Mod.refl (fun _ => False) _) (fun _ _ _ h => h) fun y _ hy => ⟨.inl hy, (h'.cf y hy).2⟩
  obtain ⟨v6, w6, r1, o6, r3, r4⟩ := OwnR.append (ty := 31) elem_dop d5 (OwnR.sl o5) (fun _ _ => RDop.one) (by omega) (Nat.zero_le _) (by simp only [maxLen]; omega) fun w' hg r y hy => hy.mod (Mod.of_grownBy hg) (fun x _ hx e => C1d x e hx) fun _ _ h => h
  have m56 : Mod (fun x => dv.ownBlock = some x) w5 w6 := Mod.of_grownBy r3
  refine runK_i r1 ⟨m56.mono fun x _ e => .inl ⟨rfl, e⟩, ?_⟩
  have z6 := m56.size
  have hv6 := OwnR.one o6
  have l6 : ∀ q, q < 3 → Live w6 ⟨b, q, none⟩ := fun q hq => (h5.lv q hq).mod m56 dvb
  have own6 : ∀ x, v6.ownBlock = some x → dv.ownBlock = some x ∨ w4.heap.size ≤ x := fun x hx => by rcases r4 x hx with h | h; exact .inl h; exact .inr (by omega)
  rw [nilckK_i, faK_i, addr0]
  refine (l6 0 (by decide)).st hv6.1 hv6.2 ⟨Mod.setCell _ _ _ (.inr ⟨rfl, rfl⟩), ?_⟩
  rw [nilckK_i, faK_i, addr0]
  refine ((l6 1 (by decide)).set _ _).st rfl rfl ?_
  rw [nilckK_i, faK_i, addr0]
  refine (((l6 2 (by decide)).set _ _).set _ _).st rfl rfl ?_
  generalize hW7 : ((w6.setCell ⟨b, 0, none⟩ v6).setCell ⟨b, 1, none⟩ (.slice none 0 0)).setCell ⟨b, 2, none⟩ (.int .i64 0) = w7
  obtain ⟨m67, cell0, cell1, cell2, l7⟩ := set3 w6 b v6 (.slice none 0 0) (.int .i64 0) l6 w7 hW7.symm
  clear hW7
  have z7 := m67.size
  let F1 : Nat → Prop := fun x => F x ∨ w4.heap.size ≤ x
  have v6b : v6.ownBlock ≠ some b := fun e => by rcases own6 b e with h | h; exact dvb h; omega
  have d7 : OwnR 0 TOp 5 (RDop C1) w7 v6 (s.done ++ gapL s.ins s.gone) := OwnR.mod o6 m67 (fun x hx e => v6b (e ▸ hx)) fun r x _ hx => hx.cmod m67 fun y hy e => C1b (e ▸ hy)
  have K7 : MkR F1 w7 b ⟨s.done ++ gapL s.ins s.gone, [], 0⟩ v6 (.slice none 0 0) C1 none := by
    refine ⟨cell0, cell1, cell2, l7, .inl h'.fb, C1b, fun x hx => ⟨.inl (C1F x hx), by have := hx.2; omega⟩, d7, fun x hx => ⟨?_, ?_, fun e => v6b (e ▸ hx)⟩, .inl ⟨rfl, rfl, rfl⟩⟩
    · rcases own6 x hx with h | h
      · exact .inl (h'.dF x h).1
      · exact .inr h
    · intro hc
      rcases own6 x hx with h | h
      · exact C1d x h hc
      · have := hc.2; omega
  have m47 : Mod F w4 w7 := ((Grow.mod g5).trans (m56.mono fun x _ e => (h'.dF x e).1)).trans (m67.mono fun x _ e => by rw [e]; exact h'.fb)
  have m07 : Mod F w w7 := (Grow.mod gd).trans m47
  have p7 : RPat (fun x => S x ∧ x < w.heap.size) w7 pv p := h1'.mono (fun _ _ h => h) (fun x hb hx => m47.same x hb (hS x hx.1)) (by decide) fun _ _ h => h
  have dlen : (s.done ++ gapL s.ins s.gone).length ≤ s.done.length + s.ins.length + 1 := by simp; omega
  generalize hD : s.done ++ gapL s.ins s.gone = D at K7 d7 dlen ⊢
  clear o6 r1 r3 r4 own6 cell0 cell1 cell2 l6 m56 m67 o5 h5 d5
  obtain ⟨va, vc, rfl, _, _, hvp, hvn⟩ := OwnR.shape d7
  rw [nilckK_i, faK_i, addr0]
  refine ld1K_i K7.c0 ?_
  rw [lenK_i, subK_i, wrap64 (by omega) (by omega)]
  refine JoinK_i (fun vs w8 => vs = [.bool (lastPat D p)] ∧ Grow w7 w8) ?_ ?_
  rotate_left
  · rw [geK_i]
    refine condK_p (fun hge => ?_) fun hge => ?_
    · have hip : 0 < D.length := by omega
      have hlt : D.length - 1 < D.length := by omega
      rw [show ((D.length : Int) - 1) = ((D.length - 1 : Nat) : Int) by omega]
      rw [nilckK_i, faK_i, addr0]
      refine ld1K_i K7.c0 ?_
      obtain ⟨q, r, rfl, _, hr, hc, rv, sv', pv', rfl, q1, q2, q3⟩ := (OwnR.sl d7).get hlt
      refine ixK_n hlt ?_
      rw [faK_i, Addr.add_add]
      refine ld1K_i (hc 0 _ rfl) ?_
      rw [eqK_i]
      refine condK_p (fun hk => ?_) fun hk => ⟨by rw [lastPat, getLast_get hip]; simp [hk], Mod.refl _ _⟩
      rw [nilckK_i, faK_i, addr0]
      refine ld1K_i K7.c0 ?_
      refine ixK_n hlt ?_
      rw [faK_i, Addr.add_add]
      refine ld1K_i (hc 4 _ rfl) ?_
      refine callK_mono (same_pat q3 p7) ?_
      rintro v1 w8 ⟨rfl, g8⟩
      exact ⟨by rw [lastPat, getLast_get hip]; simp [hk], g8⟩
    · have : D = [] := List.eq_nil_of_length_eq_zero (by omega)
      exact ⟨by rw [lastPat, this]; rfl, Mod.refl _ _⟩
  rintro vs w8 ⟨rfl, g8⟩ _
  rw [nth_z, List.headD_cons]
  have K8 := K7.grow g8
  have z8 := g8.size
  have d8 : OwnR 0 TOp 5 (RDop C1) w8 (.slice va D.length vc) D := K8.done
  have p8 : RPat (fun x => S x ∧ x < w.heap.size) w8 pv p := p7.grow g8 (by decide) fun _ _ h => h
  have m08 : Mod F w w8 := m07.trans (Grow.mod g8)
  have vb : (Value.slice va D.length vc).ownBlock ≠ some b := fun e => (K8.dF b e).2.2 rfl
  cases hls : lastPat D p with
  | true =>
    rw [condK_b, if_pos rfl]
    have hip : 0 < D.length := by
      cases hn : D with
      | nil => rw [lastPat, hn] at hls; cases hls
      | cons a l => simp
    have hlt : D.length - 1 < D.length := by omega
    rw [lastPat, getLast_get hip] at hls
    simp only [decide_eq_true_eq] at hls
    rw [show ((D.length : Int) - 1) = ((D.length - 1 : Nat) : Int) by omega]
    cases va with
    | none => rw [hvn rfl] at hip; simp at hip
    | some vp =>
    obtain ⟨g7, rfl, _, hg7, _⟩ := hvp _ rfl
    rw [nilckK_i, faK_i, addr0]
    refine ld1K_i K8.c0 ?_
    obtain ⟨q, r, e, _, hr, hc, rv, sv', pv', rfl, q1, q2, q3⟩ := (OwnR.sl d8).get hlt
    cases e
    refine ixK_n hlt ?_
    rw [faK_i, Addr.add_add]
    refine ld1K_i (hc 1 _ rfl) ?_
    rw [addK_i]
    refine ixK_n hlt ?_
    rw [faK_i, Addr.add_add]
    obtain ⟨g7F, g7C, g7b⟩ := K8.dF g7 rfl
    obtain ⟨⟨u, hu⟩, hf, ho, hm⟩ := OwnR.store (R' := RDop C1) (u := .int .i64 (IntKind.i64.wrap (D[D.length - 1].n + n))) (x' := ⟨D[D.length - 1].kind, IntKind.i64.wrap (D[D.length - 1].n + n), D[D.length - 1].runes, D[D.length - 1].set, D[D.length - 1].patch⟩) d8 hlt (show 1 < 5 by decide) rfl
      (fun r y _ hy => hy.mod (Mod.setCell (M := fun x => x = g7) _ _ _ (by rw [addr0])) (fun x _ hx e => g7C (e ▸ hx)) fun _ _ h => h)
      (fun r hy => by
        obtain ⟨rv, sv', pv', rfl, p1, p2, p3⟩ := hy.mod (D' := C1) (Mod.setCell (M := fun x => x = g7) w8 ((⟨g7, 0, none⟩ : Addr).add ((D.length - 1) * 5 + 1)) (.int .i64 (IntKind.i64.wrap (D[D.length - 1].n + n))) (by rw [addr0])) (fun x _ hx e => g7C (e ▸ hx)) fun _ _ h => h
        exact ⟨rv, sv', pv', rfl, p1, p2, p3⟩)
    refine st1K_i rfl rfl hu hf ?_
    have eput : putS D n p = D.set (D.length - 1) ⟨D[D.length - 1].kind, IntKind.i64.wrap (D[D.length - 1].n + n), D[D.length - 1].runes, D[D.length - 1].set, D[D.length - 1].patch⟩ := by
      unfold putS
      rw [getLast_get hip]
      simp only [hls, and_self, if_true]
    have hm' : Mod (fun x => x = g7) w8 (w8.setCell ((⟨g7, 0, none⟩ : Addr).add ((D.length - 1) * 5 + 1)) (.int .i64 (IntKind.i64.wrap (D[D.length - 1].n + n)))) := hm
    refine ⟨⟨_, _, C1, none, hm'.cell K8.c0 (fun e => g7b e.symm), hm'.cell K8.c1 (fun e => g7b e.symm), hm'.cell K8.c2 (fun e => g7b e.symm), fun q hq => (K8.lv q hq).mod hm' (fun e => g7b e.symm), K8.fb, K8.nb, fun x hx => ⟨(K8.cf x hx).1, Nat.lt_of_lt_of_le (K8.cf x hx).2 hm'.size⟩, by rw [eput]; exact ho, K8.dF, .inl ⟨rfl, rfl, rfl⟩⟩, ?_⟩
    refine m08.next hm' fun x hx e => ?_
    subst e
    rcases g7F with h | h
    · exact h
    · omega
  | false =>
    rw [condK_b, if_neg (by simp)]
    have gd8 : Grow w8 w8.drew := Mod.drew _ _
    have K9 := K8.grow gd8
    have zd8 : w8.drew.heap.size = w8.heap.size := rfl
    have p9 : RPat (fun x => S x ∧ x < w.heap.size) w8.drew pv p := p8.grow gd8 (by decide) fun _ _ h => h
    have m09 : Mod F w w8.drew := m08.trans (Grow.mod gd8)
    generalize w8.drew = w9 at gd8 K9 zd8 p9 m09 ⊢
    refine drawC_i (fun k x => (k = 10 ∧ (Value.slice va D.length vc).ownBlock = some x) ∨ (k = 13 ∧ x = b)) ?_
    rw [nilckK_i, faK_i, addr0]
    refine sld1_i ⟨K9.c0, fun j hj e => by rcases e with ⟨_, e⟩ | ⟨rfl, _⟩; exact vb e; exact absurd hj (by decide)⟩ ?_
    refine callK_mono (copy_pat p9 hb2) ?_
    rintro t1 w10 ⟨n1, g10⟩
    refine ⟨Grow.mod g10, ?_⟩
    have K10 := K9.grow g10
    have z10 := g10.size
    obtain ⟨sa1, sc1, hsv1, _⟩ := OwnR.shape n1
    refine ⟨#[.int .u8 1, .int .i64 n, .slice none 0 0, .slice none 0 0, t1], by subst hsv1; kernel_rfl, ?_⟩
    let C2 : Nat → Prop := fun x => C1 x ∨ t1.ownBlock = some x
    have n1b : ∀ x, t1.ownBlock = some x → w9.heap.size ≤ x ∧ x < w10.heap.size := fun x hx => OwnR.ownB n1 x hx
    have hvl : ∀ x, (Value.slice va D.length vc).ownBlock = some x → x < w8.heap.size := fun x hx => (OwnR.ownB d8 x hx).2
    have C2v : ∀ x, (Value.slice va D.length vc).ownBlock = some x → ¬ C2 x := by
      rintro x hx (hc | hc)
      · exact (K8.dF x hx).2.1 hc
      · have := n1b x hc; have := hvl x hx; omega
    have C2b : ¬ C2 b := by
      rintro (hc | hc)
      · exact C1b hc
      · have := n1b b hc; omega
    have d10 : OwnR 0 TOp 5 (RDop C2) w10 (.slice va D.length vc) D := OwnR.mod K10.done (Mod.refl (fun _ => False) _) (fun _ _ h => h) fun r x _ hx => hx.mod (Mod.refl (fun _ => False) _) (fun _ _ _ h => h) fun y _ hy => .inl hy
    have eput : putS D n p = D ++ [⟨1, n, [], [], p⟩] := by
      unfold putS
      unfold lastPat at hls
      cases hl : D.getLast? with
      | none => rfl
      | some o => rw [hl] at hls; simp only [decide_eq_false_iff_not] at hls; simp only; rw [if_neg hls]
    refine push_g2 elem_dop d10 (Nat.zero_le _) (cs := row5 ⟨1, n, [], [], p⟩ (.slice none 0 0) (.slice none 0 0) t1) (x := ⟨1, n, [], [], p⟩) (by subst hsv1; kernel_rfl) rfl ⟨_, _, _, rfl, SlR.nil, SlR.nil, SlR.sub (OwnR.sl n1) (fun x _ hx => .inr hx.2) (by decide) fun _ _ h => h⟩ (fun _ _ _ => RDop.one) ?_ (by omega) (by simp only [maxLen]; omega) (fun _ g => Grow.mod g) fun w10' v' w11 o11 m10' m11 f11 => ?_
    · intro W1 W2 r y hz hm hy
      refine hy.mod hm (fun x _ hx e => ?_) fun _ _ h => h
      rcases e with e | e
      · exact C2v x e hx
      · rcases hx with hc | hc
        · have := hc.2; omega
        · have := n1b x hc; omega
    refine ⟨m10'.mono fun x _ e => .inl ⟨rfl, e⟩, ?_⟩
    have z11 := m11.size
    have hv11 := OwnR.one o11
    rw [nilckK_i, faK_i, addr0]
    have l11 : ∀ q, q < 3 → Live w11 ⟨b, q, none⟩ := fun q hq => (K10.lv q hq).mod m11 vb
    refine (l11 0 (by decide)).st hv11.1 hv11.2 ⟨Mod.setCell _ _ _ (.inr ⟨rfl, rfl⟩), ?_⟩
    have m12 := setA w11 b 0 v'
    have ne : ∀ q, q ≠ 0 → (⟨b, 0, none⟩ : Addr) ≠ ⟨b, q, none⟩ := fun q hq e => by simp only [Addr.mk.injEq] at e; omega
    obtain ⟨u, hu⟩ := Option.isSome_iff_exists.1 (l11 0 (by decide)).1
    have v'b : v'.ownBlock ≠ some b := fun e => by rcases f11 b e with h | h; exact vb h; omega
    have lv12 : ∀ q, q < 3 → Live (w11.setCell ⟨b, 0, none⟩ v') ⟨b, q, none⟩ := fun q hq => (l11 q hq).set _ _
    have c12 := World.cell?_setCell_same w11 ⟨b, 0, none⟩ v' hu
    have co : ∀ q u, q ≠ 0 → w10.cell? ⟨b, q, none⟩ = some u → (w11.setCell ⟨b, 0, none⟩ v').cell? ⟨b, q, none⟩ = some u := fun q u hq hu => (World.cell?_setCell_other _ _ _ _ (ne q hq)).trans (m11.cell hu vb)
    generalize w11.setCell ⟨b, 0, none⟩ v' = W at m12 lv12 c12 co ⊢
    have z12 := m12.size
    refine ⟨⟨v', _, C2, none, c12, co 1 _ (by decide) K10.c1, co 2 _ (by decide) K10.c2, lv12, .inl h'.fb, C2b, fun x hx => ?_, ?_, fun x hx => ?_, .inl ⟨rfl, rfl, rfl⟩⟩, ?_⟩
    · rcases hx with hc | hc
      · exact ⟨.inl (C1F x hc), by have := hc.2; omega⟩
      · have := n1b x hc; exact ⟨.inr (by omega), by omega⟩
    · rw [eput]
      exact OwnR.mod o11 m12 (fun x hx e => v'b (e ▸ hx)) fun r x _ hx => hx.cmod m12 fun y hy e => C2b (e ▸ hy)
    · rcases f11 x hx with h | h
      · exact ⟨(K8.dF x h).1, C2v x h, (K8.dF x h).2.2⟩
      · refine ⟨.inr (by omega), ?_, fun e => v'b (e ▸ hx)⟩
        rintro (hc | hc)
        · have := hc.2; omega
        · have := n1b x hc; omega
    · refine ((m09.trans (Grow.mod g10)).next m11 fun x hx e => ?_).next m12 fun x _ e => by rw [e]; exact h'.fb
      rcases (K8.dF x e).1 with h | h
      · exact h
      · omega
end Go.Proofs.YtlbaopamhkmepaaGreatDoor

namespace Go.Proofs.YtlbaopamhkmepaaGreatDoor
open Go Go.K

theorem mDops_app (l m : List Dop) : mDops (l ++ m) = mDops l + mDops m := by simp [mDops]
theorem mDops_one (o : Dop) : mDops [o] = mDop o := by simp [mDops]
theorem gapL_m (ins : List Dop) (g : Int) : mDops (gapL ins g) ≤ mDops ins + 1 := by
  unfold gapL; split
  · rw [mDops_app, mDops_one]; simp [mDop, mSet, mPat]
  · omega
theorem mDops_sub {l : List Dop} : mDops (trimL l) ≤ mDops l := by
  unfold trimL
  split
  · split
    · rw [List.dropLast_eq_take]; exact mDops_le _ _
    · exact Nat.le_refl _
  · exact Nat.le_refl _
/-- Ops -/
theorem ops_ok {F : Nat → Prop} {w : World} {b : Nat} {s : MkS} (h : MkI F w b s) (hb : mDops s.done + mDops s.ins ≤ 274877906944) :
    callK Tryz.prog 79 [.pointer (some ⟨b, 0, none⟩)] (fun v' w' => ODops w.heap.size w' v' (opsS s) ∧ Grow w w') w := by
  apply S79_ok
  unfold S79
  obtain ⟨dv, iv, C, hot, h⟩ := h
  have hdl := mDops_len s.done
  have hil := mDops_len s.ins
  have hgm := gapL_m s.ins s.gone
  have hgl := mDops_len (gapL s.ins s.gone)
  rw [pnilK_i]
  simp only [Option.isNone_some]
  rw [condK_b, if_neg (by simp)]
  have gd : Grow w w.drew := Mod.drew _ _
  have h' := h.grow gd
  have zd : w.drew.heap.size = w.heap.size := rfl
  rw [← zd]
  have fin : ∀ {W' : World}, Grow w.drew W' → Grow w W' := fun g => gd.trans g
  generalize w.drew = w1 at gd h' zd fin ⊢
  refine drawC_i (fun _ _ => False) ?_
  rw [nilckK_i, faK_i, addr0]
  refine sld1_i ⟨h'.c0, fun j hj e => e⟩ ?_
  refine callK_mono (gap_ok h' (by omega)) ?_
  rintro v2 w2 ⟨o2, g2⟩
  refine ⟨g2, ?_⟩
  obtain ⟨a1, c1, hv1, hm1, _⟩ := OwnR.shape h'.done
  obtain ⟨a2, c2, hv2, hm2, _⟩ := OwnR.shape o2
  refine rowK_i (cs := [dv, v2]) (by subst hv1; subst hv2; kernel_rfl) ?_
  have g3 : Grow w2 (w2.alloc (.cells [dv, v2].toArray 31)) := Mod.alloc _ _ _
  have hc3 : ∀ j v, [dv, v2][j]? = some v → (w2.alloc (.cells [dv, v2].toArray 31)).cell? ((⟨w2.heap.size, 0, none⟩ : Addr).add j) = some v := fun j v hv => cell_box hv
  generalize w2.alloc (.cells [dv, v2].toArray 31) = w3 at g3 hc3 ⊢
  refine ⟨g3, ?_⟩
  have g13 := g2.trans g3
  have z3 := g13.size
  have rd : RDops (fun _ => True) (fun x => C x) w3 dv s.done := SlR.sub (OwnR.sl (h'.grow g13).done) (fun _ _ _ => trivial) (by decide) fun _ _ h => h
  have rg : RDops (fun _ => True) (fun x => (C x ∨ hot = some x) ∧ x < w1.heap.size) w3 v2 (gapL s.ins s.gone) := by
    have := OwnR.mod (R' := RDop fun x => (C x ∨ hot = some x) ∧ x < w1.heap.size) o2 g3 (fun _ _ h => h) fun r y _ hy => hy.mod g3 (fun _ _ _ h => h) fun _ _ h => h
    exact SlR.sub (OwnR.sl this) (fun _ _ _ => trivial) (by decide) fun _ _ h => h
  refine callK_mono (concat_dops rd rg (by rw [← addr0 w2.heap.size 0]; exact hc3 0 _ rfl) (hc3 1 _ rfl) (by omega)) ?_
  rintro v4 w4 ⟨o4, g4⟩
  refine ⟨g4, ?_⟩
  have g14 := g13.trans g4
  have z14 := g14.size
  have hlm : mDops (s.done ++ gapL s.ins s.gone) ≤ 549755813888 := by rw [mDops_app]; omega
  have hop : opsS s = trimL (s.done ++ gapL s.ins s.gone) := rfl
  rw [hop]
  generalize s.done ++ gapL s.ins s.gone = L at o4 hlm ⊢
  have hLl := mDops_len L
  have r4 := OwnR.sl o4
  obtain ⟨va, vc, rfl, _, _, _⟩ := OwnR.shape o4
  refine JoinK_i (fun vs w5 => ∃ v, vs = [v] ∧ Grow w1 w5 ∧ RDops (fun _ => True) (fun _ => True) w5 v (trimL L)) ?_ ?_
  · rintro vs w5 ⟨v, rfl, g5, h5⟩ _
    rw [nth_z, List.headD_cons]
    refine callK_mono (copy_dops h5 (by have := mDops_sub (l := L); omega)) ?_
    rintro v6 w6 ⟨o6, g6⟩
    have := g5.size
    refine ⟨?_, fin (g5.trans g6)⟩
    refine OwnR.mod (OwnR.base o6 fun g hg => by have := (OwnR.ownB o6 g hg).1; omega) (Mod.refl (fun _ => False) _) (fun _ _ h => h) fun r x _ hx => hx.mod (Mod.refl (fun _ => False) _) (fun _ _ _ h => h) fun y _ hy => ⟨by omega, hy.2⟩
  · have rT : RDops (fun _ => True) (fun _ => True) w4 (.slice va L.length vc) L := SlR.sub r4 (fun _ _ _ => trivial) (by decide) fun r x hx => hx.mod (Mod.refl (fun _ => False) _) (fun _ _ _ h => h) fun _ _ _ => trivial
    rw [lenK_i, subK_i, wrap64 (by omega) (by omega), geK_i]
    refine condK_p (fun hge => ?_) fun hge => ?_
    · have hip : 0 < L.length := by omega
      have hlt : L.length - 1 < L.length := by omega
      rw [show ((L.length : Int) - 1) = ((L.length - 1 : Nat) : Int) by omega]
      obtain ⟨q, r, rfl, _, hr, hc, rv, sv', pv', rfl, q1, q2, q3⟩ := rT.get hlt
      refine ixK_n hlt ?_
      rw [faK_i, Addr.add_add]
      refine ld1K_i (hc 0 _ rfl) ?_
      rw [eqK_i]
      refine condK_p (fun hk => ?_) fun hk => ⟨_, rfl, g14, by rw [trimL, getLast_get hip]; simp only; rw [if_neg (fun h => hk h.1)]; exact rT⟩
      refine ixK_n hlt ?_
      rw [faK_i, Addr.add_add]
      refine ld1K_i (hc 4 _ rfl) ?_
      obtain ⟨pa, pc, rfl, _⟩ := q3.shape
      rw [lenK_i, eqK_i]
      refine condK_p (fun hp => ?_) fun hp => ⟨_, rfl, g14, by rw [trimL, getLast_get hip]; simp only; rw [if_neg (fun h => hp (len0.2 h.2))]; exact rT⟩
      refine slice_hi (e := 39) (i := Tryz.t39) (by kernel_rfl) (by kernel_rfl) (by kernel_rfl) rT (Nat.sub_le _ _) fun v' hv' => ?_
      refine ⟨v', rfl, g14, ?_⟩
      rw [trimL, getLast_get hip]
      simp only
      rw [if_pos ⟨hk, len0.1 hp⟩, List.dropLast_eq_take]
      exact hv'
    · have : L = [] := List.eq_nil_of_length_eq_zero (by omega)
      subst this
      exact ⟨_, rfl, g14, rT⟩
end Go.Proofs.YtlbaopamhkmepaaGreatDoor

namespace Go.Proofs.YtlbaopamhkmepaaGreatDoor
open Go Go.K

theorem rsame_dops {S S' D D' : Nat → Prop} {a b : Value} {x y : List Dop} {w : World} (ha : RDops S D w a x) (hb : RDops S' D' w b y) :
    callK Tryz.prog 22 [a, b] (fun v w' => v = .bool (decide (x = y)) ∧ Grow w w') w := by
  apply S22_ok
  unfold S22
  obtain ⟨pa, ca, rfl, hla⟩ := ha.shape
  obtain ⟨pb, cb, rfl, hlb⟩ := hb.shape
  simp only [maxLen] at hla
  have no : ∀ w', Grow w w' → x ≠ y → Value.bool false = .bool (decide (x = y)) ∧ Grow w w' := fun w' g hn => ⟨by rw [decide_eq_false hn], g⟩
  rw [lenK_i, lenK_i, neK_i]
  refine condK_neg (fun hlen => ?_) fun hne => no _ (Mod.refl _ _) fun e => hne (by rw [e])
  have hlen' : x.length = y.length := by omega
  refine LoopK_i (fun vs w1 => ∃ i : Nat, i ≤ x.length ∧ vs = [.int .i64 i] ∧ Grow w w1 ∧ x.take i = y.take i) (fun vs _ => x.length - iOf vs 0) ⟨0, Nat.zero_le _, rfl, Mod.refl _ _, rfl⟩ ?_
  rintro vs w1 ⟨i, hi, rfl, g1, ht⟩ _
  rw [lenK_i, nth_z, List.headD_cons, ltK_i]
  refine condK_p (fun hlt => ?_) fun hge => ?_
  · have hlt' : i < x.length := by omega
    have hlt2 : i < y.length := by omega
    have no2 : ∀ w', Grow w w' → x[i] ≠ y[i] → Value.bool false = .bool (decide (x = y)) ∧ Grow w w' := fun w' g hn => no w' g (by rintro rfl; exact hn rfl)
    refine JoinK_i (fun _ w2 => Grow w w2 ∧ x[i] = y[i]) ?_ ?_
    · rintro _ w2 ⟨g2, he⟩ _
      rw [addK_i, loop_step (by omega)]
      refine ⟨⟨i + 1, hlt', rfl, g2, ?_⟩, by rw [iOf0, iOf0]; omega⟩
      rw [List.take_add_one, List.take_add_one, ht, List.getElem?_eq_getElem hlt', List.getElem?_eq_getElem hlt2, he]
    · obtain ⟨p, r, rfl, _, hr, hc, hx⟩ := (RDops.grow ha g1).get hlt'
      obtain ⟨p', r', rfl, _, hr', hc', hy⟩ := (RDops.grow hb g1).get hlt2
      refine JoinK_i (fun vs w3 => ∃ b6 b7, vs = [.pointer (some ⟨b6, 0, none⟩), .pointer (some ⟨b7, 0, none⟩)] ∧ Grow w1 w3 ∧ (∀ j u, r[j]? = some u → w3.cell? ((⟨b6, 0, none⟩ : Addr).add j) = some u) ∧ (∀ j u, r'[j]? = some u → w3.cell? ((⟨b7, 0, none⟩ : Addr).add j) = some u)) ?_ ?_
      · rintro _ w3 ⟨b6, b7, rfl, g3, c6, c7⟩ _
        have hx3 := hx.mod (D' := D) g3 (fun _ _ _ h => h) fun _ _ h => h
        have hy3 := hy.mod (D' := D') g3 (fun _ _ _ h => h) fun _ _ h => h
        obtain ⟨rv, sv, pv, rfl, x1, x2, x3⟩ := hx3
        obtain ⟨rv', sv', pv', rfl, y1, y2, y3⟩ := hy3
        have g13 := g1.trans g3
        show faK 0 (.pointer (some ⟨b6, 0, none⟩)) _
        simp only [nth_z, nth_s, List.headD_cons, List.tail_cons, faK_i]
        refine ld1K_i (c6 0 _ rfl) (ld1K_i (c7 0 _ rfl) ?_)
        rw [neK_i]
        refine condK_neg (fun e1 => ?_) fun hne => no2 _ g13 fun e => hne (by rw [e])
        refine ld1K_i (c6 1 _ rfl) (ld1K_i (c7 1 _ rfl) ?_)
        rw [neK_i]
        refine condK_neg (fun e2 => ?_) fun hne => no2 _ g13 fun e => hne (by rw [e])
        refine ld1K_i (c6 2 _ rfl) (ld1K_i (c7 2 _ rfl) ?_)
        refine callK_mono (rsame_run x1 y1) ?_
        rintro _ w4 ⟨rfl, g4⟩
        rw [notK_i]
        refine condK_neg (fun e3 => ?_) fun hne => no2 _ (g13.trans g4) fun e => hne (by rw [e])
        refine ld1K_i (g4.cell (c6 3 _ rfl) fun h => h) (ld1K_i (g4.cell (c7 3 _ rfl) fun h => h) ?_)
        refine callK_mono (rsame_set (x2.grow g4 (by decide) fun _ _ h => h) (y2.grow g4 (by decide) fun _ _ h => h)) ?_
        rintro _ w5 ⟨rfl, g5⟩
        rw [notK_i]
        have g45 := g4.trans g5
        refine condK_neg (fun e4 => ?_) fun hne => no2 _ (g13.trans g45) fun e => hne (by rw [e])
        refine ld1K_i (g45.cell (c6 4 _ rfl) fun h => h) (ld1K_i (g45.cell (c7 4 _ rfl) fun h => h) ?_)
        refine callK_mono (rsame_pat (x3.grow g45 (by decide) fun _ _ h => h) (y3.grow g45 (by decide) fun _ _ h => h)) ?_
        rintro _ w6 ⟨rfl, g6⟩
        rw [notK_i]
        refine condK_neg (fun e5 => ⟨(g13.trans g45).trans g6, ?_⟩) fun hne => no2 _ ((g13.trans g45).trans g6) fun e => hne (by rw [e])
        have eta : ∀ o : Dop, o = ⟨o.kind, o.n, o.runes, o.set, o.patch⟩ := fun _ => rfl
        rw [eta x[i], eta y[i], e1, e2, e3, e4, e5]
      · refine drawC_i (fun k y => (k = 10 ∨ k = 11) ∧ w1.heap.size ≤ y) ?_
        have gd : Grow w1 w1.drew := Mod.drew _ _
        have one := RDop.one hx
        have one' := RDop.one hy
        have zd := gd.size
        refine ixK_n hlt' (sldn_i hr (fun j u hu => ⟨by rw [Addr.add_add]; exact gd.cell (hc j u hu) fun h => h, fun k hk e => ?_⟩) ?_)
        · rcases e with ⟨rfl | rfl, _⟩ <;> exact absurd hk (by decide)
        refine ixK_n hlt2 (sldn_i hr' (fun j u hu => ⟨by rw [Addr.add_add]; exact gd.cell (hc' j u hu) fun h => h, fun k hk e => ?_⟩) ?_)
        · have := World.block_lt_of_cell? w1 _ (hc' j u hu)
          rw [add_block] at this
          rw [add_block, add_block] at e
          omega
        refine ⟨?_, ?_⟩
        · refine newz_i fun b6 w17 hb6 hz6 g6 _ hl6 => ⟨g6.mono fun _ _ h => h.elim, ?_⟩
          refine newz_i fun b7 w18 hb7 hz7 g7 _ hl7 => ⟨g7.mono fun _ _ h => h.elim, ?_⟩
          refine stn_over hr one (fun j hj => (hl6 j hj).mod g7 fun h => h) fun w19 m19 hc6 _ => ⟨m19.mono fun y _ e => ⟨.inl rfl, by omega⟩, ?_⟩
          refine stn_over hr' one' (fun j hj => (hl7 j hj).mod m19 fun e => absurd (show b7 = b6 by rw [addr0] at e; exact e) (by omega)) fun w20 m20 hc7 _ => ⟨m20.mono fun y _ e => ⟨.inr rfl, by omega⟩, b6, b7, rfl, ?_, fun j u hu => m20.cell (hc6 j u hu) fun e => absurd (show b6 = b7 by rw [addr0] at e; exact e) (by omega), hc7⟩
          exact (((gd.trans g6).trans g7).next m19 fun x hx e => by omega).next m20 fun x hx e => by omega
        · refine newz_i fun b7 w17 hb7 hz7 g7 _ hl7 => ⟨g7.mono fun _ _ h => h.elim, ?_⟩
          refine newz_i fun b6 w18 hb6 hz6 g6 _ hl6 => ⟨g6.mono fun _ _ h => h.elim, ?_⟩
          refine stn_over hr one hl6 fun w19 m19 hc6 _ => ⟨m19.mono fun y _ e => ⟨.inl rfl, by omega⟩, ?_⟩
          refine stn_over hr' one' (fun j hj => ((hl7 j hj).mod g6 fun h => h).mod m19 fun e => absurd (show b7 = b6 by rw [addr0] at e; exact e) (by omega)) fun w20 m20 hc7 _ => ⟨m20.mono fun y _ e => ⟨.inr rfl, by omega⟩, b6, b7, rfl, ?_, fun j u hu => m20.cell (hc6 j u hu) fun e => absurd (show b6 = b7 by rw [addr0] at e; exact e) (by omega), hc7⟩
          exact (((gd.trans g7).trans g6).next m19 fun x hx e => by omega).next m20 fun x hx e => by omega
  · have : i = x.length := by omega
    subst this
    rw [List.take_length, hlen', List.take_length] at ht
    exact ⟨by rw [decide_eq_true ht], g1⟩
end Go.Proofs.YtlbaopamhkmepaaGreatDoor

namespace Go.K
open Go
theorem SlR.rows {α : Type} {S : Nat → Prop} {k : Nat} {R : World → List Value → α → Prop} {w : World} {a : Option Addr} {c n : Nat} {m : List α} (hx : SlR S k R w (.slice a n c) m) (hone : ∀ r y, R w r y → ∀ u ∈ r, u.oneCell' = true) :
    ∃ rows' : List (List Value), rows'.length = m.length ∧ (∀ (i : Nat) (r : List Value), rows'[i]? = some r → r.length = k ∧ (∀ u ∈ r, u.oneCell' = true) ∧ (∃ p, a = some p ∧ ∀ j u, r[j]? = some u → w.cell? (p.add (i * k + j)) = some u) ∧ ∃ y, m[i]? = some y ∧ R w r y) := by
  obtain ⟨a', c', e, _, _, hel⟩ := hx
  cases e
  have gen : ∀ q, q ≤ m.length → ∃ rows' : List (List Value), rows'.length = q ∧ (∀ (i : Nat) (r : List Value), rows'[i]? = some r → r.length = k ∧ (∀ u ∈ r, u.oneCell' = true) ∧ (∃ p, a = some p ∧ ∀ j u, r[j]? = some u → w.cell? (p.add (i * k + j)) = some u) ∧ ∃ y, m[i]? = some y ∧ R w r y) := by
    intro q
    induction q with
    | zero => exact fun _ => ⟨[], rfl, fun i r h => by simp at h⟩
    | succ q ih =>
      intro hq
      obtain ⟨rs, e1, e2⟩ := ih (by omega)
      obtain ⟨p, r, f1, f2, f3, f4, f5⟩ := hel q m[q] (by simp [show q < m.length by omega])
      refine ⟨rs ++ [r], by simp [e1], fun i r' hr' => ?_⟩
      by_cases hi : i < q
      · rw [List.getElem?_append_left (by omega)] at hr'; exact e2 i r' hr'
      · have : i = q := by have := (List.getElem?_eq_some_iff.1 hr').1; simp [e1] at this; omega
        subst this
        rw [List.getElem?_append_right (by omega)] at hr'
        simp [e1] at hr'
        subst hr'
        exact ⟨f3, hone _ _ f5, ⟨p, f1, f4⟩, m[i], by simp [show i < m.length by omega], f5⟩
  exact gen m.length (Nat.le_refl _)
theorem append_new {α : Type} {P : Program} {t ty e k bytes b : Nat} {R : World → List Value → α → Prop} {S : Nat → Prop} {w : World} {x : Value} {m : List α} (hE : ElemOK P t e k bytes) (hb : w.heap[b]? = some (.cells #[] e (0, 0))) (hx : SlR S k R w x m)
    (hone : ∀ w r y, R w r y → ∀ u ∈ r, u.oneCell' = true) (h63 : m.length * bytes ≤ 140737488355328) (hR : ∀ w', w.grownBy w' (some b) → ∀ r y, R w r y → R w' r y) :
    ∃ v' w', (Builtin.append_ #[t, t] ty [.slice (some ⟨b, 0, none⟩) 0 0, x].toArray).run P w = .ok v' w' ∧ OwnR b e k R w' v' m ∧ Grow w w' ∧ ∀ g, v'.ownBlock = some g → g = b ∨ w.heap.size ≤ g := by
  obtain ⟨a, c, rfl, hm⟩ := hx.shape
  have hlt : b < w.heap.size := (Array.getElem?_eq_some_iff.1 hb).1
  have ho : OwnR b e k R w (.slice (some ⟨b, 0, none⟩) 0 0) ([] : List α) := ⟨[], ⟨by simp, .inr ⟨b, 0, #[], rfl, Nat.le_refl _, hb, Nat.le_refl _, by simp [maxLen], by simp, by simp⟩⟩, rfl, by simp, by simp⟩
  obtain ⟨v', w', hrun, r2, r3, r4⟩ := OwnR.append (ty := ty) hE ho hx (fun _ _ => hone _ _ _) (by simpa using h63) (by omega) (by simpa using hm) (fun w' hg r y hy => hR w' hg r y hy)
  refine ⟨v', w', hrun, by simpa using r2, ?_, fun g hg => ?_⟩
  · obtain ⟨i, z, ht, hi, hz, hs, hbt, hzs, hk⟩ := hE
    obtain ⟨rows', g1, g2⟩ := SlR.rows hx (fun _ _ => hone _ _ _)
    have hlen : ∀ r ∈ rows', r.length = k := fun r hr => by obtain ⟨j, hj⟩ := List.mem_iff_getElem?.1 hr; exact (g2 j r hj).1
    simp only [maxLen] at hm
    by_cases hm0 : m.length = 0
    · have h0 : (Builtin.append_ #[t, t] ty [.slice (some ⟨b, 0, none⟩) 0 0, .slice a m.length c].toArray).run P w = .ok (.slice (some ⟨b, 0, none⟩) 0 0) w := by
        rw [hm0]
        cases a <;> simp [Builtin.append_, run_underlying ht, sizeOf, typeInfo, hi, Builtin.lenOf, Builtin.firstCells, storeCells, loadCells, loadCellsFrom]
      rw [h0] at hrun
      cases hrun
      exact Mod.refl _ _
    · obtain ⟨p, r, f1, _⟩ := hx.get (i := 0) (by omega)
      subst f1
      have hr := run_append_grow (P := P) w t ty e i z ht hi hz ⟨b, 0, none⟩ 0 0 [] (by simp) (by simp) p m.length c rows'.flatten (by rw [flat_len rows' hlen, g1, hs]) (fun q u hu => by
        obtain ⟨r, hr, hru⟩ := flat_of_get hk rows' hlen q u hu
        obtain ⟨_, _, ⟨p', hp', hc'⟩, _⟩ := g2 _ r hr
        cases hp'
        have := hc' _ u hru
        rwa [Nat.div_add_mod'] at this) (by omega) (by omega) (growslice_fits (by omega) (by rw [hbt]; simpa using h63))
      have hr' : (Builtin.append_ #[t, t] ty [.slice (some ⟨b, 0, none⟩) 0 0, .slice (some p) m.length c].toArray).run P w = _ := hr
      rw [hr'] at hrun
      cases hrun
      exact (Mod.drew _ _).trans (Mod.alloc _ _ _)
  · rcases r4 g hg with h | h
    · exact .inl (by simpa [Value.ownBlock] using h.symm)
    · exact .inr h
end Go.K

namespace Go.K
open Go
theorem flat_take {k : Nat} : ∀ (rows : List (List Value)) (j : Nat), (∀ r ∈ rows, r.length = k) → rows.flatten.take (j * k) = (rows.take j).flatten := by
  intro rows
  induction rows with
  | nil => intro j _; simp
  | cons r rows ih =>
    intro j h
    have h0 := h r (by simp)
    cases j with
    | zero => simp
    | succ j =>
      rw [List.flatten_cons, List.take_succ_cons, List.flatten_cons, ← ih j fun x hx => h x (by simp [hx])]
      rw [List.take_append, List.take_of_length_le (by rw [h0, Nat.add_mul]; omega)]
      congr 2
      rw [h0, Nat.add_mul]; omega
/-- the first elements of a row of the call's own -/
theorem OwnR.take {α : Type} {B e k : Nat} {R : World → List Value → α → Prop} {w : World} {g n c : Nat} {l : List α} (h : OwnR B e k R w (.slice (some ⟨g, 0, none⟩) n c) l) {j : Nat} (hj : j ≤ l.length) : OwnR B e k R w (.slice (some ⟨g, 0, none⟩) j c) (l.take j) := by
  obtain ⟨rows, h1, h2, h3, h4⟩ := h
  have hrl : ∀ r ∈ rows, r.length = k := fun r hr => (h3 r hr).1
  refine ⟨rows.take j, ⟨?_, ?_⟩, by rw [List.length_take, List.length_take, h2], fun r hr => h3 r (List.mem_of_mem_take hr), fun i r x hr hx => ?_⟩
  · rw [flat_len _ fun r hr => hrl r (List.mem_of_mem_take hr), List.length_take, List.length_take, h2]
  · rcases h1.2 with ⟨hn, _⟩ | ⟨g', cap, cur, hv, hb, hg, hn, hm, hs, ht⟩
    · cases hn
    · cases hv
      refine .inr ⟨g, c, cur, by rw [List.length_take, Nat.min_eq_left hj], hb, hg, by rw [List.length_take]; omega, hm, hs, ?_⟩
      rw [← flat_take rows j hrl, ← ht, List.take_take, List.length_take]
      congr 1
      rw [Nat.min_eq_left hj, Nat.min_eq_left (Nat.mul_le_mul_right _ hj)]
  · rw [List.getElem?_take] at hr hx
    split at hr
    · rename_i hlt; rw [if_pos hlt] at hx; exact h4 i r x hr hx
    · cases hr
theorem slice_hi_run {P : Program} {t e k : Nat} {i : TypeInfo} {g n c j : Nat} (ht : P.underlying t = some (.slice e)) (hi : P.info? e = some i) (hk : i.size = k) (hj : j ≤ c) (w : World) : (Instr.sliceAt t (.slice (some ⟨g, 0, none⟩) n c) none (some (.int .i64 j)) none).run P w = .ok (.slice (some ⟨g, 0, none⟩) j c) w := by
  have hel : P.elem t = e := by simp [Program.elem, ht]
  rw [run_sliceAt_slice _ _ _ _ _ _ (by rw [hel]; exact ht), run_slice_h _ _ _ _ _ (by rw [hel]; exact ht) _ _ (by omega) (by omega), hel]
  simp [sizeOf, typeInfo, hi, hk, sliced, Addr.add]
/-- a store into one of a box's cells -/
theorem box_store {b : Nat} {vs : List Value} {q : Nat} {u : Value} {W : World} {K : World → Prop} (hc : ∀ j v, vs[j]? = some v → W.cell? ⟨b, j, none⟩ = some v) (hl : ∀ j, j < vs.length → Live W ⟨b, j, none⟩) (hq : q < vs.length) (h1 : u.oneCell' = true) (h2 : u.cells = #[u])
    (hK : ∀ W', Mod (fun x => x = b) W W' → (∀ j v, (vs.set q u)[j]? = some v → W'.cell? ⟨b, j, none⟩ = some v) → (∀ j, j < (vs.set q u).length → Live W' ⟨b, j, none⟩) → K W') : st1K (.pointer (some ⟨b, q, none⟩)) u K W := by
  refine (hl q hq).st h1 h2 (hK _ (Mod.setCell (M := fun x => x = b) W ⟨b, q, none⟩ u rfl) (fun j v hv => ?_) fun j hj => (hl j (by simpa using hj)).set _ _)
  by_cases e : j = q
  · subst e
    rw [List.getElem?_set_self hq] at hv
    cases hv
    obtain ⟨u', hu'⟩ := Option.isSome_iff_exists.1 (hl j hq).1
    exact World.cell?_setCell_same _ _ _ hu'
  · rw [List.getElem?_set_ne (Ne.symm e)] at hv
    rw [World.cell?_setCell_other _ _ _ _ (fun e' => by simp only [Addr.mk.injEq] at e'; exact e e'.2.1.symm)]
    exact hc j v hv
/-- adding onto a slice that has no room: a new row -/
theorem append_full {α : Type} {P : Program} {t ty e k bytes : Nat} {R : World → List Value → α → Prop} {S S' : Nat → Prop} {w : World} {p : Addr} {x : Value} {l m : List α} (hE : ElemOK P t e k bytes) (h : SlR S k R w (.slice (some p) l.length l.length) l) (hx : SlR S' k R w x m) (hm0 : 0 < m.length)
    (hone : ∀ w r y, R w r y → ∀ u ∈ r, u.oneCell' = true) (h63 : (l.length + m.length) * bytes ≤ 140737488355328) (hlm : l.length + m.length ≤ maxLen) (hR : ∀ w', Grow w w' → ∀ r y, R w r y → R w' r y) :
    ∃ v' w', (Builtin.append_ #[t, t] ty [.slice (some p) l.length l.length, x].toArray).run P w = .ok v' w' ∧ OwnR w.heap.size e k R w' v' (l ++ m) ∧ Grow w w' := by
  obtain ⟨i, z, ht, hi, hz, hs, hbt, hzs, hk⟩ := hE
  obtain ⟨a, c, rfl, hm⟩ := hx.shape
  have hlm' := hlm
  simp only [maxLen] at hlm
  obtain ⟨rows, g1, g2⟩ := SlR.rows h (fun _ _ => hone _ _ _)
  obtain ⟨rows', g1', g2'⟩ := SlR.rows hx (fun _ _ => hone _ _ _)
  have hlen : ∀ r ∈ rows, r.length = k := fun r hr => by obtain ⟨j, hj⟩ := List.mem_iff_getElem?.1 hr; exact (g2 j r hj).1
  have hlen' : ∀ r ∈ rows', r.length = k := fun r hr => by obtain ⟨j, hj⟩ := List.mem_iff_getElem?.1 hr; exact (g2' j r hj).1
  obtain ⟨pa, r0, f1, _⟩ := hx.get (i := 0) hm0
  subst f1
  have get : ∀ {rs : List (List Value)} {q : Addr}, (∀ r ∈ rs, r.length = k) → (∀ (i : Nat) (r : List Value), rs[i]? = some r → ∀ j u, r[j]? = some u → w.cell? (q.add (i * k + j)) = some u) → ∀ (j : Nat) (u : Value), rs.flatten[j]? = some u → w.cell? (q.add j) = some u := by
    intro rs q hl hc j u hu
    obtain ⟨r, hr, hru⟩ := flat_of_get hk rs hl j u hu
    have := hc _ r hr _ u hru
    rwa [Nat.div_add_mod'] at this
  have hr := run_append_grow (P := P) w t ty e i z ht hi hz p l.length l.length rows.flatten (by rw [flat_len rows hlen, g1, hs]) (get hlen fun j r hj q u hu => by
      obtain ⟨_, _, ⟨p', hp', hc'⟩, _⟩ := g2 j r hj
      cases hp'; exact hc' q u hu) pa m.length c rows'.flatten (by rw [flat_len rows' hlen', g1', hs]) (get hlen' fun j r hj q u hu => by
      obtain ⟨_, _, ⟨p', hp', hc'⟩, _⟩ := g2' j r hj
      cases hp'; exact hc' q u hu) (by omega) (by omega) (growslice_fits (by omega) (by rw [hbt]; exact h63))
  have hg : Grow w (w.drew.alloc (.cells (rows.flatten.toArray ++ rows'.flatten.toArray ++ Builtin.zeroCells z.cells (grownCap w (l.length + m.length) l.length e - (l.length + m.length))) e)) := (Mod.drew _ _).trans (Mod.alloc _ _ _)
  have hge := grownCap_ge w (l.length + m.length) l.length e
  have hflat : (rows.flatten ++ rows'.flatten).length = (l.length + m.length) * k := by rw [List.length_append, flat_len rows hlen, flat_len rows' hlen', g1, g1', Nat.add_mul]
  refine ⟨_, _, hr, ⟨rows ++ rows', ⟨by rw [List.flatten_append, hflat, List.length_append], .inr ⟨w.heap.size, _, _, by rw [List.length_append], Nat.le_refl _, heap_alloc_new w.drew _, by rw [List.length_append]; exact hge, grownCap_le_maxLen w (l.length + m.length) l.length e hlm', ?_, ?_⟩⟩, by simp [g1, g1'], fun r hr => ?_, fun j r y hj hy => ?_⟩, hg⟩
  · simp only [Array.size_append, List.size_toArray, size_zeroCells, hzs]
    have e1 := hflat
    rw [List.length_append] at e1
    rw [e1, ← Nat.add_mul]
    congr 1; omega
  · simp only [Array.toList_append, List.length_append, List.flatten_append]
    have h3 : (l.length + m.length) * k = (rows.flatten ++ rows'.flatten).length := hflat.symm
    rw [h3, List.take_append_of_le_length (Nat.le_refl _), List.take_length]
  · rcases List.mem_append.1 hr with h | h
    · obtain ⟨j, hj⟩ := List.mem_iff_getElem?.1 h; exact ⟨(g2 j r hj).1, (g2 j r hj).2.1⟩
    · obtain ⟨j, hj⟩ := List.mem_iff_getElem?.1 h; exact ⟨(g2' j r hj).1, (g2' j r hj).2.1⟩
  · refine hR _ hg r y ?_
    by_cases hjl : j < l.length
    · rw [List.getElem?_append_left (by omega)] at hj
      rw [List.getElem?_append_left hjl] at hy
      obtain ⟨_, _, _, y', hy', hRy⟩ := g2 j r hj
      rw [hy] at hy'; cases hy'; exact hRy
    · rw [List.getElem?_append_right (by omega), g1] at hj
      rw [List.getElem?_append_right (by omega)] at hy
      obtain ⟨_, _, _, y', hy', hRy⟩ := g2' _ r hj
      rw [hy] at hy'; cases hy'; exact hRy
/-- a stack: a row of the holder's own, or a slice without room -/
def StkR {α : Type} (e k : Nat) (R : World → List Value → α → Prop) (w : World) (v : Value) (l : List α) : Prop :=
  OwnR 0 e k R w v l ∨ ∃ p, v = .slice (some p) l.length l.length ∧ p.block < w.heap.size ∧ SlR (fun b => b = p.block) k R w v l
section
variable {α : Type} {e k : Nat} {R R' : World → List Value → α → Prop} {w w' : World} {v : Value} {l : List α} {M : Nat → Prop}
theorem StkR.sl (h : StkR e k R w v l) (hk : 0 < k) : SlR (fun b => v.ownBlock = some b) k R w v l := by
  rcases h with h | ⟨p, rfl, hlt, h⟩
  · exact (OwnR.sl h).sub (fun _ _ h => h.2) hk fun _ _ h => h
  · exact h.sub (fun b _ e => by rw [e]; rfl) hk fun _ _ h => h
theorem StkR.ownB (h : StkR e k R w v l) : ∀ g, v.ownBlock = some g → g < w.heap.size := by
  rcases h with h | ⟨p, rfl, hlt, h⟩
  · exact fun g hg => (OwnR.ownB h g hg).2
  · intro g hg
    have : p.block = g := Option.some.inj hg
    rw [← this]; exact hlt
theorem StkR.mod (h : StkR e k R w v l) (hk : 0 < k) (hm : Mod M w w') (hv : ∀ g, v.ownBlock = some g → ¬ M g) (hR : ∀ r x, R w r x → R' w' r x) : StkR e k R' w' v l := by
  rcases h with h | ⟨p, rfl, hlt, h⟩
  · exact .inl (OwnR.mod h hm hv fun r x _ hx => hR r x hx)
  · exact .inr ⟨p, rfl, Nat.lt_of_lt_of_le hlt hm.size, SlR.mono h (fun _ _ h => h) (fun b hb hs => hm.same b hb (hv b (by rw [hs]; rfl))) hk hR⟩
theorem StkR.one (h : StkR e k R w v l) : v.oneCell' = true ∧ v.cells = #[v] := by
  rcases h with h | ⟨p, rfl, hlt, h⟩
  · exact OwnR.one h
  · exact ⟨rfl, rfl⟩
theorem StkR.shape (h : StkR e k R w v l) (hk : 0 < k) : ∃ a c, v = .slice a l.length c ∧ l.length ≤ maxLen := (h.sl hk).shape
/-- one element more -/
theorem StkR.push {P : Program} {t bytes : Nat} {x : α} {zero : List Value} {parts : List (Nat × Value)} {cs : List Value} {K : Cont} (hE : ElemOK P t e k bytes) (h : StkR e k R w v l)
    (hf : Instr.fill (fun i => some (i * k, k)) ((Array.range (1 * k)).map (zero.toArray[· % zero.toArray.size]!)) parts = some cs.toArray) (hcs : cs.length = k) (hx : R w cs x) (hone : ∀ w r y, R w r y → ∀ u ∈ r, u.oneCell' = true)
    (hR : ∀ w1 w2 r y, w.heap.size ≤ w1.heap.size → Mod (fun b => v.ownBlock = some b ∨ w.heap.size ≤ b) w1 w2 → R w1 r y → R w2 r y) (hlen : (l.length + 1) * bytes ≤ 140737488355328) (hlm : l.length + 1 ≤ maxLen)
    {Q1 : World → Prop} {Q2 : World → World → Prop} (hQ1 : ∀ w1, Grow w w1 → Q1 w1)
    (hK : ∀ w1 v' w', OwnR 0 e k R w' v' (l ++ [x]) → Mod (fun b => v.ownBlock = some b) w1 w' → Mod (fun b => v.ownBlock = some b) w w' → (∀ g, v'.ownBlock = some g → v.ownBlock = some g ∨ w.heap.size ≤ g) → Q2 w1 w' ∧ K v' w') :
    rowK e k 1 zero parts (fun s w1 => Q1 w1 ∧ runK P (Builtin.append_ #[t, t] t [v, s].toArray) (fun v' w' => Q2 w1 w' ∧ K v' w') w1) w := by
  rcases h with h | ⟨p, rfl, hlt, h⟩
  · exact push_g2 hE h (Nat.zero_le _) hf hcs hx hone hR hlen hlm hQ1 hK
  refine ⟨_, hf, ?_⟩
  have hk : 0 < k := by obtain ⟨_, _, _, _, _, _, _, _, hk⟩ := hE; exact hk
  have hg : Grow w (w.alloc (.cells cs.toArray e)) := Mod.alloc _ _ _
  have hc : ∀ j u, cs[j]? = some u → (w.alloc (.cells cs.toArray e)).cell? ((⟨w.heap.size, 0, none⟩ : Addr).add j) = some u := fun j u hu => cell_box hu
  have hz : (w.alloc (.cells cs.toArray e)).heap.size = w.heap.size + 1 := by simp
  generalize w.alloc (.cells cs.toArray e) = w1 at hg hc hz ⊢
  have h' := h.grow hg hk fun r y hy => hR _ _ _ _ (Nat.le_refl _) (hg.mono fun _ _ h => h.elim) hy
  have hs : SlR (fun _ => True) k R w1 (.slice (some ⟨w.heap.size, 0, none⟩) 1 1) [x] := by
    refine ⟨_, 1, rfl, Nat.le_refl _, by simp [maxLen], fun i y hy => ?_⟩
    have hi : i = 0 := by have := (List.getElem?_eq_some_iff.1 hy).1; simp at this; exact this
    subst hi
    simp at hy; subst hy
    exact ⟨_, cs, rfl, trivial, hcs, fun j u hu => by rw [Nat.zero_mul, Nat.zero_add]; exact hc j u hu, hR _ _ _ _ (Nat.le_refl _) (hg.mono fun _ _ h => h.elim) hx⟩
  obtain ⟨v', w', h1, h2, h3⟩ := append_full (ty := t) (m := [x]) hE h' hs (by simp) hone hlen hlm fun w2 g r y hy => hR _ _ _ _ (by omega) (g.mono fun _ _ h => h.elim) hy
  refine ⟨hQ1 _ hg, runK_i h1 (hK w1 v' w' (h2.base fun _ _ => Nat.zero_le _) (h3.mono fun _ _ h => h.elim) ((hg.trans h3).mono fun _ _ h => h.elim) fun g hg' => .inr ?_)⟩
  have := (OwnR.ownB h2 g hg').1
  omega
end
end Go.K

namespace Go.Proofs.YtlbaopamhkmepaaGreatDoor
open Go Go.K
/-- rubric/schema.New -/
def S14 (v0 : Value) (K : Cont) (w : World) : Prop :=
  lenK v0 fun t10 =>
  gtK .i64 t10 (.int .i64 64) fun t11 =>
  condK t11
  (K (.tuple #[(.pointer none), (.int .i64 3)]) w)
  (callK Tryz.prog 43 [v0] (fun t13 w1 =>
  runK Tryz.prog (Instr.makeMap 85 none) (fun t14 w2 =>
  buildK [(0, 1), (1, 1)] [(.slice none 0 0), (.map none)] [(0, t13), (1, t14)] fun t15 =>
  boxnK 87 t15 (fun t16 w3 =>
  lenK v0 fun t18 =>
  LoopK [(.int .i64 0)] (fun vs again w4 => ∀ _h : Env,
  ltK .i64 (nth vs 0) t18 fun t20 =>
  condK t20
  (ixK 6 v0 (nth vs 0) fun t21 =>
  ldnK 6 t21 (fun t22 w5 =>
  newK 84 [(.int .i64 0), (.bool false), (.int .u8 0), (.bool false), (.bool false), (.int .i64 0)] (fun t6 w6 =>
  stnK 6 t6 t22 (fun w7 =>
  JoinK (fun _vs_1 w8 => ∀ _h_1 : Env,
  DrawC [7] [[], [0], [0, 1], [0, 1, 2], [], [4], [], [0, 1, 2, 3, 4, 5, 6]] w8.drew (fun M St =>
  nilckK t16 fun t40 =>
  faK 1 t40 fun t41 =>
  sld1 (St 3) t41 fun t42 =>
  faK 0 t6 fun t43 =>
  sld1 (St 5) t43 fun t44 =>
  sldn (St 6) 6 t6 fun t45 =>
  runK Tryz.prog (do Instr.mapUpdate 85 t42 t44 t45; pure undef) (fun _u w9 =>
  Mod (M 7) w8.drew w9 ∧
  addK .i64 (nth vs 0) (.int .i64 1) fun t46 =>
  again [t46] w9) w8.drew)) (fun J =>
  JoinK (fun vs_2 w10 => ∀ _h_2 : Env,
  condK (nth vs_2 0)
  (K (.tuple #[(.pointer none), (.int .i64 3)]) w10)
  (ldnK 6 t6 (fun t35 w11 =>
  callK Tryz.prog 44 [t35] (fun t36 w12 =>
  notK t36 fun t37 =>
  condK t37
  (K (.tuple #[(.pointer none), (.int .i64 3)]) w12)
  (J [] w12)) w11) w10)) (fun J_1 =>
  DrawC [6, 10, 11] [[], [0], [0, 1], [0, 1, 2], [], [4], [0, 1, 2, 3, 4, 5], [0, 1, 2, 3, 4, 5, 6], [0, 1, 2, 3, 4, 5, 6, 7], [0, 1, 2, 3, 4, 5, 6, 7], [], [0, 1, 2, 3, 4, 5, 6, 7, 8, 10], [0, 1, 2, 3, 4, 5, 6, 7, 8, 9, 10, 11]] w7.drew (fun M_1 St_1 =>
  nilckK t16 fun t25 =>
  faK 1 t25 fun t26 =>
  sld1 (St_1 3) t26 fun t27 =>
  faK 0 t6 fun t28 =>
  sld1 (St_1 5) t28 fun t29 =>
  (runK Tryz.prog (Instr.lookup 85 t27 t29 true) (fun t30 w13 =>
  Mod (M_1 6) w7.drew w13 ∧
  extK 0 t30 fun t31 =>
  extK 1 t30 fun t32 =>
  newK 84 [(.int .i64 0), (.bool false), (.int .u8 0), (.bool false), (.bool false), (.int .i64 0)] (fun t7 w14 =>
  Mod (M_1 10) w13 w14 ∧
  stnK 6 t7 t31 (fun w15 =>
  Mod (M_1 11) w14 w15 ∧
  J_1 [t32] w15) w14) w13) w7.drew) ∧
  (newK 84 [(.int .i64 0), (.bool false), (.int .u8 0), (.bool false), (.bool false), (.int .i64 0)] (fun t7_1 w16 =>
  Mod (M_1 10) w7.drew w16 ∧
  runK Tryz.prog (Instr.lookup 85 t27 t29 true) (fun t30_1 w17 =>
  Mod (M_1 6) w16 w17 ∧
  extK 0 t30_1 fun t31_1 =>
  extK 1 t30_1 fun t32_1 =>
  stnK 6 t7_1 t31_1 (fun w18 =>
  Mod (M_1 11) w17 w18 ∧
  J_1 [t32_1] w18) w17) w16) w7.drew))))) w6) w5) w4)
  (nilckK t16 fun t48 =>
  faK 0 t48 fun t49 =>
  ld1K t49 (fun t50 w19 =>
  callK Tryz.prog 45 [t50, (.func (.func 46) #[] #[])] (fun _t51 w20 =>
  K (.tuple #[t16, (.int .i64 0)]) w20) w19) w4)) w3) w2) w1) w)
theorem S14_eq (v0 : Value) (K : Cont) (w : World) : S14 v0 K w = D Tryz.prog okf 53 (bodyOf Tryz.f14) (.node [] [] .nil (.node [] [] (.node [] [] .nil (.node [] [] (.node [] [] .nil .nil) .nil)) (.node [] [] .nil (.node [] [] (.node [] [] .nil (.node [19] [(2, 3), (6, 8), (19, 46)] (.node [] [] .nil (.node [] [] (.node [] [] .nil .nil) (.node [] [] (.node [] [] .nil (.cut [] [(2, 3), (7, 8), (23, 38)] (.cut [8] [(7, 8), (23, 32)] (.dt [6, 10, 11] [[], [0], [0, 1], [0, 1, 2], [], [4], [0, 1, 2, 3, 4, 5], [0, 1, 2, 3, 4, 5, 6], [0, 1, 2, 3, 4, 5, 6, 7], [0, 1, 2, 3, 4, 5, 6, 7], [], [0, 1, 2, 3, 4, 5, 6, 7, 8, 10], [0, 1, 2, 3, 4, 5, 6, 7, 8, 9, 10, 11]] [[6]] (.op 0 (.op 1 (.op 2 (.op 3 (.op 4 (.op 5 (.br (.op 6 (.op 7 (.op 8 (.op 9 (.op 10 (.op 11 (.op 12 .nil))))))) (.op 10 (.op 6 (.op 7 (.op 8 (.op 9 (.op 11 (.op 12 .nil))))))))))))))) (.node [] [] .nil (.node [] [] (.node [] [] .nil .nil) .nil))) (.dc [7] [[], [0], [0, 1], [0, 1, 2], [], [4], [], [0, 1, 2, 3, 4, 5, 6]] []))) .nil))) .nil)) (.node [] [] .nil (.node [] [] .nil .nil)))))) (retK Tryz.prog [.tmp 2, .tmp 3] K) (nth [v0]) w := by kernel_rfl
theorem S14_ok {v0 : Value} {K : Cont} {w : World} (h : S14 v0 K w) : callK Tryz.prog 14 [v0] K w :=
  callK_of (P := Tryz.prog) (ok := okf) (n := 53) (fn := Tryz.f14) (c := bodyOf Tryz.f14) (rs := [.tmp 2, .tmp 3]) (an := (.node [] [] .nil (.node [] [] (.node [] [] .nil (.node [] [] (.node [] [] .nil .nil) .nil)) (.node [] [] .nil (.node [] [] (.node [] [] .nil (.node [19] [(2, 3), (6, 8), (19, 46)] (.node [] [] .nil (.node [] [] (.node [] [] .nil .nil) (.node [] [] (.node [] [] .nil (.cut [] [(2, 3), (7, 8), (23, 38)] (.cut [8] [(7, 8), (23, 32)] (.dt [6, 10, 11] [[], [0], [0, 1], [0, 1, 2], [], [4], [0, 1, 2, 3, 4, 5], [0, 1, 2, 3, 4, 5, 6], [0, 1, 2, 3, 4, 5, 6, 7], [0, 1, 2, 3, 4, 5, 6, 7], [], [0, 1, 2, 3, 4, 5, 6, 7, 8, 10], [0, 1, 2, 3, 4, 5, 6, 7, 8, 9, 10, 11]] [[6]] (.op 0 (.op 1 (.op 2 (.op 3 (.op 4 (.op 5 (.br (.op 6 (.op 7 (.op 8 (.op 9 (.op 10 (.op 11 (.op 12 .nil))))))) (.op 10 (.op 6 (.op 7 (.op 8 (.op 9 (.op 11 (.op 12 .nil))))))))))))))) (.node [] [] .nil (.node [] [] (.node [] [] .nil .nil) .nil))) (.dc [7] [[], [0], [0, 1], [0, 1, 2], [], [4], [], [0, 1, 2, 3, 4, 5, 6]] []))) .nil))) .nil)) (.node [] [] .nil (.node [] [] .nil .nil))))))) good mixed Tryz.func14 (by kernel_rfl) (by kernel_rfl) (by kernel_rfl) (by kernel_rfl) (Eq.mp (S14_eq v0 K w) h)

/-- slices.Clone[[]rubric/api.Key,rubric/api.Key] -/
def S43 (v0 : Value) (K : Cont) (w : World) : Prop :=
  snilK v0 fun b4 =>
  condK (.bool b4)
  (K (.slice none 0 0) w)
  (rowK 84 6 0 [] [] (fun t5 w1 =>
  runK Tryz.prog (Builtin.append_ #[48, 48] 48 [t5, v0].toArray) (fun t7 w2 =>
  K t7 w2) w1) w)
theorem S43_eq (v0 : Value) (K : Cont) (w : World) : S43 v0 K w = D Tryz.prog okf 8 (bodyOf Tryz.f43) (.node [] [] .nil (.node [] [] (.node [] [] .nil (.node [] [] (.node [] [] .nil .nil) .nil)) (.node [] [] .nil .nil))) (retK Tryz.prog [.tmp 2] K) (nth [v0]) w := by kernel_rfl
theorem S43_ok {v0 : Value} {K : Cont} {w : World} (h : S43 v0 K w) : callK Tryz.prog 43 [v0] K w :=
  callK_of (P := Tryz.prog) (ok := okf) (n := 8) (fn := Tryz.f43) (c := bodyOf Tryz.f43) (rs := [.tmp 2]) (an := (.node [] [] .nil (.node [] [] (.node [] [] .nil (.node [] [] (.node [] [] .nil .nil) .nil)) (.node [] [] .nil .nil)))) good mixed Tryz.func43 (by kernel_rfl) (by kernel_rfl) (by kernel_rfl) (by kernel_rfl) (Eq.mp (S43_eq v0 K w) h)

/-- rubric/schema.may -/
def S44 (v0 : Value) (K : Cont) (w : World) : Prop :=
  boxnK 84 v0 (fun t1 w1 =>
  JoinK (fun vs w2 => ∀ _h : Env,
  condK (nth vs 0)
  (K (.bool false) w2)
  (faK 1 t1 fun t23 =>
  ld1K t23 (fun t24 w3 =>
  condK t24
  (faK 4 t1 fun t25 =>
  ld1K t25 (fun t26 w4 =>
  notK t26 fun t27 =>
  condK t27
  (faK 5 t1 fun t29 =>
  ld1K t29 (fun t30 w5 =>
  geK .i64 t30 (.int .i64 0) fun t31 =>
  condK t31
  (faK 5 t1 fun t34 =>
  ld1K t34 (fun t35 w6 =>
  leK .i64 t35 (.int .i64 8) fun t36 =>
  K t36 w6) w5)
  (K (.bool false) w5)) w4)
  (K (.bool false) w4)) w3)
  (faK 5 t1 fun t38 =>
  ld1K t38 (fun t39 w7 =>
  eqK .i64 t39 (.int .i64 0) fun t40 =>
  K t40 w7) w3)) w2)) (fun J =>
  faK 0 t1 fun t4 =>
  ld1K t4 (fun t5 w8 =>
  ltK .i64 t5 (.int .i64 1) fun t6 =>
  condK t6
  (J [(.bool true)] w8)
  (faK 0 t1 fun t8 =>
  ld1K t8 (fun t9 w9 =>
  gtK .i64 t9 (.int .i64 1000) fun t10 =>
  condK t10
  (J [(.bool true)] w9)
  (faK 2 t1 fun t13 =>
  ld1K t13 (fun t14 w10 =>
  ltK .u8 t14 (.int .u8 1) fun t15 =>
  condK t15
  (J [(.bool true)] w10)
  (faK 2 t1 fun t18 =>
  ld1K t18 (fun t19 w11 =>
  gtK .u8 t19 (.int .u8 4) fun t20 =>
  J [t20] w11) w10)) w9)) w8)) w1)) w
theorem S44_eq (v0 : Value) (K : Cont) (w : World) : S44 v0 K w = D Tryz.prog okf 41 (bodyOf Tryz.f44) (.node [] [] .nil (.node [] [] (.cut [3] [(3, 21)] .nil (.node [] [] (.node [] [] .nil .nil) (.node [] [] .nil (.node [] [] (.node [] [] .nil .nil) .nil)))) (.node [] [] .nil .nil))) (retK Tryz.prog [.tmp 2] K) (nth [v0]) w := by kernel_rfl
theorem S44_ok {v0 : Value} {K : Cont} {w : World} (h : S44 v0 K w) : callK Tryz.prog 44 [v0] K w :=
  callK_of (P := Tryz.prog) (ok := okf) (n := 41) (fn := Tryz.f44) (c := bodyOf Tryz.f44) (rs := [.tmp 2]) (an := (.node [] [] .nil (.node [] [] (.cut [3] [(3, 21)] .nil (.node [] [] (.node [] [] .nil .nil) (.node [] [] .nil (.node [] [] (.node [] [] .nil .nil) .nil)))) (.node [] [] .nil .nil)))) good mixed Tryz.func44 (by kernel_rfl) (by kernel_rfl) (by kernel_rfl) (by kernel_rfl) (Eq.mp (S44_eq v0 K w) h)

/-- rubric/schema.New$1 -/
def S46 (v0 v1 : Value) (K : Cont) (w : World) : Prop :=
  boxnK 84 v0 (fun t2 w1 =>
  boxnK 84 v1 (fun t3 w2 =>
  faK 0 t2 fun t5 =>
  ld1K t5 (fun t6 w3 =>
  faK 0 t3 fun t7 =>
  ld1K t7 (fun t8 w4 =>
  callK Tryz.prog 47 [t6, t8] (fun t9 w5 =>
  K t9 w5) w4) w3) w2) w1) w
theorem S46_eq (v0 v1 : Value) (K : Cont) (w : World) : S46 v0 v1 K w = D Tryz.prog okf 10 (bodyOf Tryz.f46) (.node [] [] .nil (.node [] [] .nil .nil)) (retK Tryz.prog [.tmp 4] K) (nth [v0, v1]) w := by kernel_rfl
theorem S46_ok {v0 v1 : Value} {K : Cont} {w : World} (h : S46 v0 v1 K w) : callK Tryz.prog 46 [v0, v1] K w :=
  callK_of (P := Tryz.prog) (ok := okf) (n := 10) (fn := Tryz.f46) (c := bodyOf Tryz.f46) (rs := [.tmp 4]) (an := (.node [] [] .nil (.node [] [] .nil .nil))) good mixed Tryz.func46 (by kernel_rfl) (by kernel_rfl) (by kernel_rfl) (by kernel_rfl) (Eq.mp (S46_eq v0 v1 K w) h)

/-- cmp.Compare[int] -/
def S47 (v0 v1 : Value) (K : Cont) (w : World) : Prop :=
  callK Tryz.prog 82 [v0] (fun t8 w1 =>
  callK Tryz.prog 82 [v1] (fun t10 w2 =>
  condK t8
  (condK t10
  (K (.int .i64 0) w2)
  (K (.int .i64 (-1)) w2))
  (condK t10
  (K (.int .i64 1) w2)
  (ltK .i64 v0 v1 fun t16 =>
  condK t16
  (K (.int .i64 (-1)) w2)
  (gtK .i64 v0 v1 fun t19 =>
  condK t19
  (K (.int .i64 1) w2)
  (K (.int .i64 0) w2))))) w1) w
theorem S47_eq (v0 v1 : Value) (K : Cont) (w : World) : S47 v0 v1 K w = D Tryz.prog okf 20 (bodyOf Tryz.f47) (.node [] [] .nil (.node [] [] .nil (.node [] [] .nil (.node [] [] (.node [] [] .nil (.node [] [] (.node [] [] (.node [] [] .nil (.node [] [] (.node [] [] .nil .nil) .nil)) (.node [] [] .nil .nil)) .nil)) (.node [] [] (.node [] [] .nil (.node [] [] (.node [] [] .nil .nil) .nil)) (.node [] [] (.node [] [] .nil (.node [] [] (.node [] [] .nil .nil) .nil)) (.node [] [] (.node [] [] .nil (.node [] [] (.node [] [] .nil .nil) .nil)) (.node [] [] .nil .nil)))))))) (retK Tryz.prog [.tmp 4] K) (nth [v0, v1]) w := by kernel_rfl
theorem S47_ok {v0 v1 : Value} {K : Cont} {w : World} (h : S47 v0 v1 K w) : callK Tryz.prog 47 [v0, v1] K w :=
  callK_of (P := Tryz.prog) (ok := okf) (n := 20) (fn := Tryz.f47) (c := bodyOf Tryz.f47) (rs := [.tmp 4]) (an := (.node [] [] .nil (.node [] [] .nil (.node [] [] .nil (.node [] [] (.node [] [] .nil (.node [] [] (.node [] [] (.node [] [] .nil (.node [] [] (.node [] [] .nil .nil) .nil)) (.node [] [] .nil .nil)) .nil)) (.node [] [] (.node [] [] .nil (.node [] [] (.node [] [] .nil .nil) .nil)) (.node [] [] (.node [] [] .nil (.node [] [] (.node [] [] .nil .nil) .nil)) (.node [] [] (.node [] [] .nil (.node [] [] (.node [] [] .nil .nil) .nil)) (.node [] [] .nil .nil))))))))) good mixed Tryz.func47 (by kernel_rfl) (by kernel_rfl) (by kernel_rfl) (by kernel_rfl) (Eq.mp (S47_eq v0 v1 K w) h)

/-- (*rubric/schema.Schema).Find -/
def S193 (v0 v1 : Value) (K : Cont) (w : World) : Prop :=
  newK 84 [(.int .i64 0), (.bool false), (.int .u8 0), (.bool false), (.bool false), (.int .i64 0)] (fun t4 w1 =>
  pnilK v0 fun b9 =>
  condK (.bool b9)
  (buildK [(0, 1), (1, 1), (2, 1), (3, 1), (4, 1), (5, 1)] [(.int .i64 0), (.bool false), (.int .u8 0), (.bool false), (.bool false), (.int .i64 0)] [] fun t10 =>
  stnK 6 t4 t10 (fun w2 =>
  ldnK 6 t4 (fun r0 w3 =>
  K (.tuple #[r0, (.bool false)]) w3) w2) w1)
  (nilckK v0 fun t13 =>
  faK 1 t13 fun t14 =>
  ld1K t14 (fun t15 w4 =>
  runK Tryz.prog (Instr.lookup 85 t15 v1 true) (fun t17 w5 =>
  extK 0 t17 fun t18 =>
  extK 1 t17 fun t19 =>
  newK 84 [(.int .i64 0), (.bool false), (.int .u8 0), (.bool false), (.bool false), (.int .i64 0)] (fun t6 w6 =>
  stnK 6 t6 t18 (fun w7 =>
  ldnK 6 t6 (fun t20 w8 =>
  stnK 6 t4 t20 (fun w9 =>
  ldnK 6 t4 (fun r0_1 w10 =>
  K (.tuple #[r0_1, t19]) w10) w9) w8) w7) w6) w5) w4) w1)) w
theorem S193_eq (v0 v1 : Value) (K : Cont) (w : World) : S193 v0 v1 K w = D Tryz.prog okf 22 (bodyOf Tryz.f193) (.node [] [] .nil (.node [] [] (.node [] [] .nil (.node [] [] (.node [] [] .nil .nil) .nil)) (.node [] [] .nil (.node [] [] .nil .nil)))) (retK Tryz.prog [.cell 4 84, .tmp 5] K) (nth [v0, v1]) w := by kernel_rfl
theorem S193_ok {v0 v1 : Value} {K : Cont} {w : World} (h : S193 v0 v1 K w) : callK Tryz.prog 193 [v0, v1] K w :=
  callK_of (P := Tryz.prog) (ok := okf) (n := 22) (fn := Tryz.f193) (c := bodyOf Tryz.f193) (rs := [.cell 4 84, .tmp 5]) (an := (.node [] [] .nil (.node [] [] (.node [] [] .nil (.node [] [] (.node [] [] .nil .nil) .nil)) (.node [] [] .nil (.node [] [] .nil .nil))))) good mixed Tryz.func193 (by kernel_rfl) (by kernel_rfl) (by kernel_rfl) (by kernel_rfl) (Eq.mp (S193_eq v0 v1 K w) h)

/-- cmp.isNaN[int] -/
def S82 (v0 : Value) (K : Cont) (w : World) : Prop :=
  neK .i64 v0 v0 fun t5 =>
  K t5 w
theorem S82_eq (v0 : Value) (K : Cont) (w : World) : S82 v0 K w = D Tryz.prog okf 6 (bodyOf Tryz.f82) (.node [] [] .nil (.node [] [] .nil .nil)) (retK Tryz.prog [.tmp 2] K) (nth [v0]) w := by kernel_rfl
theorem S82_ok {v0 : Value} {K : Cont} {w : World} (h : S82 v0 K w) : callK Tryz.prog 82 [v0] K w :=
  callK_of (P := Tryz.prog) (ok := okf) (n := 6) (fn := Tryz.f82) (c := bodyOf Tryz.f82) (rs := [.tmp 2]) (an := (.node [] [] .nil (.node [] [] .nil .nil))) good mixed Tryz.func82 (by kernel_rfl) (by kernel_rfl) (by kernel_rfl) (by kernel_rfl) (Eq.mp (S82_eq v0 K w) h)

end Go.Proofs.YtlbaopamhkmepaaGreatDoor

namespace Go.K
open Go

def MapI (w : World) (b : Nat) (l : List (Int × Value)) : Prop := ∃ es clock, w.heap[b]? = some (.map es clock) ∧ es.toList.map (fun e => (e.key, e.val)) = l.map fun p => (Value.int .i64 p.1, p.2)
theorem MapI.lt {w : World} {b : Nat} {l : List (Int × Value)} (h : MapI w b l) : b < w.heap.size := by
  obtain ⟨es, c, hb, _⟩ := h
  exact (Array.getElem?_eq_some_iff.1 hb).1
theorem MapI.mod {M : Nat → Prop} {w w' : World} {b : Nat} {l : List (Int × Value)} (h : MapI w b l) (hm : Mod M w w') (hb : ¬ M b) : MapI w' b l := by
  have hl := h.lt
  obtain ⟨es, c, h1, h2⟩ := h
  exact ⟨es, c, (hm.same b hl hb).trans h1, h2⟩
theorem MapI.make (w : World) : MapI (w.alloc (.map #[] 0)) w.heap.size [] := ⟨#[], 0, (MapKept.heap_alloc w _).1, rfl⟩

theorem findNow_int (k : Int) : ∀ (es : List MapEntry) (l : List (Int × Value)) (i : Nat), (es.map fun e => (e.key, e.val)) = (l.map fun p => (Value.int .i64 p.1, p.2)) →
    ∃ r, Instr.findNow (.int .i64) (.int .i64 k) es i = some r ∧ ((r = none ∧ l.find? (fun p => decide (p.1 = k)) = none) ∨ ∃ j p, r = some (j, p.2) ∧ l.find? (fun p => decide (p.1 = k)) = some p) := by
  intro es
  induction es with
  | nil =>
    intro l i h
    cases l with
    | nil => exact ⟨none, rfl, .inl ⟨rfl, rfl⟩⟩
    | cons p l => simp at h
  | cons e es ih =>
    intro l i h
    cases l with
    | nil => simp at h
    | cons p l =>
      simp only [List.map_cons, List.cons.injEq, Prod.mk.injEq] at h
      obtain ⟨⟨h1, h2⟩, h3⟩ := h
      obtain ⟨r, hr, hiff⟩ := MapKept.sameNow_of_keys (d := .int .i64) (a := .int .i64 k) (b := e.key) rfl (by rw [h1]; rfl)
      rw [h1] at hiff
      cases r with
      | true =>
        have hk : k = p.1 := by have := hiff.1 rfl; simpa using this
        exact ⟨some (i, e.val), by simp [Instr.findNow, hr], .inr ⟨i, p, by rw [h2], by simp [hk]⟩⟩
      | false =>
        have hk : ¬ p.1 = k := fun e => by have := hiff.2 (by rw [e]); cases this
        obtain ⟨r, h4, h5⟩ := ih l (i + 1) h3
        refine ⟨r, by simp [Instr.findNow, hr, h4], ?_⟩
        simpa [List.find?_cons, hk] using h5
theorem isKeyI (k : Int) : MapKept.IsKey (.int .i64) (.int .i64 k) := rfl
theorem map_lookup {P : Program} {t kt et : TypeId} {z : Value} {w : World} {b : Nat} {l : List (Int × Value)} (ht : P.underlying t = some (.map kt et)) (hk : P.underlying kt = some (.int .i64)) (hz : (zeroValue et).run P w = .ok z w) (h : MapI w b l) (k : Int) :
    (Instr.lookup t (.map (some b)) (.int .i64 k) true).run P w = .ok (.tuple #[((l.find? fun p => decide (p.1 = k)).map (·.2)).getD z, .bool (l.find? fun p => decide (p.1 = k)).isSome]) w := by
  obtain ⟨es, clock, hb, he⟩ := h
  obtain ⟨r, h1, h2⟩ := findNow_int k es.toList l 0 he
  have hf := MapKept.run_findKey (w := w) hk h1
  have hc := fun em => MapKept.run_checkKey (w := w) hk (isKeyI k) em 9999
  rcases h2 with ⟨rfl, h2⟩ | ⟨j, p, rfl, h2⟩
  · simp [Instr.lookup, run_underlying ht, MapKept.run_getObj_map hb, hc, hf, hz, Result.andThen, h2]
  · simp [Instr.lookup, run_underlying ht, MapKept.run_getObj_map hb, hc, hf, Result.andThen, h2]
theorem map_update {P : Program} {t kt et : TypeId} {w : World} {b : Nat} {l : List (Int × Value)} (ht : P.underlying t = some (.map kt et)) (hk : P.underlying kt = some (.int .i64)) (h : MapI w b l) (k : Int) (v : Value) (hn : l.find? (fun p => decide (p.1 = k)) = none) :
    ∃ w', (Instr.mapUpdate t (.map (some b)) (.int .i64 k) v).run P w = .ok () w' ∧ MapI w' b (l ++ [(k, v)]) ∧ Mod (fun x => x = b) w w' := by
  obtain ⟨es, clock, hb, he⟩ := h
  obtain ⟨r, h1, h2⟩ := findNow_int k es.toList l 0 he
  have hf := MapKept.run_findKey (w := w) hk h1
  have hc := fun em => MapKept.run_checkKey (w := w) hk (isKeyI k) em 9999
  rcases h2 with ⟨rfl, h2⟩ | ⟨j, p, rfl, h2⟩
  · refine ⟨{ w with heap := w.heap.setIfInBounds b (.map (es.push ⟨.int .i64 k, v, clock⟩) (clock + 1)) }, by simp [Instr.mapUpdate, run_underlying ht, MapKept.run_getObj_map hb, hc, hf, MapKept.run_setObj_map _ hb, Result.andThen], ⟨_, _, (MapKept.heap_set hb).1, ?_⟩, ⟨rfl, rfl, rfl, by simp, fun x _ hx => (MapKept.heap_set hb).2 x hx⟩⟩
    simp [he]
  · rw [h2] at hn; cases hn
end Go.K

namespace Go.K
open Go
theorem pnilK_s {a : Addr} {K : Bool → Prop} (h : K false) : pnilK (.pointer (some a)) K := ⟨_, rfl, h⟩
theorem condK_f {A B : Prop} (h : B) : condK (.bool false) A B := h
theorem condK_t {A B : Prop} (h : A) : condK (.bool true) A B := h
theorem nilckK_s {a : Addr} {K : Value → Prop} (h : K (.pointer (some a))) : nilckK (.pointer (some a)) K := ⟨_, rfl, h⟩
end Go.K
namespace Go.Proofs.YtlbaopamhkmepaaGreatDoor
open Go Go.K

theorem elem_key : ElemOK Tryz.prog 48 84 6 24 := ⟨Tryz.t84, .agg #[.int .i64 0, .bool false, .int .u8 0, .bool false, .bool false, .int .i64 0], by kernel_rfl, by kernel_rfl, by kernel_rfl, by kernel_rfl, by kernel_rfl, by rfl, by decide⟩
open Classical in
theorem may1_ok {k : DKey} {w : World} : callK Tryz.prog 44 [.agg k.cells.toArray] (fun v' w' => v' = .bool (decide (KeyOK k)) ∧ Grow w w') w := by
  apply S44_ok
  unfold S44
  refine boxn_i fun b w1 _ _ g hc _ => ?_
  have l0 := hc 0 _ rfl
  have l1 := hc 1 _ rfl
  have l2 := hc 2 _ rfl
  have l4 := hc 4 _ rfl
  have l5 := hc 5 _ rfl
  simp only [faK_i]
  have ans : ∀ q : Bool, (q = true ↔ KeyOK k) → Value.bool q = .bool (decide (KeyOK k)) ∧ Grow w w1 := fun q h => ⟨by congr 1; rw [Bool.eq_iff_iff, h, decide_eq_true_eq], g⟩
  refine JoinK_i (fun vs w2 => w2 = w1 ∧ ∃ q : Bool, vs = [.bool q] ∧ (q = false ↔ 1 ≤ k.id ∧ k.id ≤ 1000 ∧ 1 ≤ k.kind ∧ k.kind ≤ 4)) ?_ ?_
  · rintro vs _ ⟨rfl, q, rfl, hq⟩ _
    rename World => w1
    rw [nth_z, List.headD_cons]
    cases q with
    | true => exact condK_t (ans false ⟨fun h => (nomatch h), fun h => by have := hq.2 ⟨h.1, h.2.1, h.2.2.1, h.2.2.2.1⟩; cases this⟩)
    | false =>
      obtain ⟨h1, h2, h3, h4⟩ := hq.1 rfl
      refine condK_f (ld1K_i l1 ?_)
      cases hb : k.block with
      | true =>
        refine condK_t (ld1K_i l4 ?_)
        rw [notK_i]
        cases hf : k.before with
        | true => exact condK_f (ans false ⟨fun h => (nomatch h), fun h => by have := h.2.2.2.2.2.2.2 hb; rw [hf] at this; cases this⟩)
        | false =>
          refine condK_t (ld1K_i l5 ?_)
          rw [geK_i]
          refine condK_p (fun h5 => ?_) fun h5 => ans false ⟨fun h => (nomatch h), fun h => by have := h.2.2.2.2.1; omega⟩
          refine ld1K_i l5 ?_
          rw [leK_i]
          refine ans _ ?_
          rw [decide_eq_true_eq]
          exact ⟨fun h6 => ⟨h1, h2, h3, h4, h5, h6, (fun e => by rw [hb] at e; cases e), fun _ => hf⟩, fun h => h.2.2.2.2.2.1⟩
      | false =>
        refine condK_f (ld1K_i l5 ?_)
        rw [eqK_i]
        refine ans _ ?_
        rw [decide_eq_true_eq]
        exact ⟨fun h6 => ⟨h1, h2, h3, h4, by omega, by omega, fun _ => h6, fun e => by rw [hb] at e; cases e⟩, fun h => h.2.2.2.2.2.2.1 hb⟩
  · refine ld1K_i l0 ?_
    rw [ltK_i]
    refine condK_p (fun h1 => ⟨rfl, true, rfl, ⟨fun h => (nomatch h), fun h => by omega⟩⟩) fun h1 => ?_
    refine ld1K_i l0 ?_
    rw [gtK_i]
    refine condK_p (fun h2 => ⟨rfl, true, rfl, ⟨fun h => (nomatch h), fun h => by omega⟩⟩) fun h2 => ?_
    refine ld1K_i l2 ?_
    rw [ltK_i]
    refine condK_p (fun h3 => ⟨rfl, true, rfl, ⟨fun h => (nomatch h), fun h => by omega⟩⟩) fun h3 => ?_
    refine ld1K_i l2 ?_
    rw [gtK_i]
    refine ⟨rfl, _, rfl, ?_⟩
    rw [decide_eq_false_iff_not]
    exact ⟨fun h => by omega, fun h => by omega⟩

theorem clone_key {S : Nat → Prop} {v : Value} {l : List DKey} {w : World} (h : RKeys S w v l) (hl : l.length ≤ 1099511627776) :
    callK Tryz.prog 43 [v] (fun v' w' => OwnR w.heap.size 84 6 RKey w' v' l ∧ Grow w w') w := by
  apply S43_ok
  unfold S43
  exact clone_g (K := fun v' w' => OwnR w.heap.size 84 6 RKey w' v' l ∧ Grow w w') elem_key h (by omega) (fun _ _ _ => RKey.one) (fun _ _ _ _ _ _ h => h) fun _ _ h g => ⟨h, g⟩

/-- how two ids compare -/
def cmpI (a b : Int) : Int := if a < b then -1 else if b < a then 1 else 0
theorem cmp_ok {a b : Int} {w : World} : callK Tryz.prog 47 [.int .i64 a, .int .i64 b] (fun v' w' => v' = .int .i64 (cmpI a b) ∧ w' = w) w := by
  have nan : ∀ (c : Int) (K : Cont), K (.bool false) w → callK Tryz.prog 82 [.int .i64 c] K w := by
    intro c K hK
    apply S82_ok
    unfold S82
    rw [neK_i]
    rw [show (!decide (c = c)) = false by simp]; exact hK
  apply S47_ok
  unfold S47
  refine nan _ _ (nan _ _ ?_)
  refine condK_f (condK_f ?_)
  rw [ltK_i]
  unfold cmpI
  refine condK_p (fun h => ⟨by rw [if_pos h], rfl⟩) fun h => ?_
  rw [gtK_i]
  exact condK_p (fun h2 => ⟨by rw [if_neg h, if_pos h2], rfl⟩) fun h2 => ⟨by rw [if_neg h, if_neg h2], rfl⟩

/-- a schema that was made, in memory -/
def SchR (D : Nat → Prop) (w : World) (v : Value) (ks : List DKey) : Prop :=
  ∃ b m kv l, v = .pointer (some ⟨b, 0, none⟩) ∧ D b ∧ D m ∧ w.cell? ⟨b, 0, none⟩ = some kv ∧ w.cell? ⟨b, 1, none⟩ = some (.map (some m)) ∧ SlR D 6 RKey w kv ks ∧ MapI w m l ∧
    ∀ id : Int, (l.find? fun p => decide (p.1 = id)).map (·.2) = (findK ks id).map fun k => .agg k.cells.toArray
theorem SchR.mod {D M : Nat → Prop} {w w' : World} {v : Value} {ks : List DKey} (h : SchR D w v ks) (hm : Mod M w w') (hd : ∀ b, b < w.heap.size → D b → ¬ M b) : SchR D w' v ks := by
  obtain ⟨b, m, kv, l, rfl, h1, h2, h3, h4, h5, h6, h7⟩ := h
  have hb := World.block_lt_of_cell? w _ h3
  exact ⟨b, m, kv, l, rfl, h1, h2, hm.cell h3 (hd _ hb h1), hm.cell h4 (hd _ hb h1), h5.mod hm hd (by decide) fun _ _ h => h, h6.mod hm (hd _ h6.lt h2), h7⟩
theorem SchR.grow {D : Nat → Prop} {w w' : World} {v : Value} {ks : List DKey} (h : SchR D w v ks) (hm : Grow w w') : SchR D w' v ks := h.mod hm fun _ _ _ h => h
theorem SchR.sub {D D' : Nat → Prop} {w : World} {v : Value} {ks : List DKey} (h : SchR D w v ks) (hd : ∀ b, b < w.heap.size → D b → D' b) : SchR D' w v ks := by
  obtain ⟨b, m, kv, l, rfl, h1, h2, h3, h4, h5, h6, h7⟩ := h
  exact ⟨b, m, kv, l, rfl, hd _ (World.block_lt_of_cell? w _ h3) h1, hd _ h6.lt h2, h3, h4, h5.sub hd (by decide) fun _ _ h => h, h6, h7⟩

theorem zero_key (w : World) : (zeroValue 84).run Tryz.prog w = .ok (.agg DKey.zero.cells.toArray) w := run_zeroValue (by kernel_rfl) w
theorem sfind_ok {D : Nat → Prop} {v : Value} {ks : List DKey} {w : World} (h : SchR D w v ks) (id : Int) :
    callK Tryz.prog 193 [v, .int .i64 id] (fun v' w' => v' = .tuple #[.agg ((findK ks id).getD DKey.zero).cells.toArray, .bool (findK ks id).isSome] ∧ Grow w w') w := by
  apply S193_ok
  unfold S193
  obtain ⟨b, m, kv, l, rfl, _, _, h3, h4, h5, h6, h7⟩ := h
  refine newz_i fun b4 w1 hb4 hz4 g4 _ hl4 => ?_
  refine pnilK_s (condK_f (nilckK_s ?_))
  rw [faK_i]
  refine ld1K_i (g4.cell (by rw [addr0]; exact h4) fun h => h) ?_
  refine runK_i (map_lookup Tryz.underlying85 Tryz.underlying3 (zero_key _) (h6.mod g4 fun h => h) id) ?_
  have e1 : ((l.find? fun p => decide (p.1 = id)).map (·.2)).getD (.agg DKey.zero.cells.toArray) = .agg ((findK ks id).getD DKey.zero).cells.toArray := by
    rw [h7]; cases findK ks id <;> rfl
  have e2 : (l.find? fun p => decide (p.1 = id)).isSome = (findK ks id).isSome := by
    have := congrArg Option.isSome (h7 id)
    simpa using this
  rw [e1, e2]
  refine extK_i (vs := [_, _]) (by rfl) (extK_i (vs := [_, _]) (by rfl) ?_)
  generalize (findK ks id).getD DKey.zero = k
  refine newst_n (vs := k.cells) rfl rfl (RKey.one (w := w) (x := k) rfl) fun b6 w3 hb6 hz6 g6 hc6 _ => ?_
  refine ldnK_i (vs := k.cells) rfl hc6 ?_
  refine stn_over rfl (RKey.one (w := w) (x := k) rfl) (fun j hj => (hl4 j hj).mod g6 fun h => h) fun w4 m4 hc4 _ => ?_
  refine ldnK_i (vs := k.cells) rfl hc4 ⟨rfl, ?_⟩
  exact (g4.trans g6).next m4 fun x hx e => by omega
abbrev RNum : World → List Value → Int → Prop := fun _ r x => r = [.int .i64 x]
theorem RNum.one {w : World} {r : List Value} {x : Int} (h : RNum w r x) : ∀ u ∈ r, u.oneCell' = true := by
  subst h; intro u hu; simp at hu; subst hu; rfl
end Go.Proofs.YtlbaopamhkmepaaGreatDoor

namespace Go.K
open Go

section
variable {α : Type} [Inhabited α]
theorem flatK_toList (enc : α → List Value) (k : Nat) (hk : ∀ x, (enc x).length = k) (d : Array α) : (Sort.flatK enc k d).toList = (d.toList.map enc).flatten := by
  refine List.ext_getElem? fun t => ?_
  have hl : ∀ r ∈ d.toList.map enc, r.length = k := fun r hr => by obtain ⟨x, _, rfl⟩ := List.mem_map.1 hr; exact hk x
  have hfl : (d.toList.map enc).flatten.length = d.size * k := by rw [flat_len _ hl, List.length_map, Array.length_toList]
  by_cases ht : t < d.size * k
  · have k0 : 0 < k := by rcases Nat.eq_zero_or_pos k with h | h; · subst h; simp at ht
                          · exact h
    have hi : t / k < d.size := (Nat.div_lt_iff_lt_mul k0).2 ht
    have h1 := Sort.get_flatK enc k d t ht
    have h2 : (Sort.flatK enc k d).toList[t]? = some (Sort.flatK enc k d)[t]! := by
      have hs : t < (Sort.flatK enc k d).size := by simpa using ht
      rw [Array.getElem?_toList, Array.getElem?_eq_getElem hs, getElem!_pos _ t hs]
    rw [h2, h1]
    have h3 := flat_get (d.toList.map enc) (t / k) (t % k) (enc d[t / k]!) hl (by simp [hi]) (Nat.mod_lt _ k0)
    rw [Nat.div_add_mod' t k] at h3
    rw [h3]
    have hm : t % k < (enc d[t / k]!).length := by rw [hk]; exact Nat.mod_lt _ k0
    rw [List.getElem?_eq_getElem hm, getElem!_pos (enc d[t / k]!) _ hm]
  · rw [List.getElem?_eq_none (by simp; omega), List.getElem?_eq_none (by omega)]
theorem putCells_take (F cur : Array Value) (h : F.size ≤ cur.size) : (Sort.putCells id 0 F cur).size = cur.size ∧ (Sort.putCells id 0 F cur).toList.take F.size = F.toList := by
  refine ⟨by simp [Sort.putCells], List.ext_getElem? fun t => ?_⟩
  by_cases ht : t < F.size
  · rw [List.getElem?_take, if_pos ht, Array.getElem?_toList, Array.getElem?_toList]
    have h1 : t < cur.size := by omega
    simp [Sort.putCells, ht, h1]
  · rw [List.getElem?_take, if_neg ht, List.getElem?_eq_none (by simp; omega)]
theorem sortWorld_heap {enc : α → List Value} {k : Nat} {w : World} {g m e : Nat} {d : Array α} {os : Array Obj} {cur : Array Value} (hg : w.heap[g]? = some (.cells cur e (0, 0))) :
    (Go.Proofs.sortWorldK enc k w g 0 m d os).heap[g]? = some (.cells (Sort.putCells id 0 (Sort.flatK enc k d) cur) e (0, 0)) ∧ Mod (fun b => b = g) w (Go.Proofs.sortWorldK enc k w g 0 m d os) := by
  have hlt : g < w.heap.size := (Array.getElem?_eq_some_iff.1 hg).1
  have hsz : (w.heap.modify g (Sort.onCells (Sort.putCells id 0 (Sort.flatK enc k d)))).size = w.heap.size := by simp
  have eh : (Go.Proofs.sortWorldK enc k w g 0 m d os).heap = w.heap.modify g (Sort.onCells (Sort.putCells id 0 (Sort.flatK enc k d))) ++ os := rfl
  refine ⟨?_, ⟨rfl, rfl, rfl, by rw [eh, Array.size_append, hsz]; omega, fun b hb hn => ?_⟩⟩
  · rw [eh, Array.getElem?_append_left (by rw [hsz]; exact hlt), Array.getElem?_modify, if_pos rfl, hg]; rfl
  · rw [eh, Array.getElem?_append_left (by rw [hsz]; exact hb), Array.getElem?_modify, if_neg (fun h => hn h.symm)]
/-- a row of one's own holds what the sort's contract asks; and behind the sort it is one of one's own -/
theorem OwnR.sorted {B e k : Nat} {R : World → List Value → α → Prop} {enc : α → List Value} (hk : ∀ x, (enc x).length = k) (h1 : ∀ x, ∀ v ∈ enc x, v.oneCell' = true) (hR : ∀ w r x, R w r x ↔ r = enc x) {w : World} {g n c : Nat} {l : List α} (h : OwnR B e k R w (.slice (some ⟨g, 0, none⟩) n c) l) :
    n = l.length ∧ g < w.heap.size ∧ Sort.HoldsK enc k w g 0 l.toArray ∧ ∀ (m : Nat) (d : Array α) (os : Array Obj), d.size = l.length → OwnR B e k R (Go.Proofs.sortWorldK enc k w g 0 m d os) (.slice (some ⟨g, 0, none⟩) n c) d.toList ∧ Mod (fun b => b = g) w (Go.Proofs.sortWorldK enc k w g 0 m d os) := by
  obtain ⟨rows, h2, h3, h4, h5⟩ := h
  obtain ⟨q1, q2⟩ := h2
  rcases q2 with ⟨q, _⟩ | ⟨g', cap, cur, q, hg, hh, hn, hm, hcs, hcur⟩
  · cases q
  cases q
  have hlt : g < w.heap.size := (Array.getElem?_eq_some_iff.1 hh).1
  have hrows : rows = l.map enc := by
    refine List.ext_getElem? fun i => ?_
    rw [List.getElem?_map]
    by_cases hi : i < l.length
    · have hir : i < rows.length := by omega
      rw [List.getElem?_eq_getElem hi, List.getElem?_eq_getElem hir, Option.map_some]
      rw [(hR w rows[i] l[i]).1 (h5 i _ _ (List.getElem?_eq_getElem hir) (List.getElem?_eq_getElem hi))]
    · rw [List.getElem?_eq_none (by omega), List.getElem?_eq_none (by omega)]; rfl
  have hle : l.length * k ≤ c * k := Nat.mul_le_mul_right _ hn
  refine ⟨rfl, hlt, fun j hj => ?_, fun m d os hd => ?_⟩
  · rw [Sort.size_flatK] at hj
    have hjl : j < l.length * k := by simpa using hj
    have hjc : j < cur.size := by rw [hcs]; omega
    have e0 : (Sort.flatK enc k l.toArray).toList = rows.flatten := by rw [flatK_toList enc k hk, hrows]
    have e1 : rows.flatten[j]? = some (Sort.flatK enc k l.toArray)[j]! := by
      have hs : j < (Sort.flatK enc k l.toArray).size := by rw [Sort.size_flatK]; exact hj
      rw [← e0, Array.getElem?_toList, Array.getElem?_eq_getElem hs, getElem!_pos _ j hs]
    rw [← hcur, List.getElem?_take, if_pos hjl, Array.getElem?_toList] at e1
    rw [Nat.zero_add]
    refine ⟨?_, ?_⟩
    · simp only [World.cell?, hh]; exact e1
    · simp [World.frozen?, hh]
  · obtain ⟨r1, r2⟩ := sortWorld_heap (enc := enc) (k := k) (m := m) (d := d) (os := os) hh
    refine ⟨⟨d.toList.map enc, ⟨?_, .inr ⟨g, c, _, by have e : d.toList.length = l.length := hd; rw [e], hg, r1, ?_, hm, ?_, ?_⟩⟩, by simp, fun r hr => ?_, fun i r x hr hx => ?_⟩, r2⟩
    · have := flat_len (d.toList.map enc) (k := k) fun r hr => by obtain ⟨x, _, rfl⟩ := List.mem_map.1 hr; exact hk x
      simpa using this
    · rw [Array.length_toList, hd]; exact hn
    · rw [(putCells_take (Sort.flatK enc k d) cur (by rw [Sort.size_flatK, hd, hcs]; exact hle)).1]; exact hcs
    · have := (putCells_take (Sort.flatK enc k d) cur (by rw [Sort.size_flatK, hd, hcs]; exact hle)).2
      rw [Sort.size_flatK] at this
      rw [Array.length_toList, this, flatK_toList enc k hk]
    · obtain ⟨x, _, rfl⟩ := List.mem_map.1 hr
      exact ⟨hk x, h1 x⟩
    · rw [List.getElem?_map] at hr
      rw [hx] at hr
      exact (hR _ _ _).2 (Option.some.inj hr).symm
end
end Go.K

namespace Go.Proofs.YtlbaopamhkmepaaGreatDoor
open Go Go.K

/-- (the shelf's laying, written by a program off the shelf's own command) -/
def sortKey_ren : Go.Shelf.Ren := ⟨fun | 6 => 45 | 15 => 81 | 14 => 80 | 28 => 137 | 29 => 138 | 20 => 129 | 21 => 130 | 22 => 131 | 23 => 132 | 24 => 133 | 25 => 134 | 26 => 135 | 27 => 136 | 46 => 179 | 47 => 180 | 48 => 181 | 49 => 182 | 50 => 183 | 57 => 202 | n => n, fun | 22 => 48 | 24 => 84 | 25 => 92 | 3 => 3 | 39 => 142 | 0 => 0 | 53 => 191 | 55 => 34 | 4 => 4 | 46 => 184 | 45 => 183 | 50 => 188 | 5 => 5 | 9 => 9 | 66 => 225 | 70 => 228 | 76 => 247 | 77 => 43 | n => n, fun | n => n⟩
theorem sortKey : Go.Proofs.SlLaysF0.n6 Tryz.prog sortKey_ren := {
  mixed := by kernel_rfl,
  f6 := ⟨Tryz.f45.name, by decide, Tryz.func45.trans (congrArg some (by kernel_rfl))⟩,
  f14 := ⟨Tryz.f80.name, by decide, Tryz.func80.trans (congrArg some (by kernel_rfl))⟩,
  f15 := Tryz.func81.trans (congrArg some (by kernel_rfl)),
  f20 := ⟨Tryz.f129.name, by decide, Tryz.func129.trans (congrArg some (by kernel_rfl))⟩,
  f21 := ⟨Tryz.f130.name, by decide, Tryz.func130.trans (congrArg some (by kernel_rfl))⟩,
  f22 := ⟨Tryz.f131.name, by decide, Tryz.func131.trans (congrArg some (by kernel_rfl))⟩,
  f23 := ⟨Tryz.f132.name, by decide, Tryz.func132.trans (congrArg some (by kernel_rfl))⟩,
  f24 := ⟨Tryz.f133.name, by decide, Tryz.func133.trans (congrArg some (by kernel_rfl))⟩,
  f25 := ⟨Tryz.f134.name, by decide, Tryz.func134.trans (congrArg some (by kernel_rfl))⟩,
  f26 := ⟨Tryz.f135.name, by decide, Tryz.func135.trans (congrArg some (by kernel_rfl))⟩,
  f27 := ⟨Tryz.f136.name, by decide, Tryz.func136.trans (congrArg some (by kernel_rfl))⟩,
  f28 := Tryz.func137.trans (congrArg some (by kernel_rfl)),
  f29 := Tryz.func138.trans (congrArg some (by kernel_rfl)),
  f46 := ⟨Tryz.f179.name, by decide, Tryz.func179.trans (congrArg some (by kernel_rfl))⟩,
  f47 := Tryz.func180.trans (congrArg some (by kernel_rfl)),
  f48 := Tryz.func181.trans (congrArg some (by kernel_rfl)),
  f49 := ⟨Tryz.f182.name, by decide, Tryz.func182.trans (congrArg some (by kernel_rfl))⟩,
  f50 := ⟨Tryz.f183.name, by decide, Tryz.func183.trans (congrArg some (by kernel_rfl))⟩,
  f57 := ⟨Tryz.f202.name, by decide, Tryz.func202.trans (congrArg some (by kernel_rfl))⟩,
  t0 := Tryz.underlying0,
  a0 := Tryz.isAgg0,
  z0 := Tryz.sizeOf0,
  v0 := Tryz.zeroValue0,
  t3 := Tryz.underlying3,
  a3 := Tryz.isAgg3,
  z3 := Tryz.sizeOf3,
  v3 := Tryz.zeroValue3,
  t4 := Tryz.underlying4,
  a4 := Tryz.isAgg4,
  z4 := Tryz.sizeOf4,
  v4 := Tryz.zeroValue4,
  t5 := Tryz.underlying5,
  a5 := Tryz.isAgg5,
  z5 := Tryz.sizeOf5,
  v5 := Tryz.zeroValue5,
  t9 := Tryz.underlying9,
  a9 := Tryz.isAgg9,
  z9 := Tryz.sizeOf9,
  v9 := Tryz.zeroValue9,
  t22 := Tryz.underlying48,
  a22 := Tryz.isAgg48,
  z22 := Tryz.sizeOf48,
  v22 := Tryz.zeroValue48,
  t25 := Tryz.underlying92,
  a25 := Tryz.isAgg92,
  z25 := Tryz.sizeOf92,
  v25 := Tryz.zeroValue92,
  t39 := Tryz.underlying142,
  a39 := Tryz.isAgg142,
  z39 := Tryz.sizeOf142,
  v39 := Tryz.zeroValue142,
  t45 := Tryz.underlying183,
  a45 := Tryz.isAgg183,
  z45 := Tryz.sizeOf183,
  v45 := Tryz.zeroValue183,
  t46 := Tryz.underlying184,
  a46 := Tryz.isAgg184,
  z46 := Tryz.sizeOf184,
  v46 := Tryz.zeroValue184,
  t50 := Tryz.underlying188,
  a50 := Tryz.isAgg188,
  z50 := Tryz.sizeOf188,
  v50 := Tryz.zeroValue188,
  t53 := Tryz.underlying191,
  a53 := Tryz.isAgg191,
  z53 := Tryz.sizeOf191,
  v53 := Tryz.zeroValue191,
  t55 := Tryz.underlying34,
  a55 := Tryz.isAgg34,
  z55 := Tryz.sizeOf34,
  v55 := Tryz.zeroValue34,
  t66 := Tryz.underlying225,
  a66 := Tryz.isAgg225,
  z66 := Tryz.sizeOf225,
  v66 := Tryz.zeroValue225,
  t70 := Tryz.underlying228,
  a70 := Tryz.isAgg228,
  z70 := Tryz.sizeOf228,
  v70 := Tryz.zeroValue228,
  t76 := Tryz.underlying247,
  a76 := Tryz.isAgg247,
  z76 := Tryz.sizeOf247,
  v76 := Tryz.zeroValue247,
  t77 := Tryz.underlying43,
  a77 := Tryz.isAgg43,
  z77 := Tryz.sizeOf43,
  v77 := Tryz.zeroValue43 }
theorem cmpk_ok (x y : DKey) (W : World) : Calls Tryz.prog 46 #[.agg x.cells.toArray, .agg y.cells.toArray] W fun e w' => e = .returned (.int .i64 (cmpI x.id y.id)) ∧ ∃ q os', w' = Sort.grow (W.drewN q) os' := by
  have h : callK Tryz.prog 46 [.agg x.cells.toArray, .agg y.cells.toArray] (fun v w' => v = .int .i64 (cmpI x.id y.id) ∧ ∃ os', w' = Sort.grow W os') W := by
    apply S46_ok
    unfold S46
    refine ⟨x.cells, rfl, ⟨y.cells, rfl, newK_i ?_⟩⟩
    rw [faK_i]
    have c1 : ∀ j u, x.cells[j]? = some u → ((W.alloc (.cells x.cells.toArray 84)).alloc (.cells y.cells.toArray 84)).cell? ((⟨W.heap.size, 0, none⟩ : Addr).add j) = some u := fun j u hu => (Mod.alloc (fun _ => False) _ _).cell (cell_box hu) fun h => h
    have c2 : ∀ j u, y.cells[j]? = some u → ((W.alloc (.cells x.cells.toArray 84)).alloc (.cells y.cells.toArray 84)).cell? ((⟨(W.alloc (.cells x.cells.toArray 84)).heap.size, 0, none⟩ : Addr).add j) = some u := fun j u hu => cell_box hu
    refine ld1K_i (c1 0 _ rfl) ?_
    rw [faK_i]
    refine ld1K_i (c2 0 _ rfl) ?_
    refine callK_mono cmp_ok ?_
    rintro _ _ ⟨rfl, rfl⟩
    exact ⟨rfl, _, by rw [Sort.alloc_eq_grow, Sort.alloc_eq_grow, Sort.grow_grow]⟩
  refine Calls.mono h ?_
  rintro e w' ⟨v, rfl, rfl, os', rfl⟩
  exact ⟨rfl, 0, os', rfl⟩
theorem swo_id : Sort.SWO (Go.Proofs.ltOf fun x y : DKey => cmpI x.id y.id) := by
  have e : ∀ x y : DKey, Go.Proofs.ltOf (fun x y : DKey => cmpI x.id y.id) x y = decide (x.id < y.id) := fun x y => by
    unfold Go.Proofs.ltOf cmpI
    by_cases h1 : x.id < y.id
    · simp [h1]
    · by_cases h2 : y.id < x.id <;> simp [h1, h2]
  exact ⟨fun x => by rw [e]; simp, fun x y z h1 h2 => by rw [e] at *; simp at *; omega, fun x y z h1 h2 => by rw [e] at *; simp at *; omega⟩
instance : Inhabited DKey := ⟨DKey.zero⟩
/-- slices.SortFunc at keys, by their ids -/
theorem sortk_ok {B : Nat} {v : Value} {keys : List DKey} {w : World} (h : OwnR B 84 6 RKey w v keys) (hl : keys.length ≤ 1099511627776) :
    callK Tryz.prog 45 [v, .func (.func 46) #[] #[]] (fun _ w' => ∃ ks : List DKey, ks.Perm keys ∧ ks.Pairwise (fun x y => x.id ≤ y.id) ∧ OwnR B 84 6 RKey w' v ks ∧ Mod (fun b => v.ownBlock = some b) w w') w := by
  obtain ⟨a, c, rfl, _, _, hp, hn⟩ := h.shape
  cases a with
  | none =>
    have e := hn rfl
    subst e
    refine Calls.mono (Go.Proofs.AnyF.slices_SortFunc_none sortKey none c _ w) ?_
    rintro _ _ ⟨rfl, rfl⟩
    exact ⟨_, rfl, [], List.Perm.refl _, List.Pairwise.nil, h, Mod.refl _ _⟩
  | some p =>
    obtain ⟨g, rfl, _, hlt, hob⟩ := hp p rfl
    obtain ⟨_, _, hH, hS⟩ := OwnR.sorted (enc := DKey.cells) (fun _ => rfl) (fun x => RKey.one (w := w) (x := x) rfl) (fun _ _ _ => Iff.rfl) h
    have hc := Go.Proofs.AnyQ.slices_SortFunc sortKey 6 Tryz.isAgg84 Tryz.sizeOf84 DKey.cells (fun _ => rfl) (fun x => RKey.one (w := w) (x := x) rfl) (fun x y => cmpI x.id y.id) swo_id 46 #[] g 0 c keys.toArray w (good _ rfl) (fun m os dk _ x y => cmpk_ok x y _) hH hlt (by simp; omega)
    rw [List.size_toArray] at hc
    refine Calls.mono hc ?_
    rintro _ _ ⟨rfl, d', m, os, hperm, hsort, rfl⟩
    obtain ⟨h1, h2, h3⟩ := hperm
    have hd : d'.size = keys.length := by rw [h1, List.size_toArray]
    obtain ⟨o1, o2⟩ := hS m d' os hd
    refine ⟨_, rfl, d'.toList, ?_, ?_, o1, o2.mono fun b _ e => by rw [e]; rfl⟩
    · have e1 : d'.extract 0 keys.length = d' := by rw [← hd]; exact Array.extract_size
      have e2 : keys.toArray.extract 0 keys.length = keys.toArray := by
        have := Array.extract_size (xs := keys.toArray); rwa [List.size_toArray] at this
      rw [e1, e2] at h3
      simpa using h3
    · rw [List.pairwise_iff_getElem]
      intro i j hi hj hij
      simp only [Array.length_toList] at hi hj
      have := hsort i j (Nat.zero_le _) hij (by omega)
      rw [getElem!_pos d' i hi, getElem!_pos d' j hj] at this
      have e : Go.Proofs.ltOf (fun x y : DKey => cmpI x.id y.id) d'[j] d'[i] = decide (d'[j].id < d'[i].id) := by
        unfold Go.Proofs.ltOf cmpI
        by_cases h1 : d'[j].id < d'[i].id
        · simp [h1]
        · by_cases h2 : d'[i].id < d'[j].id <;> simp [h1, h2]
      rw [e] at this
      simp only [decide_eq_false_iff_not] at this
      simp only [Array.getElem_toList]
      omega
end Go.Proofs.YtlbaopamhkmepaaGreatDoor

namespace Go.Proofs.YtlbaopamhkmepaaGreatDoor
open Go Go.K

def Dist (keys : List DKey) : Prop := keys.Pairwise fun x y => x.id ≠ y.id
theorem mayk_iff {keys : List DKey} : MayKeys keys ↔ keys.length ≤ 64 ∧ (∀ k ∈ keys, KeyOK k) ∧ Dist keys := by
  unfold MayKeys MayN Dist
  rw [List.pairwise_iff_getElem]
  constructor
  · rintro ⟨h1, h2⟩
    refine ⟨h1, fun k hk => ?_, fun i j hi hj hij => ?_⟩
    · obtain ⟨i, hi, rfl⟩ := List.getElem_of_mem hk
      exact (h2 i hi _ (List.getElem?_eq_getElem hi)).1
    · exact (h2 j hj _ (List.getElem?_eq_getElem hj)).2 i hij _ (List.getElem?_eq_getElem hi)
  · rintro ⟨h1, h2, h3⟩
    refine ⟨h1, fun i hi k hk => ?_⟩
    rw [List.getElem?_eq_getElem hi] at hk; cases hk
    refine ⟨h2 _ (List.getElem_mem hi), fun j hj k' hk' => ?_⟩
    rw [List.getElem?_eq_getElem (by omega)] at hk'; cases hk'
    exact h3 j i (by omega) hi hj
theorem find_map {L : List DKey} {id : Int} : (L.map fun k => (k.id, (Value.agg k.cells.toArray))).find? (fun p => decide (p.1 = id)) = (findK L id).map fun k => (k.id, .agg k.cells.toArray) := by
  unfold findK
  rw [List.find?_map]
  rfl
theorem findK_iff {L : List DKey} (hd : Dist L) {id : Int} {k : DKey} : findK L id = some k ↔ k ∈ L ∧ k.id = id := by
  induction L with
  | nil => simp [findK]
  | cons x L ih =>
    unfold Dist at hd
    rw [List.pairwise_cons] at hd
    have ih' := ih hd.2
    unfold findK at ih' ⊢
    by_cases hx : x.id = id
    · rw [List.find?_cons_of_pos (by simpa using hx)]
      simp only [Option.some.injEq, List.mem_cons]
      constructor
      · rintro rfl; exact ⟨.inl rfl, hx⟩
      · rintro ⟨rfl | hk, h2⟩
        · rfl
        · exact (hd.1 k hk (by rw [hx, h2])).elim
    · rw [List.find?_cons_of_neg (by simpa using hx), ih']
      constructor
      · rintro ⟨h1, h2⟩; exact ⟨List.mem_cons_of_mem _ h1, h2⟩
      · rintro ⟨h1, h2⟩
        rcases List.mem_cons.1 h1 with rfl | h1
        · exact (hx h2).elim
        · exact ⟨h1, h2⟩
theorem Dist.perm {L L' : List DKey} (hp : L.Perm L') (h : Dist L) : Dist L' := (hp.pairwise_iff (R := fun x y : DKey => x.id ≠ y.id) fun h => h.symm).1 h
theorem findK_perm {L L' : List DKey} (hp : L.Perm L') (hd : Dist L) (id : Int) : findK L id = findK L' id := by
  refine Option.ext fun k => ?_
  rw [findK_iff hd, findK_iff (hd.perm hp), hp.mem_iff]
theorem strict_of {L : List DKey} (hd : Dist L) (hs : L.Pairwise fun x y => x.id ≤ y.id) : L.Pairwise fun x y => x.id < y.id := by
  refine (List.Pairwise.and hd hs).imp fun {x y} h => ?_
  obtain ⟨h1, h2⟩ := h
  omega

structure NewI (w0 W : World) (b m : Nat) (kv : Value) (keys : List DKey) (i : Nat) : Prop where
  c0 : W.cell? ⟨b, 0, none⟩ = some kv
  c1 : W.cell? ⟨b, 1, none⟩ = some (.map (some m))
  row : OwnR w0.heap.size 84 6 RKey W kv keys
  mp : MapI W m ((keys.take i).map fun k => (k.id, .agg k.cells.toArray))
  hb : w0.heap.size ≤ b
  hm : w0.heap.size ≤ m
  ne : m ≠ b
  own : ∀ g, kv.ownBlock = some g → g ≠ m ∧ g ≠ b
  g : Grow w0 W
theorem NewI.grow {w0 W W' : World} {b m i : Nat} {kv : Value} {keys : List DKey} (h : NewI w0 W b m kv keys i) (hg : Grow W W') : NewI w0 W' b m kv keys i :=
  ⟨hg.cell h.c0 fun h => h, hg.cell h.c1 fun h => h, OwnR.mod h.row hg (fun _ _ h => h) fun _ _ _ h => h, h.mp.mod hg fun h => h, h.hb, h.hm, h.ne, h.own, h.g.trans hg⟩

open Classical in
theorem new_key_ok {S : Nat → Prop} {kv : Value} {keys : List DKey} {w : World} (h : RKeys S w kv keys) :
    callK Tryz.prog 14 [kv] (fun v' w' => Grow w w' ∧ ((MayKeys keys ∧ ∃ (sv : Value) (ks : List DKey), v' = .tuple #[sv, .int .i64 0] ∧ ks.Perm keys ∧ ks.Pairwise (fun x y => x.id < y.id) ∧ SchR (fun b => w.heap.size ≤ b) w' sv ks) ∨
      (¬ MayKeys keys ∧ v' = .tuple #[.pointer none, .int .i64 3]))) w := by
  apply S14_ok
  unfold S14
  obtain ⟨a, c, rfl, hmx⟩ := h.shape
  simp only [maxLen] at hmx
  rw [lenK_i, gtK_i]
  refine condK_p (fun h6 => ⟨Mod.refl _ _, .inr ⟨by rintro ⟨h, _⟩; omega, rfl⟩⟩) fun h6 => ?_
  refine callK_mono (clone_key h (by omega)) ?_
  rintro v1 w1 ⟨o1, g1⟩
  refine runK_i (v := .map (some w1.heap.size)) (w' := w1.alloc (.map #[] 0)) rfl ?_
  have g2 : Grow w1 (w1.alloc (.map #[] 0)) := Mod.alloc _ _ _
  have hmp : MapI (w1.alloc (.map #[] 0)) w1.heap.size [] := MapI.make w1
  have hz2 : (w1.alloc (.map #[] 0)).heap.size = w1.heap.size + 1 := by simp
  generalize w1.alloc (.map #[] 0) = w2 at g2 hmp hz2 ⊢
  obtain ⟨ra, rc, rfl, _, _, _, _⟩ := o1.shape
  refine ⟨#[.slice ra keys.length rc, .map (some w1.heap.size)], by kernel_rfl, ?_⟩
  refine boxn_i (vs := [.slice ra keys.length rc, .map (some w1.heap.size)]) fun b w3 hb hz3 g3 hc3 _ => ?_
  have z1 := g1.size
  have z2 := g2.size
  have hown : ∀ g, (Value.slice ra keys.length rc).ownBlock = some g → g < w1.heap.size := fun g hg => (OwnR.ownB o1 g hg).2
  have I0 : NewI w w3 b w1.heap.size (.slice ra keys.length rc) keys 0 :=
    ⟨by have := hc3 0 _ rfl; rwa [addr0] at this, by have := hc3 1 _ rfl; rwa [addr0] at this, OwnR.mod o1 (g2.trans g3) (fun _ _ h => h) fun _ _ _ h => h, by simpa using hmp.mod g3 fun h => h, by omega, by omega, by omega, fun g hg => by have := hown g hg; omega, (g1.trans g2).trans g3⟩
  generalize Value.slice ra keys.length rc = rv at I0 hown ⊢
  clear hc3 hmp o1
  generalize w1.heap.size = m at *
  rw [lenK_i]
  refine LoopK_i (fun vs W => ∃ i : Nat, i ≤ keys.length ∧ vs = [.int .i64 i] ∧ NewI w W b m rv keys i ∧ MayN keys i) (fun vs _ => keys.length - iOf vs 0) ⟨0, Nat.zero_le _, rfl, I0, fun i hi => by omega⟩ ?_
  rintro vs W ⟨i, hi, rfl, I, hmay⟩ _
  rw [nth_z, List.headD_cons, ltK_i]
  refine condK_p (fun hlt => ?_) fun hge => ?_
  · have hlt' : i < keys.length := by omega
    have hki : keys[i]? = some keys[i] := List.getElem?_eq_getElem hlt'
    obtain ⟨p, r, rfl, _, hr, hc, rfl⟩ := (h.grow I.g (by decide) fun _ _ h => h).get hlt'
    refine ixK_n hlt' (ldnK_i hr (fun j u hu => by rw [Addr.add_add]; exact hc j u hu) ?_)
    refine newst_n (vs := keys[i].cells) rfl rfl (RKey.one (w := w) (x := keys[i]) rfl) fun b6 W1 hb6 hz6 g6 hc6 _ => ?_
    have I1 := I.grow g6
    have bad : ∀ W', Grow W1 W' → ¬ MayKeys keys → (fun v' w' => Grow w w' ∧ ((MayKeys keys ∧ ∃ (sv : Value) (ks : List DKey), v' = .tuple #[sv, .int .i64 0] ∧ ks.Perm keys ∧ ks.Pairwise (fun x y => x.id < y.id) ∧ SchR (fun b => w.heap.size ≤ b) w' sv ks) ∨
      (¬ MayKeys keys ∧ v' = .tuple #[.pointer none, .int .i64 3]))) (Value.tuple #[.pointer none, .int .i64 3]) W' := fun W' g hn => ⟨I1.g.trans g, .inr ⟨hn, rfl⟩⟩
    refine JoinK_i (fun _ W2 => Grow W1 W2 ∧ findK (keys.take i) keys[i].id = none ∧ KeyOK keys[i]) ?_ ?_
    · rintro _ W2 ⟨gW2, hno, hok⟩ _
      have I2 := I1.grow gW2
      refine drawC_i (fun k y => k = 7 ∧ y = m) ?_
      have gd : Grow W2 W2.drew := Mod.drew _ _
      have I3 := I2.grow gd
      have c6 : ∀ j u, keys[i].cells[j]? = some u → W2.drew.cell? ((⟨b6, 0, none⟩ : Addr).add j) = some u := fun j u hu => (gW2.trans gd).cell (hc6 j u hu) fun h => h
      refine nilckK_s ?_
      rw [faK_i]
      refine sld1_i ⟨by rw [addr0]; exact I3.c1, fun j hj e => by obtain ⟨rfl, _⟩ := e; exact absurd hj (by decide)⟩ ?_
      rw [faK_i]
      refine sld1_i ⟨c6 0 _ rfl, fun j hj e => by obtain ⟨rfl, _⟩ := e; exact absurd hj (by decide)⟩ ?_
      refine sldn_i (vs := keys[i].cells) rfl (fun j u hu => ⟨c6 j u hu, fun j hj e => by obtain ⟨rfl, _⟩ := e; exact absurd hj (by decide)⟩) ?_
      obtain ⟨W4, hrun, hmp4, m4⟩ := map_update Tryz.underlying85 Tryz.underlying3 I3.mp keys[i].id (.agg keys[i].cells.toArray) (by rw [find_map, hno]; rfl)
      refine runK_i (v := undef) (w' := W4) (by simp only [Sem.run_bind, hrun, Result.andThen_ok, Sem.run_pure]) ⟨m4.mono fun y _ e => ⟨rfl, e⟩, ?_⟩
      rw [addK_i, loop_step (by omega)]
      refine ⟨⟨i + 1, hlt', rfl, ⟨m4.cell I3.c0 (fun e => I3.ne e.symm), m4.cell I3.c1 (fun e => I3.ne e.symm), OwnR.mod I3.row m4 (fun g hg e => (I3.own g hg).1 e) fun _ _ _ h => h, ?_, I3.hb, I3.hm, I3.ne, I3.own, I3.g.next m4 fun x hx e => by have := I3.hm; omega⟩, fun q hq k hk => ?_⟩, by rw [iOf0, iOf0]; omega⟩
      · rw [List.take_add_one, hki, List.map_append]; exact hmp4
      · by_cases e : q = i
        · subst e
          rw [hki] at hk; cases hk
          refine ⟨hok, fun j hj k' hk' e => ?_⟩
          unfold findK at hno
          rw [List.find?_eq_none] at hno
          exact hno k' (List.mem_of_getElem? (by rw [List.getElem?_take, if_pos hj]; exact hk')) (by simpa using e)
        · exact hmay q (by omega) k hk
    · refine JoinK_i (fun vs W2 => Grow W1 W2 ∧ vs = [.bool (findK (keys.take i) keys[i].id).isSome]) ?_ ?_
      · rintro _ W2 ⟨gW2, rfl⟩ _
        rw [nth_z, List.headD_cons]
        cases hf : findK (keys.take i) keys[i].id with
        | some k' =>
          refine condK_t (bad _ gW2 fun hM => ?_)
          have h1 := List.find?_some hf
          have h2 := List.mem_of_find?_eq_some hf
          obtain ⟨j, hj, e⟩ := List.getElem_of_mem h2
          rw [List.length_take] at hj
          rw [List.getElem_take] at e
          exact (hM.2 i hlt' _ hki).2 j (by omega) k' (by rw [List.getElem?_eq_getElem (by omega), e]) (by simpa using h1)
        | none =>
          refine condK_f (ldnK_i (vs := keys[i].cells) rfl (fun j u hu => gW2.cell (hc6 j u hu) fun h => h) ?_)
          refine callK_mono may1_ok ?_
          rintro _ W3 ⟨rfl, g3'⟩
          rw [notK_i]
          refine condK_neg (fun hok => ⟨gW2.trans g3', rfl, hok⟩) fun hbad => bad _ (gW2.trans g3') fun hM => hbad (hM.2 i hlt' _ hki).1
      · refine drawC_i (fun k y => k = 11 ∧ W1.heap.size ≤ y) ?_
        have gd : Grow W1 W1.drew := Mod.drew _ _
        have Id := I1.grow gd
        refine nilckK_s ?_
        rw [faK_i]
        refine sld1_i ⟨by rw [addr0]; exact Id.c1, fun j hj e => by obtain ⟨rfl, _⟩ := e; exact absurd hj (by decide)⟩ ?_
        rw [faK_i]
        refine sld1_i ⟨gd.cell (hc6 0 _ rfl) fun h => h, fun j hj e => by obtain ⟨rfl, _⟩ := e; exact absurd hj (by decide)⟩ ?_
        have look : ∀ W', Grow W1.drew W' → (Instr.lookup 85 (.map (some m)) (.int .i64 keys[i].id) true).run Tryz.prog W' = .ok (.tuple #[.agg (((findK (keys.take i) keys[i].id)).getD DKey.zero).cells.toArray, .bool (findK (keys.take i) keys[i].id).isSome]) W' := fun W' g' => by
          have := map_lookup Tryz.underlying85 Tryz.underlying3 (zero_key W') (Id.mp.mod g' fun h => h) keys[i].id
          rw [this, find_map]
          cases findK (keys.take i) keys[i].id <;> rfl
        generalize (findK (keys.take i) keys[i].id).getD DKey.zero = kz at look
        have one := RKey.one (w := w) (x := kz) rfl
        refine ⟨?_, ?_⟩
        · refine runK_i (look _ (Mod.refl _ _)) ⟨Mod.refl _ _, ?_⟩
          refine extK_i (vs := [_, _]) (by rfl) (extK_i (vs := [_, _]) (by rfl) ?_)
          refine newz_i fun b7 W5 hb7 hz7 g7 _ hl7 => ⟨g7.mono fun _ _ h => h.elim, ?_⟩
          refine stn_over rfl one hl7 fun W6 m6 _ _ => ⟨m6.mono fun y _ e => ⟨rfl, by have := gd.size; omega⟩, ?_, rfl⟩
          exact (gd.trans g7).next m6 fun x hx e => by have := gd.size; omega
        · refine newz_i fun b7 W5 hb7 hz7 g7 _ hl7 => ⟨g7.mono fun _ _ h => h.elim, ?_⟩
          refine runK_i (look _ g7) ⟨Mod.refl _ _, ?_⟩
          refine extK_i (vs := [_, _]) (by rfl) (extK_i (vs := [_, _]) (by rfl) ?_)
          refine stn_over rfl one hl7 fun W6 m6 _ _ => ⟨m6.mono fun y _ e => ⟨rfl, by have := gd.size; omega⟩, ?_, rfl⟩
          exact (gd.trans g7).next m6 fun x hx e => by have := gd.size; omega
  · have : i = keys.length := by omega
    subst this
    refine nilckK_s ?_
    rw [faK_i]
    refine ld1K_i (by rw [addr0]; exact I.c0) ?_
    refine callK_mono (sortk_ok I.row (by omega)) ?_
    rintro _ W2 ⟨ks, hp, hs, o2, m2⟩
    have hM : MayKeys keys := ⟨by omega, hmay⟩
    obtain ⟨_, _, hd⟩ := mayk_iff.1 hM
    have hd' := hd.perm hp.symm
    refine ⟨I.g.next m2 fun x hx e => by have := (OwnR.ownB I.row x e).1; omega, .inl ⟨hM, _, ks, rfl, hp, strict_of hd' hs, b, m, rv, _, rfl, I.hb, I.hm, m2.cell I.c0 fun e => (I.own _ e).2 rfl, m2.cell I.c1 fun e => (I.own _ e).2 rfl, (OwnR.sl o2).sub (fun _ _ h => h.1) (by decide) fun _ _ h => h, I.mp.mod m2 fun e => (I.own _ e).1 rfl, fun id => ?_⟩⟩
    rw [List.take_length, find_map, findK_perm hp hd']
    cases findK keys id <;> rfl
end Go.Proofs.YtlbaopamhkmepaaGreatDoor

namespace Go.Proofs.YtlbaopamhkmepaaGreatDoor
open Go Go.K
/-- rubric/history.New -/
def S15 (v0 v1 : Value) (K : Cont) (w : World) : Prop :=
  JoinK (fun _vs w1 => ∀ _h : Env,
  buildK [(0, 1), (1, 1), (2, 1), (3, 1), (4, 1), (5, 1), (6, 1)] [(.pointer none), (.int .i64 0), (.bool false), (.slice none 0 0), (.slice none 0 0), (.bool false), (.slice none 0 0)] [(0, v0), (1, v1), (2, (.bool true))] fun t14 =>
  boxnK 67 t14 (fun t15 w2 =>
  K (.tuple #[t15, (.int .i64 0)]) w2) w1) (fun J =>
  ltK .i64 v1 (.int .i64 0) fun t7 =>
  condK t7
  (K (.tuple #[(.pointer none), (.int .i64 2)]) w)
  (gtK .i64 v1 (.int .i64 65536) fun t10 =>
  condK t10
  (K (.tuple #[(.pointer none), (.int .i64 2)]) w)
  (J [] w)))
theorem S15_eq (v0 v1 : Value) (K : Cont) (w : World) : S15 v0 v1 K w = D Tryz.prog okf 16 (bodyOf Tryz.f15) (.node [] [] .nil (.cut [] [(4, 11)] (.node [] [] .nil (.node [] [] (.node [] [] .nil .nil) .nil)) (.node [] [] .nil .nil))) (retK Tryz.prog [.tmp 4, .tmp 5] K) (nth [v0, v1]) w := by kernel_rfl
theorem S15_ok {v0 v1 : Value} {K : Cont} {w : World} (h : S15 v0 v1 K w) : callK Tryz.prog 15 [v0, v1] K w :=
  callK_of (P := Tryz.prog) (ok := okf) (n := 16) (fn := Tryz.f15) (c := bodyOf Tryz.f15) (rs := [.tmp 4, .tmp 5]) (an := (.node [] [] .nil (.cut [] [(4, 11)] (.node [] [] .nil (.node [] [] (.node [] [] .nil .nil) .nil)) (.node [] [] .nil .nil)))) good mixed Tryz.func15 (by kernel_rfl) (by kernel_rfl) (by kernel_rfl) (by kernel_rfl) (Eq.mp (S15_eq v0 v1 K w) h)

/-- (*rubric/history.History).ready -/
def S48 (v0 : Value) (K : Cont) (w : World) : Prop :=
  pnilK v0 fun b4 =>
  condK (.bool (!b4))
  (nilckK v0 fun t7 =>
  faK 2 t7 fun t8 =>
  ld1K t8 (fun t9 w1 =>
  K t9 w1) w)
  (K (.bool false) w)
theorem S48_eq (v0 : Value) (K : Cont) (w : World) : S48 v0 K w = D Tryz.prog okf 11 (bodyOf Tryz.f48) (.node [] [] .nil (.node [] [] .nil .nil)) (retK Tryz.prog [.tmp 2] K) (nth [v0]) w := by kernel_rfl
theorem S48_ok {v0 : Value} {K : Cont} {w : World} (h : S48 v0 K w) : callK Tryz.prog 48 [v0] K w :=
  callK_of (P := Tryz.prog) (ok := okf) (n := 11) (fn := Tryz.f48) (c := bodyOf Tryz.f48) (rs := [.tmp 2]) (an := (.node [] [] .nil (.node [] [] .nil .nil))) good mixed Tryz.func48 (by kernel_rfl) (by kernel_rfl) (by kernel_rfl) (by kernel_rfl) (Eq.mp (S48_eq v0 K w) h)

/-- (*rubric/history.History).keep -/
def S51 (v0 v1 : Value) (K : Cont) (w : World) : Prop :=
  boxnK 95 v1 (fun t3 w1 =>
  DrawC [6, 7, 10] [[], [], [1], [1, 2], [1, 2, 3], [], [5], [1, 2, 3, 4, 5, 6], [0, 1, 2, 3, 4, 5, 6, 7], [0, 1, 2, 3, 4, 5, 6, 7, 8], [0, 1, 2, 3, 4, 5, 6, 7, 8, 9]] w1.drew (fun M St =>
  nilckK v0 fun t7 =>
  faK 3 t7 fun t8 =>
  sld1 (St 4) t8 fun t9 =>
  sldn (St 5) 2 t3 fun t10 =>
  rowK 95 2 1 [(.slice none 0 0), (.slice none 0 0)] [(0, t10)] (fun t11 w2 =>
  Mod (M 6) w1.drew w2 ∧
  runK Tryz.prog (Builtin.append_ #[65, 65] 65 [t9, t11].toArray) (fun t12 w3 =>
  Mod (M 7) w2 w3 ∧
  nilckK v0 fun t13 =>
  faK 3 t13 fun t14 =>
  st1K t14 t12 (fun w4 =>
  Mod (M 10) w3 w4 ∧
  DrawK w4 (fun C =>
  nilckK v0 fun t16 =>
  faK 3 t16 fun t17 =>
  qld1K C t17 fun t18 =>
  lenK t18 fun t19 =>
  nilckK v0 fun t21 =>
  faK 1 t21 fun t22 =>
  qld1K C t22 fun t23 =>
  subK .i64 t19 t23 fun t24 =>
  ∀ w5 : World, C w5 →
  gtK .i64 t24 (.int .i64 0) fun t26 =>
  condK t26
  (nilckK v0 fun t28 =>
  faK 3 t28 fun t29 =>
  ld1K t29 (fun t30 w6 =>
  runK Tryz.prog (Instr.sliceAt 65 t30 none (some t24) none) (fun t32 w7 =>
  runK Tryz.prog (Builtin.clear_ #[65] 0 [t32].toArray) (fun _u w8 =>
  DrawC [16, 19] [[], [], [1], [1, 2], [1, 2, 3], [], [], [6], [6, 7], [6, 7, 8], [6, 7, 8, 9], [], [11], [11, 12], [11, 12, 13], [11, 12, 13, 14], [1, 2, 3, 4, 5, 6, 7, 8, 9, 10, 11, 12, 13, 14, 15], [0, 1, 2, 3, 4, 5, 6, 7, 8, 9, 10, 11, 12, 13, 14, 15, 16], [0, 1, 2, 3, 4, 5, 6, 7, 8, 9, 10, 11, 12, 13, 14, 15, 16, 17], [0, 1, 2, 3, 4, 5, 6, 7, 8, 9, 10, 11, 12, 13, 14, 15, 16, 17, 18]] w8.drew (fun M_1 St_1 =>
  nilckK v0 fun t35 =>
  faK 3 t35 fun t36 =>
  sld1 (St_1 4) t36 fun t37 =>
  nilckK v0 fun t40 =>
  faK 3 t40 fun t41 =>
  sld1 (St_1 9) t41 fun t42 =>
  lenK t42 fun t43 =>
  nilckK v0 fun t45 =>
  faK 3 t45 fun t46 =>
  sld1 (St_1 14) t46 fun t47 =>
  lenK t47 fun t48 =>
  runK Tryz.prog (Instr.sliceAt 65 t37 (some t24) (some t43) (some t48)) (fun t49 w9 =>
  Mod (M_1 16) w8.drew w9 ∧
  nilckK v0 fun t50 =>
  faK 3 t50 fun t51 =>
  st1K t51 t49 (fun w10 =>
  Mod (M_1 19) w9 w10 ∧
  K (.tuple #[]) w10) w9) w8.drew)) w7) w6) w5)
  (K (.tuple #[]) w5))) w3) w2) w1.drew)) w
theorem S51_eq (v0 v1 : Value) (K : Cont) (w : World) : S51 v0 v1 K w = D Tryz.prog okf 52 (bodyOf Tryz.f51) (.node [] [] .nil (.node [] [] (.dc [6, 7, 10] [[], [], [1], [1, 2], [1, 2, 3], [], [5], [1, 2, 3, 4, 5, 6], [0, 1, 2, 3, 4, 5, 6, 7], [0, 1, 2, 3, 4, 5, 6, 7, 8], [0, 1, 2, 3, 4, 5, 6, 7, 8, 9]] [[6, 7]]) (.node [] [] .draw (.node [] [] .nil (.node [] [] (.node [] [] .nil (.dc [16, 19] [[], [], [1], [1, 2], [1, 2, 3], [], [], [6], [6, 7], [6, 7, 8], [6, 7, 8, 9], [], [11], [11, 12], [11, 12, 13], [11, 12, 13, 14], [1, 2, 3, 4, 5, 6, 7, 8, 9, 10, 11, 12, 13, 14, 15], [0, 1, 2, 3, 4, 5, 6, 7, 8, 9, 10, 11, 12, 13, 14, 15, 16], [0, 1, 2, 3, 4, 5, 6, 7, 8, 9, 10, 11, 12, 13, 14, 15, 16, 17], [0, 1, 2, 3, 4, 5, 6, 7, 8, 9, 10, 11, 12, 13, 14, 15, 16, 17, 18]] [[16]])) .nil))))) (retK Tryz.prog [] K) (nth [v0, v1]) w := by kernel_rfl
theorem S51_ok {v0 v1 : Value} {K : Cont} {w : World} (h : S51 v0 v1 K w) : callK Tryz.prog 51 [v0, v1] K w :=
  callK_of (P := Tryz.prog) (ok := okf) (n := 52) (fn := Tryz.f51) (c := bodyOf Tryz.f51) (rs := []) (an := (.node [] [] .nil (.node [] [] (.dc [6, 7, 10] [[], [], [1], [1, 2], [1, 2, 3], [], [5], [1, 2, 3, 4, 5, 6], [0, 1, 2, 3, 4, 5, 6, 7], [0, 1, 2, 3, 4, 5, 6, 7, 8], [0, 1, 2, 3, 4, 5, 6, 7, 8, 9]] [[6, 7]]) (.node [] [] .draw (.node [] [] .nil (.node [] [] (.node [] [] .nil (.dc [16, 19] [[], [], [1], [1, 2], [1, 2, 3], [], [], [6], [6, 7], [6, 7, 8], [6, 7, 8, 9], [], [11], [11, 12], [11, 12, 13], [11, 12, 13, 14], [1, 2, 3, 4, 5, 6, 7, 8, 9, 10, 11, 12, 13, 14, 15], [0, 1, 2, 3, 4, 5, 6, 7, 8, 9, 10, 11, 12, 13, 14, 15, 16], [0, 1, 2, 3, 4, 5, 6, 7, 8, 9, 10, 11, 12, 13, 14, 15, 16, 17], [0, 1, 2, 3, 4, 5, 6, 7, 8, 9, 10, 11, 12, 13, 14, 15, 16, 17, 18]] [[16]])) .nil)))))) good mixed Tryz.func51 (by kernel_rfl) (by kernel_rfl) (by kernel_rfl) (by kernel_rfl) (Eq.mp (S51_eq v0 v1 K w) h)

/-- (*rubric/history.History).with -/
def S50 (v0 v1 : Value) (K : Cont) (w : World) : Prop :=
  boxnK 95 v1 (fun t3 w1 =>
  newK 95 [(.slice none 0 0), (.slice none 0 0)] (fun t4 w2 =>
  nilckK v0 fun t10 =>
  faK 6 t10 fun t11 =>
  ld1K t11 (fun t12 w3 =>
  lenK t12 fun t13 =>
  eqK .i64 t13 (.int .i64 0) fun t14 =>
  condK t14
  (ldnK 2 t3 (fun t15 w4 =>
  stnK 2 t4 t15 (fun w5 =>
  ldnK 2 t4 (fun r0 w6 =>
  K (.tuple #[r0, (.int .i64 0)]) w6) w5) w4) w3)
  (DrawC [13] [[], [0], [0, 1], [0, 1, 2], [], [4], [4, 5], [4, 5, 6], [4, 5, 6, 7], [4, 5, 6, 7, 8], [4, 5, 6, 7, 8, 9], [], [11], [0, 1, 2, 3, 4, 5, 6, 7, 8, 9, 10, 11, 12], [0, 1, 2, 3, 4, 5, 6, 7, 8, 9, 10, 11, 12, 13], [0, 1, 2, 3, 4, 5, 6, 7, 8, 9, 10, 11, 12, 13, 14], [0, 1, 2, 3, 4, 5, 6, 7, 8, 9, 10, 11, 12, 13, 14], [0, 1, 2, 3, 4, 5, 6, 7, 8, 9, 10, 11, 12, 13, 14, 15], [0, 1, 2, 3, 4, 5, 6, 7, 8, 9, 10, 11, 12, 13, 14, 15, 16, 17]] w3.drew (fun M St =>
  nilckK v0 fun t18 =>
  faK 0 t18 fun t19 =>
  sld1 (St 3) t19 fun t20 =>
  nilckK v0 fun t22 =>
  faK 6 t22 fun t23 =>
  sld1 (St 7) t23 fun t24 =>
  ixK 2 t24 (.int .i64 0) fun t25 =>
  faK 0 t25 fun t26 =>
  sld1 (St 10) t26 fun t27 =>
  faK 0 t3 fun t28 =>
  sld1 (St 12) t28 fun t29 =>
  callK Tryz.prog 87 [t20, t27, t29] (fun t30 w7 =>
  Mod (M 13) w3.drew w7 ∧
  extK 0 t30 fun t31 =>
  extK 1 t30 fun t32 =>
  neK .i64 t32 (.int .i64 0) fun t34 =>
  condK t34
  (buildK [(0, 1), (1, 1)] [(.slice none 0 0), (.slice none 0 0)] [] fun t35 =>
  stnK 2 t4 t35 (fun w8 =>
  ldnK 2 t4 (fun r0_1 w9 =>
  K (.tuple #[r0_1, t32]) w9) w8) w7)
  (DrawC [13] [[], [0], [0, 1], [0, 1, 2], [], [4], [], [6], [6, 7], [6, 7, 8], [6, 7, 8, 9], [6, 7, 8, 9, 10], [6, 7, 8, 9, 10, 11], [0, 1, 2, 3, 4, 5, 6, 7, 8, 9, 10, 11, 12], [0, 1, 2, 3, 4, 5, 6, 7, 8, 9, 10, 11, 12, 13], [0, 1, 2, 3, 4, 5, 6, 7, 8, 9, 10, 11, 12, 13, 14], [0, 1, 2, 3, 4, 5, 6, 7, 8, 9, 10, 11, 12, 13, 14], [0, 1, 2, 3, 4, 5, 6, 7, 8, 9, 10, 11, 12, 13, 14, 15], [0, 1, 2, 3, 4, 5, 6, 7, 8, 9, 10, 11, 12, 13, 14, 15, 16, 17]] w7.drew (fun M_1 St_1 =>
  nilckK v0 fun t39 =>
  faK 0 t39 fun t40 =>
  sld1 (St_1 3) t40 fun t41 =>
  faK 1 t3 fun t42 =>
  sld1 (St_1 5) t42 fun t43 =>
  nilckK v0 fun t45 =>
  faK 6 t45 fun t46 =>
  sld1 (St_1 9) t46 fun t47 =>
  ixK 2 t47 (.int .i64 0) fun t48 =>
  faK 1 t48 fun t49 =>
  sld1 (St_1 12) t49 fun t50 =>
  callK Tryz.prog 87 [t41, t43, t50] (fun t51 w10 =>
  Mod (M_1 13) w7.drew w10 ∧
  extK 0 t51 fun t52 =>
  extK 1 t51 fun t53 =>
  buildK [(0, 1), (1, 1)] [(.slice none 0 0), (.slice none 0 0)] [(0, t31), (1, t52)] fun t56 =>
  stnK 2 t4 t56 (fun w11 =>
  ldnK 2 t4 (fun r0_2 w12 =>
  K (.tuple #[r0_2, t53]) w12) w11) w10) w7.drew))) w3.drew))) w2) w1) w
theorem S50_eq (v0 v1 : Value) (K : Cont) (w : World) : S50 v0 v1 K w = D Tryz.prog okf 58 (bodyOf Tryz.f50) (.node [] [] .nil (.node [] [] (.node [] [] .nil (.node [] [] (.node [] [] .nil .nil) .nil)) (.node [] [] (.dc [13] [[], [0], [0, 1], [0, 1, 2], [], [4], [4, 5], [4, 5, 6], [4, 5, 6, 7], [4, 5, 6, 7, 8], [4, 5, 6, 7, 8, 9], [], [11], [0, 1, 2, 3, 4, 5, 6, 7, 8, 9, 10, 11, 12], [0, 1, 2, 3, 4, 5, 6, 7, 8, 9, 10, 11, 12, 13], [0, 1, 2, 3, 4, 5, 6, 7, 8, 9, 10, 11, 12, 13, 14], [0, 1, 2, 3, 4, 5, 6, 7, 8, 9, 10, 11, 12, 13, 14], [0, 1, 2, 3, 4, 5, 6, 7, 8, 9, 10, 11, 12, 13, 14, 15], [0, 1, 2, 3, 4, 5, 6, 7, 8, 9, 10, 11, 12, 13, 14, 15, 16, 17]] []) (.node [] [] (.node [] [] .nil (.node [] [] (.node [] [] .nil .nil) .nil)) (.node [] [] (.dc [13] [[], [0], [0, 1], [0, 1, 2], [], [4], [], [6], [6, 7], [6, 7, 8], [6, 7, 8, 9], [6, 7, 8, 9, 10], [6, 7, 8, 9, 10, 11], [0, 1, 2, 3, 4, 5, 6, 7, 8, 9, 10, 11, 12], [0, 1, 2, 3, 4, 5, 6, 7, 8, 9, 10, 11, 12, 13], [0, 1, 2, 3, 4, 5, 6, 7, 8, 9, 10, 11, 12, 13, 14], [0, 1, 2, 3, 4, 5, 6, 7, 8, 9, 10, 11, 12, 13, 14], [0, 1, 2, 3, 4, 5, 6, 7, 8, 9, 10, 11, 12, 13, 14, 15], [0, 1, 2, 3, 4, 5, 6, 7, 8, 9, 10, 11, 12, 13, 14, 15, 16, 17]] []) (.node [] [] .nil .nil)))))) (retK Tryz.prog [.cell 4 95, .tmp 5] K) (nth [v0, v1]) w := by kernel_rfl
theorem S50_ok {v0 v1 : Value} {K : Cont} {w : World} (h : S50 v0 v1 K w) : callK Tryz.prog 50 [v0, v1] K w :=
  callK_of (P := Tryz.prog) (ok := okf) (n := 58) (fn := Tryz.f50) (c := bodyOf Tryz.f50) (rs := [.cell 4 95, .tmp 5]) (an := (.node [] [] .nil (.node [] [] (.node [] [] .nil (.node [] [] (.node [] [] .nil .nil) .nil)) (.node [] [] (.dc [13] [[], [0], [0, 1], [0, 1, 2], [], [4], [4, 5], [4, 5, 6], [4, 5, 6, 7], [4, 5, 6, 7, 8], [4, 5, 6, 7, 8, 9], [], [11], [0, 1, 2, 3, 4, 5, 6, 7, 8, 9, 10, 11, 12], [0, 1, 2, 3, 4, 5, 6, 7, 8, 9, 10, 11, 12, 13], [0, 1, 2, 3, 4, 5, 6, 7, 8, 9, 10, 11, 12, 13, 14], [0, 1, 2, 3, 4, 5, 6, 7, 8, 9, 10, 11, 12, 13, 14], [0, 1, 2, 3, 4, 5, 6, 7, 8, 9, 10, 11, 12, 13, 14, 15], [0, 1, 2, 3, 4, 5, 6, 7, 8, 9, 10, 11, 12, 13, 14, 15, 16, 17]] []) (.node [] [] (.node [] [] .nil (.node [] [] (.node [] [] .nil .nil) .nil)) (.node [] [] (.dc [13] [[], [0], [0, 1], [0, 1, 2], [], [4], [], [6], [6, 7], [6, 7, 8], [6, 7, 8, 9], [6, 7, 8, 9, 10], [6, 7, 8, 9, 10, 11], [0, 1, 2, 3, 4, 5, 6, 7, 8, 9, 10, 11, 12], [0, 1, 2, 3, 4, 5, 6, 7, 8, 9, 10, 11, 12, 13], [0, 1, 2, 3, 4, 5, 6, 7, 8, 9, 10, 11, 12, 13, 14], [0, 1, 2, 3, 4, 5, 6, 7, 8, 9, 10, 11, 12, 13, 14], [0, 1, 2, 3, 4, 5, 6, 7, 8, 9, 10, 11, 12, 13, 14, 15], [0, 1, 2, 3, 4, 5, 6, 7, 8, 9, 10, 11, 12, 13, 14, 15, 16, 17]] []) (.node [] [] .nil .nil))))))) good mixed Tryz.func50 (by kernel_rfl) (by kernel_rfl) (by kernel_rfl) (by kernel_rfl) (Eq.mp (S50_eq v0 v1 K w) h)

/-- (*rubric/history.History).Push -/
def S18 (v0 v1 v2 : Value) (K : Cont) (w : World) : Prop :=
  callK Tryz.prog 48 [v0] (fun t11 w1 =>
  notK t11 fun t12 =>
  condK t12
  (K (.int .i64 1) w1)
  (callK Tryz.prog 49 [v1] (fun t14 w2 =>
  callK Tryz.prog 49 [v2] (fun t16 w3 =>
  buildK [(0, 1), (1, 1)] [(.slice none 0 0), (.slice none 0 0)] [(0, t14), (1, t16)] fun t17 =>
  newK 95 [(.slice none 0 0), (.slice none 0 0)] (fun t7 w4 =>
  stnK 2 t7 t17 (fun w5 =>
  JoinK (fun _vs w6 => ∀ _h : Env,
  nilckK v0 fun t40 =>
  faK 4 t40 fun t41 =>
  st1K t41 (.slice none 0 0) (fun w7 =>
  K (.int .i64 0) w7) w6) (fun J =>
  nilckK v0 fun t19 =>
  faK 5 t19 fun t20 =>
  ld1K t20 (fun t21 w8 =>
  condK t21
  (ldnK 2 t7 (fun t24 w9 =>
  callK Tryz.prog 50 [v0, t24] (fun t25 w10 =>
  extK 0 t25 fun t26 =>
  extK 1 t25 fun t27 =>
  newK 95 [(.slice none 0 0), (.slice none 0 0)] (fun t8 w11 =>
  stnK 2 t8 t26 (fun w12 =>
  neK .i64 t27 (.int .i64 0) fun t29 =>
  condK t29
  (K t27 w12)
  (ldnK 2 t8 (fun t32 w13 =>
  rowK 95 2 1 [(.slice none 0 0), (.slice none 0 0)] [(0, t32)] (fun t33 w14 =>
  nilckK v0 fun t34 =>
  faK 6 t34 fun t35 =>
  st1K t35 t33 (fun w15 =>
  J [] w15) w14) w13) w12)) w11) w10) w9) w8)
  (ldnK 2 t7 (fun t37 w16 =>
  callK Tryz.prog 51 [v0, t37] (fun _t38 w17 =>
  J [] w17) w16) w8)) w5)) w4) w3) w2) w1)) w
theorem S18_eq (v0 v1 v2 : Value) (K : Cont) (w : World) : S18 v0 v1 v2 K w = D Tryz.prog okf 42 (bodyOf Tryz.f18) (.node [] [] .nil (.node [] [] (.node [] [] .nil (.node [] [] (.node [] [] .nil .nil) .nil)) (.node [] [] .nil (.cut [] [(6, 6), (8, 9), (18, 38)] (.node [] [] .nil (.node [] [] (.node [] [] .nil (.node [] [] (.node [] [] .nil (.node [] [] (.node [] [] .nil .nil) .nil)) .nil)) .nil)) (.node [] [] .nil (.node [] [] .nil .nil)))))) (retK Tryz.prog [.tmp 6] K) (nth [v0, v1, v2]) w := by kernel_rfl
theorem S18_ok {v0 v1 v2 : Value} {K : Cont} {w : World} (h : S18 v0 v1 v2 K w) : callK Tryz.prog 18 [v0, v1, v2] K w :=
  callK_of (P := Tryz.prog) (ok := okf) (n := 42) (fn := Tryz.f18) (c := bodyOf Tryz.f18) (rs := [.tmp 6]) (an := (.node [] [] .nil (.node [] [] (.node [] [] .nil (.node [] [] (.node [] [] .nil .nil) .nil)) (.node [] [] .nil (.cut [] [(6, 6), (8, 9), (18, 38)] (.node [] [] .nil (.node [] [] (.node [] [] .nil (.node [] [] (.node [] [] .nil (.node [] [] (.node [] [] .nil .nil) .nil)) .nil)) .nil)) (.node [] [] .nil (.node [] [] .nil .nil))))))) good mixed Tryz.func18 (by kernel_rfl) (by kernel_rfl) (by kernel_rfl) (by kernel_rfl) (Eq.mp (S18_eq v0 v1 v2 K w) h)

/-- (*rubric/history.History).Begin -/
def S27 (v0 : Value) (K : Cont) (w : World) : Prop :=
  callK Tryz.prog 48 [v0] (fun t5 w1 =>
  notK t5 fun t6 =>
  condK t6
  (K (.int .i64 1) w1)
  (nilckK v0 fun t9 =>
  faK 5 t9 fun t10 =>
  ld1K t10 (fun t11 w2 =>
  condK t11
  (K (.int .i64 9) w2)
  (nilckK v0 fun t14 =>
  faK 5 t14 fun t15 =>
  st1K t15 (.bool true) (fun w3 =>
  nilckK v0 fun t16 =>
  faK 6 t16 fun t17 =>
  st1K t17 (.slice none 0 0) (fun w4 =>
  K (.int .i64 0) w4) w3) w2)) w1)) w
theorem S27_eq (v0 : Value) (K : Cont) (w : World) : S27 v0 K w = D Tryz.prog okf 18 (bodyOf Tryz.f27) (.node [] [] .nil (.node [] [] (.node [] [] .nil (.node [] [] (.node [] [] .nil .nil) (.node [] [] .nil (.node [] [] (.node [] [] .nil .nil) .nil)))) (.node [] [] .nil (.node [] [] .nil .nil)))) (retK Tryz.prog [.tmp 2] K) (nth [v0]) w := by kernel_rfl
theorem S27_ok {v0 : Value} {K : Cont} {w : World} (h : S27 v0 K w) : callK Tryz.prog 27 [v0] K w :=
  callK_of (P := Tryz.prog) (ok := okf) (n := 18) (fn := Tryz.f27) (c := bodyOf Tryz.f27) (rs := [.tmp 2]) (an := (.node [] [] .nil (.node [] [] (.node [] [] .nil (.node [] [] (.node [] [] .nil .nil) (.node [] [] .nil (.node [] [] (.node [] [] .nil .nil) .nil)))) (.node [] [] .nil (.node [] [] .nil .nil))))) good mixed Tryz.func27 (by kernel_rfl) (by kernel_rfl) (by kernel_rfl) (by kernel_rfl) (Eq.mp (S27_eq v0 K w) h)

/-- (*rubric/history.History).End -/
def S29 (v0 : Value) (K : Cont) (w : World) : Prop :=
  callK Tryz.prog 48 [v0] (fun t7 w1 =>
  notK t7 fun t8 =>
  condK t8
  (K (.int .i64 1) w1)
  (nilckK v0 fun t11 =>
  faK 5 t11 fun t12 =>
  ld1K t12 (fun t13 w2 =>
  notK t13 fun t14 =>
  condK t14
  (K (.int .i64 9) w2)
  (nilckK v0 fun t16 =>
  faK 6 t16 fun t17 =>
  ld1K t17 (fun t18 w3 =>
  lenK t18 fun t19 =>
  LoopK [(.int .i64 0)] (fun vs again w4 => ∀ _h : Env,
  ltK .i64 (nth vs 0) t19 fun t21 =>
  condK t21
  (ixK 2 t18 (nth vs 0) fun t22 =>
  ldnK 2 t22 (fun t23 w5 =>
  newK 95 [(.slice none 0 0), (.slice none 0 0)] (fun t4 w6 =>
  stnK 2 t4 t23 (fun w7 =>
  ldnK 2 t4 (fun t25 w8 =>
  callK Tryz.prog 51 [v0, t25] (fun _t26 w9 =>
  addK .i64 (nth vs 0) (.int .i64 1) fun t27 =>
  again [t27] w9) w8) w7) w6) w5) w4)
  (nilckK v0 fun t30 =>
  faK 5 t30 fun t31 =>
  st1K t31 (.bool false) (fun w10 =>
  nilckK v0 fun t32 =>
  faK 6 t32 fun t33 =>
  st1K t33 (.slice none 0 0) (fun w11 =>
  K (.int .i64 0) w11) w10) w4)) w3) w2)) w1)) w
theorem S29_eq (v0 : Value) (K : Cont) (w : World) : S29 v0 K w = D Tryz.prog okf 34 (bodyOf Tryz.f29) (.node [] [] .nil (.node [] [] (.node [] [] .nil (.node [] [] (.node [] [] .nil .nil) (.node [] [] .nil (.node [] [] (.node [] [] .nil .nil) .nil)))) (.node [] [] (.node [] [] .nil (.node [20] [(4, 4), (20, 27)] (.node [] [] .nil (.node [] [] (.node [] [] .nil .nil) (.node [] [] (.node [] [] .nil .nil) .nil))) .nil)) (.node [] [] .nil (.node [] [] .nil .nil))))) (retK Tryz.prog [.tmp 2] K) (nth [v0]) w := by kernel_rfl
theorem S29_ok {v0 : Value} {K : Cont} {w : World} (h : S29 v0 K w) : callK Tryz.prog 29 [v0] K w :=
  callK_of (P := Tryz.prog) (ok := okf) (n := 34) (fn := Tryz.f29) (c := bodyOf Tryz.f29) (rs := [.tmp 2]) (an := (.node [] [] .nil (.node [] [] (.node [] [] .nil (.node [] [] (.node [] [] .nil .nil) (.node [] [] .nil (.node [] [] (.node [] [] .nil .nil) .nil)))) (.node [] [] (.node [] [] .nil (.node [20] [(4, 4), (20, 27)] (.node [] [] .nil (.node [] [] (.node [] [] .nil .nil) (.node [] [] (.node [] [] .nil .nil) .nil))) .nil)) (.node [] [] .nil (.node [] [] .nil .nil)))))) good mixed Tryz.func29 (by kernel_rfl) (by kernel_rfl) (by kernel_rfl) (by kernel_rfl) (Eq.mp (S29_eq v0 K w) h)

/-- (*rubric/history.History).move -/
def S52 (v0 v1 v2 : Value) (K : Cont) (w : World) : Prop :=
  newK 95 [(.slice none 0 0), (.slice none 0 0)] (fun t6 w1 =>
  nilckK v1 fun t11 =>
  ld1K t11 (fun t12 w2 =>
  lenK t12 fun t13 =>
  subK .i64 t13 (.int .i64 1) fun t14 =>
  nilckK v0 fun t17 =>
  faK 5 t17 fun t18 =>
  ld1K t18 (fun t19 w3 =>
  condK t19
  (buildK [(0, 1), (1, 1)] [(.slice none 0 0), (.slice none 0 0)] [] fun t20 =>
  stnK 2 t6 t20 (fun w4 =>
  ldnK 2 t6 (fun r0 w5 =>
  K (.tuple #[r0, (.int .i64 9)]) w5) w4) w3)
  (ltK .i64 t14 (.int .i64 0) fun t23 =>
  condK t23
  (buildK [(0, 1), (1, 1)] [(.slice none 0 0), (.slice none 0 0)] [] fun t24 =>
  stnK 2 t6 t24 (fun w6 =>
  ldnK 2 t6 (fun r0_1 w7 =>
  K (.tuple #[r0_1, (.int .i64 10)]) w7) w6) w3)
  (nilckK v1 fun t26 =>
  ld1K t26 (fun t27 w8 =>
  ixK 2 t27 t14 fun t29 =>
  ldnK 2 t29 (fun t30 w9 =>
  newK 95 [(.slice none 0 0), (.slice none 0 0)] (fun t9 w10 =>
  stnK 2 t9 t30 (fun w11 =>
  nilckK v1 fun t33 =>
  ld1K t33 (fun t34 w12 =>
  runK Tryz.prog (Instr.sliceAt 65 t34 none (some t14) none) (fun t36 w13 =>
  callK Tryz.prog 88 [t36] (fun t37 w14 =>
  nilckK v1 fun t38 =>
  st1K t38 t37 (fun w15 =>
  DrawC [5, 6, 8] [[], [], [1], [1, 2], [], [4], [1, 2, 3, 4, 5], [0, 1, 2, 3, 4, 5, 6], [0, 1, 2, 3, 4, 5, 6, 7]] w15.drew (fun M St =>
  nilckK v2 fun t41 =>
  sld1 (St 3) t41 fun t42 =>
  sldn (St 4) 2 t9 fun t43 =>
  rowK 95 2 1 [(.slice none 0 0), (.slice none 0 0)] [(0, t43)] (fun t44 w16 =>
  Mod (M 5) w15.drew w16 ∧
  runK Tryz.prog (Builtin.append_ #[65, 65] 65 [t42, t44].toArray) (fun t45 w17 =>
  Mod (M 6) w16 w17 ∧
  nilckK v2 fun t46 =>
  st1K t46 t45 (fun w18 =>
  Mod (M 8) w17 w18 ∧
  ldnK 2 t9 (fun t47 w19 =>
  stnK 2 t6 t47 (fun w20 =>
  ldnK 2 t6 (fun r0_2 w21 =>
  K (.tuple #[r0_2, (.int .i64 0)]) w21) w20) w19) w18) w17) w16) w15.drew)) w14) w13) w12) w11) w10) w9) w8) w3))) w2) w1) w
theorem S52_eq (v0 v1 v2 : Value) (K : Cont) (w : World) : S52 v0 v1 v2 K w = D Tryz.prog okf 48 (bodyOf Tryz.f52) (.node [] [] .nil (.node [] [] .nil (.node [] [] (.node [] [] .nil (.node [] [] (.node [] [] .nil .nil) (.node [] [] .nil (.node [] [] (.node [] [] .nil .nil) .nil)))) (.node [] [] .nil (.node [] [] .nil (.node [] [] (.dc [5, 6, 8] [[], [], [1], [1, 2], [], [4], [1, 2, 3, 4, 5], [0, 1, 2, 3, 4, 5, 6], [0, 1, 2, 3, 4, 5, 6, 7]] [[5, 6]]) (.node [] [] .nil .nil))))))) (retK Tryz.prog [.cell 6 95, .tmp 7] K) (nth [v0, v1, v2]) w := by kernel_rfl
theorem S52_ok {v0 v1 v2 : Value} {K : Cont} {w : World} (h : S52 v0 v1 v2 K w) : callK Tryz.prog 52 [v0, v1, v2] K w :=
  callK_of (P := Tryz.prog) (ok := okf) (n := 48) (fn := Tryz.f52) (c := bodyOf Tryz.f52) (rs := [.cell 6 95, .tmp 7]) (an := (.node [] [] .nil (.node [] [] .nil (.node [] [] (.node [] [] .nil (.node [] [] (.node [] [] .nil .nil) (.node [] [] .nil (.node [] [] (.node [] [] .nil .nil) .nil)))) (.node [] [] .nil (.node [] [] .nil (.node [] [] (.dc [5, 6, 8] [[], [], [1], [1, 2], [], [4], [1, 2, 3, 4, 5], [0, 1, 2, 3, 4, 5, 6], [0, 1, 2, 3, 4, 5, 6, 7]] [[5, 6]]) (.node [] [] .nil .nil)))))))) good mixed Tryz.func52 (by kernel_rfl) (by kernel_rfl) (by kernel_rfl) (by kernel_rfl) (Eq.mp (S52_eq v0 v1 v2 K w) h)

/-- (*rubric/history.History).Undo -/
def S19 (v0 : Value) (K : Cont) (w : World) : Prop :=
  callK Tryz.prog 48 [v0] (fun t7 w1 =>
  notK t7 fun t8 =>
  condK t8
  (K (.tuple #[(.slice none 0 0), (.int .i64 1)]) w1)
  (JoinK (fun vs w2 => ∀ _h : Env,
  faK 1 (nth vs 0) fun t20 =>
  ld1K t20 (fun t21 w3 =>
  callK Tryz.prog 49 [t21] (fun t22 w4 =>
  K (.tuple #[t22, (nth vs 1)]) w4) w3) w2) (fun J =>
  DrawC [7, 11, 12] [[], [], [1], [1, 2], [], [4], [4, 5], [0, 1, 2, 3, 4, 5, 6], [0, 1, 2, 3, 4, 5, 6, 7], [0, 1, 2, 3, 4, 5, 6, 7, 8], [0, 1, 2, 3, 4, 5, 6, 7, 8], [], [0, 1, 2, 3, 4, 5, 6, 7, 8, 9, 11], [0, 1, 2, 3, 4, 5, 6, 7, 8, 9, 10, 11, 12]] w1.drew (fun M _St =>
  nilckK v0 fun t12 =>
  faK 3 t12 fun t13 =>
  nilckK v0 fun t15 =>
  faK 4 t15 fun t16 =>
  (callK Tryz.prog 52 [v0, t13, t16] (fun t17 w5 =>
  Mod (M 7) w1.drew w5 ∧
  extK 0 t17 fun t18 =>
  extK 1 t17 fun t19 =>
  newK 95 [(.slice none 0 0), (.slice none 0 0)] (fun t4 w6 =>
  Mod (M 11) w5 w6 ∧
  stnK 2 t4 t18 (fun w7 =>
  Mod (M 12) w6 w7 ∧
  J [t4, t19] w7) w6) w5) w1.drew) ∧
  (newK 95 [(.slice none 0 0), (.slice none 0 0)] (fun t4_1 w8 =>
  Mod (M 11) w1.drew w8 ∧
  callK Tryz.prog 52 [v0, t13, t16] (fun t17_1 w9 =>
  Mod (M 7) w8 w9 ∧
  extK 0 t17_1 fun t18_1 =>
  extK 1 t17_1 fun t19_1 =>
  stnK 2 t4_1 t18_1 (fun w10 =>
  Mod (M 12) w9 w10 ∧
  J [t4_1, t19_1] w10) w9) w8) w1.drew))))) w
theorem S19_eq (v0 : Value) (K : Cont) (w : World) : S19 v0 K w = D Tryz.prog okf 24 (bodyOf Tryz.f19) (.node [] [] .nil (.node [] [] (.node [] [] .nil (.node [] [] (.node [] [] .nil .nil) .nil)) (.cut [4, 5] [(4, 5), (9, 19)] (.dt [7, 11, 12] [[], [], [1], [1, 2], [], [4], [4, 5], [0, 1, 2, 3, 4, 5, 6], [0, 1, 2, 3, 4, 5, 6, 7], [0, 1, 2, 3, 4, 5, 6, 7, 8], [0, 1, 2, 3, 4, 5, 6, 7, 8], [], [0, 1, 2, 3, 4, 5, 6, 7, 8, 9, 11], [0, 1, 2, 3, 4, 5, 6, 7, 8, 9, 10, 11, 12]] [[7]] (.op 0 (.op 1 (.op 2 (.op 3 (.op 4 (.op 5 (.op 6 (.br (.op 7 (.op 8 (.op 9 (.op 10 (.op 11 (.op 12 (.op 13 .nil))))))) (.op 11 (.op 7 (.op 8 (.op 9 (.op 10 (.op 12 (.op 13 .nil)))))))))))))))) (.node [] [] .nil .nil)))) (retK Tryz.prog [.tmp 2, .tmp 3] K) (nth [v0]) w := by kernel_rfl
theorem S19_ok {v0 : Value} {K : Cont} {w : World} (h : S19 v0 K w) : callK Tryz.prog 19 [v0] K w :=
  callK_of (P := Tryz.prog) (ok := okf) (n := 24) (fn := Tryz.f19) (c := bodyOf Tryz.f19) (rs := [.tmp 2, .tmp 3]) (an := (.node [] [] .nil (.node [] [] (.node [] [] .nil (.node [] [] (.node [] [] .nil .nil) .nil)) (.cut [4, 5] [(4, 5), (9, 19)] (.dt [7, 11, 12] [[], [], [1], [1, 2], [], [4], [4, 5], [0, 1, 2, 3, 4, 5, 6], [0, 1, 2, 3, 4, 5, 6, 7], [0, 1, 2, 3, 4, 5, 6, 7, 8], [0, 1, 2, 3, 4, 5, 6, 7, 8], [], [0, 1, 2, 3, 4, 5, 6, 7, 8, 9, 11], [0, 1, 2, 3, 4, 5, 6, 7, 8, 9, 10, 11, 12]] [[7]] (.op 0 (.op 1 (.op 2 (.op 3 (.op 4 (.op 5 (.op 6 (.br (.op 7 (.op 8 (.op 9 (.op 10 (.op 11 (.op 12 (.op 13 .nil))))))) (.op 11 (.op 7 (.op 8 (.op 9 (.op 10 (.op 12 (.op 13 .nil)))))))))))))))) (.node [] [] .nil .nil))))) good mixed Tryz.func19 (by kernel_rfl) (by kernel_rfl) (by kernel_rfl) (by kernel_rfl) (Eq.mp (S19_eq v0 K w) h)

/-- (*rubric/history.History).Redo -/
def S21 (v0 : Value) (K : Cont) (w : World) : Prop :=
  callK Tryz.prog 48 [v0] (fun t7 w1 =>
  notK t7 fun t8 =>
  condK t8
  (K (.tuple #[(.slice none 0 0), (.int .i64 1)]) w1)
  (JoinK (fun vs w2 => ∀ _h : Env,
  faK 0 (nth vs 0) fun t20 =>
  ld1K t20 (fun t21 w3 =>
  callK Tryz.prog 49 [t21] (fun t22 w4 =>
  K (.tuple #[t22, (nth vs 1)]) w4) w3) w2) (fun J =>
  DrawC [7, 11, 12] [[], [], [1], [1, 2], [], [4], [4, 5], [0, 1, 2, 3, 4, 5, 6], [0, 1, 2, 3, 4, 5, 6, 7], [0, 1, 2, 3, 4, 5, 6, 7, 8], [0, 1, 2, 3, 4, 5, 6, 7, 8], [], [0, 1, 2, 3, 4, 5, 6, 7, 8, 9, 11], [0, 1, 2, 3, 4, 5, 6, 7, 8, 9, 10, 11, 12]] w1.drew (fun M _St =>
  nilckK v0 fun t12 =>
  faK 4 t12 fun t13 =>
  nilckK v0 fun t15 =>
  faK 3 t15 fun t16 =>
  (callK Tryz.prog 52 [v0, t13, t16] (fun t17 w5 =>
  Mod (M 7) w1.drew w5 ∧
  extK 0 t17 fun t18 =>
  extK 1 t17 fun t19 =>
  newK 95 [(.slice none 0 0), (.slice none 0 0)] (fun t4 w6 =>
  Mod (M 11) w5 w6 ∧
  stnK 2 t4 t18 (fun w7 =>
  Mod (M 12) w6 w7 ∧
  J [t4, t19] w7) w6) w5) w1.drew) ∧
  (newK 95 [(.slice none 0 0), (.slice none 0 0)] (fun t4_1 w8 =>
  Mod (M 11) w1.drew w8 ∧
  callK Tryz.prog 52 [v0, t13, t16] (fun t17_1 w9 =>
  Mod (M 7) w8 w9 ∧
  extK 0 t17_1 fun t18_1 =>
  extK 1 t17_1 fun t19_1 =>
  stnK 2 t4_1 t18_1 (fun w10 =>
  Mod (M 12) w9 w10 ∧
  J [t4_1, t19_1] w10) w9) w8) w1.drew))))) w
theorem S21_eq (v0 : Value) (K : Cont) (w : World) : S21 v0 K w = D Tryz.prog okf 24 (bodyOf Tryz.f21) (.node [] [] .nil (.node [] [] (.node [] [] .nil (.node [] [] (.node [] [] .nil .nil) .nil)) (.cut [4, 5] [(4, 5), (9, 19)] (.dt [7, 11, 12] [[], [], [1], [1, 2], [], [4], [4, 5], [0, 1, 2, 3, 4, 5, 6], [0, 1, 2, 3, 4, 5, 6, 7], [0, 1, 2, 3, 4, 5, 6, 7, 8], [0, 1, 2, 3, 4, 5, 6, 7, 8], [], [0, 1, 2, 3, 4, 5, 6, 7, 8, 9, 11], [0, 1, 2, 3, 4, 5, 6, 7, 8, 9, 10, 11, 12]] [[7]] (.op 0 (.op 1 (.op 2 (.op 3 (.op 4 (.op 5 (.op 6 (.br (.op 7 (.op 8 (.op 9 (.op 10 (.op 11 (.op 12 (.op 13 .nil))))))) (.op 11 (.op 7 (.op 8 (.op 9 (.op 10 (.op 12 (.op 13 .nil)))))))))))))))) (.node [] [] .nil .nil)))) (retK Tryz.prog [.tmp 2, .tmp 3] K) (nth [v0]) w := by kernel_rfl
theorem S21_ok {v0 : Value} {K : Cont} {w : World} (h : S21 v0 K w) : callK Tryz.prog 21 [v0] K w :=
  callK_of (P := Tryz.prog) (ok := okf) (n := 24) (fn := Tryz.f21) (c := bodyOf Tryz.f21) (rs := [.tmp 2, .tmp 3]) (an := (.node [] [] .nil (.node [] [] (.node [] [] .nil (.node [] [] (.node [] [] .nil .nil) .nil)) (.cut [4, 5] [(4, 5), (9, 19)] (.dt [7, 11, 12] [[], [], [1], [1, 2], [], [4], [4, 5], [0, 1, 2, 3, 4, 5, 6], [0, 1, 2, 3, 4, 5, 6, 7], [0, 1, 2, 3, 4, 5, 6, 7, 8], [0, 1, 2, 3, 4, 5, 6, 7, 8], [], [0, 1, 2, 3, 4, 5, 6, 7, 8, 9, 11], [0, 1, 2, 3, 4, 5, 6, 7, 8, 9, 10, 11, 12]] [[7]] (.op 0 (.op 1 (.op 2 (.op 3 (.op 4 (.op 5 (.op 6 (.br (.op 7 (.op 8 (.op 9 (.op 10 (.op 11 (.op 12 (.op 13 .nil))))))) (.op 11 (.op 7 (.op 8 (.op 9 (.op 10 (.op 12 (.op 13 .nil)))))))))))))))) (.node [] [] .nil .nil))))) good mixed Tryz.func21 (by kernel_rfl) (by kernel_rfl) (by kernel_rfl) (by kernel_rfl) (Eq.mp (S21_eq v0 K w) h)

/-- (*rubric/history.History).Open -/
def S33 (v0 : Value) (K : Cont) (w : World) : Prop :=
  callK Tryz.prog 48 [v0] (fun t4 w1 =>
  condK t4
  (nilckK v0 fun t7 =>
  faK 5 t7 fun t8 =>
  ld1K t8 (fun t9 w2 =>
  K t9 w2) w1)
  (K (.bool false) w1)) w
theorem S33_eq (v0 : Value) (K : Cont) (w : World) : S33 v0 K w = D Tryz.prog okf 11 (bodyOf Tryz.f33) (.node [] [] .nil (.node [] [] .nil .nil)) (retK Tryz.prog [.tmp 2] K) (nth [v0]) w := by kernel_rfl
theorem S33_ok {v0 : Value} {K : Cont} {w : World} (h : S33 v0 K w) : callK Tryz.prog 33 [v0] K w :=
  callK_of (P := Tryz.prog) (ok := okf) (n := 11) (fn := Tryz.f33) (c := bodyOf Tryz.f33) (rs := [.tmp 2]) (an := (.node [] [] .nil (.node [] [] .nil .nil))) good mixed Tryz.func33 (by kernel_rfl) (by kernel_rfl) (by kernel_rfl) (by kernel_rfl) (Eq.mp (S33_eq v0 K w) h)

/-- (*rubric/history.History).Depths -/
def S20 (v0 : Value) (K : Cont) (w : World) : Prop :=
  callK Tryz.prog 48 [v0] (fun t5 w1 =>
  notK t5 fun t6 =>
  condK t6
  (K (.tuple #[(.int .i64 0), (.int .i64 0)]) w1)
  (DrawK w1 (fun C =>
  nilckK v0 fun t8 =>
  faK 3 t8 fun t9 =>
  qld1K C t9 fun t10 =>
  lenK t10 fun t11 =>
  nilckK v0 fun t13 =>
  faK 4 t13 fun t14 =>
  qld1K C t14 fun t15 =>
  lenK t15 fun t16 =>
  ∀ w2 : World, C w2 →
  K (.tuple #[t11, t16]) w2))) w
theorem S20_eq (v0 : Value) (K : Cont) (w : World) : S20 v0 K w = D Tryz.prog okf 17 (bodyOf Tryz.f20) (.node [] [] .nil (.node [] [] (.node [] [] .nil (.node [] [] (.node [] [] .nil .nil) .nil)) (.node [] [] .draw .nil))) (retK Tryz.prog [.tmp 2, .tmp 3] K) (nth [v0]) w := by kernel_rfl
theorem S20_ok {v0 : Value} {K : Cont} {w : World} (h : S20 v0 K w) : callK Tryz.prog 20 [v0] K w :=
  callK_of (P := Tryz.prog) (ok := okf) (n := 17) (fn := Tryz.f20) (c := bodyOf Tryz.f20) (rs := [.tmp 2, .tmp 3]) (an := (.node [] [] .nil (.node [] [] (.node [] [] .nil (.node [] [] (.node [] [] .nil .nil) .nil)) (.node [] [] .draw .nil)))) good mixed Tryz.func20 (by kernel_rfl) (by kernel_rfl) (by kernel_rfl) (by kernel_rfl) (Eq.mp (S20_eq v0 K w) h)

/-- slices.Clone[[]rubric/history.group,rubric/history.group] -/
def S88 (v0 : Value) (K : Cont) (w : World) : Prop :=
  snilK v0 fun b4 =>
  condK (.bool b4)
  (K (.slice none 0 0) w)
  (rowK 95 2 0 [] [] (fun t5 w1 =>
  runK Tryz.prog (Builtin.append_ #[65, 65] 65 [t5, v0].toArray) (fun t7 w2 =>
  K t7 w2) w1) w)
theorem S88_eq (v0 : Value) (K : Cont) (w : World) : S88 v0 K w = D Tryz.prog okf 8 (bodyOf Tryz.f88) (.node [] [] .nil (.node [] [] (.node [] [] .nil (.node [] [] (.node [] [] .nil .nil) .nil)) (.node [] [] .nil .nil))) (retK Tryz.prog [.tmp 2] K) (nth [v0]) w := by kernel_rfl
theorem S88_ok {v0 : Value} {K : Cont} {w : World} (h : S88 v0 K w) : callK Tryz.prog 88 [v0] K w :=
  callK_of (P := Tryz.prog) (ok := okf) (n := 8) (fn := Tryz.f88) (c := bodyOf Tryz.f88) (rs := [.tmp 2]) (an := (.node [] [] .nil (.node [] [] (.node [] [] .nil (.node [] [] (.node [] [] .nil .nil) .nil)) (.node [] [] .nil .nil)))) good mixed Tryz.func88 (by kernel_rfl) (by kernel_rfl) (by kernel_rfl) (by kernel_rfl) (Eq.mp (S88_eq v0 K w) h)

/-- rubric/rubriclaw27.in -/
def S17 (v0 : Value) (K : Cont) (w : World) : Prop :=
  rowK 21 1 1 [(.int .i32 0)] [(0, v0)] (fun t5 w1 =>
  buildK [(0, 1), (1, 1), (2, 1), (3, 1), (4, 1)] [(.int .u8 0), (.int .i64 0), (.slice none 0 0), (.slice none 0 0), (.slice none 0 0)] [(0, (.int .u8 2)), (2, t5)] fun t6 =>
  rowK 39 5 1 [(.int .u8 0), (.int .i64 0), (.slice none 0 0), (.slice none 0 0), (.slice none 0 0)] [(0, t6)] (fun t7 w2 =>
  buildK [(0, 1), (1, 1), (2, 1), (3, 1), (4, 1)] [(.int .u8 0), (.int .i64 0), (.slice none 0 0), (.slice none 0 0), (.slice none 0 0)] [(0, (.int .u8 3)), (1, (.int .i64 1))] fun t8 =>
  rowK 39 5 1 [(.int .u8 0), (.int .i64 0), (.slice none 0 0), (.slice none 0 0), (.slice none 0 0)] [(0, t8)] (fun t9 w3 =>
  K (.tuple #[t7, t9]) w3) w2) w1) w
theorem S17_eq (v0 : Value) (K : Cont) (w : World) : S17 v0 K w = D Tryz.prog okf 10 (bodyOf Tryz.f17) (.node [] [] .nil (.node [] [] .nil .nil)) (retK Tryz.prog [.tmp 2, .tmp 3] K) (nth [v0]) w := by kernel_rfl
theorem S17_ok {v0 : Value} {K : Cont} {w : World} (h : S17 v0 K w) : callK Tryz.prog 17 [v0] K w :=
  callK_of (P := Tryz.prog) (ok := okf) (n := 10) (fn := Tryz.f17) (c := bodyOf Tryz.f17) (rs := [.tmp 2, .tmp 3]) (an := (.node [] [] .nil (.node [] [] .nil .nil))) good mixed Tryz.func17 (by kernel_rfl) (by kernel_rfl) (by kernel_rfl) (by kernel_rfl) (Eq.mp (S17_eq v0 K w) h)

/-- rubric/rubriclaw27.known -/
def S16 (K : Cont) (w : World) : Prop :=
  callK Tryz.prog 14 [(.slice none 0 0)] (fun t22 w1 =>
  extK 0 t22 fun t23 =>
  extK 1 t22 fun t24 =>
  callK Tryz.prog 15 [t23, (.int .i64 2)] (fun t27 w2 =>
  extK 0 t27 fun t28 =>
  extK 1 t27 fun t29 =>
  JoinK (fun _vs w3 => ∀ _h : Env,
  runK Tryz.prog (Instr.build 93 [(0, (.int .i32 97)), (1, (.int .i32 98)), (2, (.int .i32 99))].toArray) (fun t40 w4 =>
  LoopK [(.int .i64 0)] (fun vs_1 again w5 => ∀ _h_1 : Env,
  ltK .i64 (nth vs_1 0) (.int .i64 3) fun t42 =>
  condK t42
  (runK Tryz.prog (Instr.index 93 t40 (nth vs_1 0)) (fun t43 w6 =>
  callK Tryz.prog 17 [t43] (fun t46 w7 =>
  extK 0 t46 fun t47 =>
  extK 1 t46 fun t48 =>
  callK Tryz.prog 18 [t28, t47, t48] (fun t52 w8 =>
  neK .i64 t52 (.int .i64 0) fun t53 =>
  condK t53
  (K (.bool false) w8)
  (addK .i64 (nth vs_1 0) (.int .i64 1) fun t54 =>
  again [t54] w8)) w7) w6) w5)
  (callK Tryz.prog 19 [t28] (fun t57 w9 =>
  extK 0 t57 fun t58 =>
  extK 1 t57 fun t59 =>
  callK Tryz.prog 19 [t28] (fun t62 w10 =>
  extK 0 t62 fun _t63 =>
  extK 1 t62 fun t64 =>
  callK Tryz.prog 19 [t28] (fun t67 w11 =>
  extK 0 t67 fun _t68 =>
  extK 1 t67 fun t69 =>
  callK Tryz.prog 21 [t28] (fun t72 w12 =>
  extK 0 t72 fun t73 =>
  extK 1 t72 fun t74 =>
  callK Tryz.prog 17 [(.int .i32 98)] (fun t76 w13 =>
  extK 0 t76 fun t77 =>
  extK 1 t76 fun t78 =>
  callK Tryz.prog 20 [t28] (fun t81 w14 =>
  extK 0 t81 fun t82 =>
  extK 1 t81 fun t83 =>
  eqK .i64 t59 (.int .i64 0) fun t85 =>
  condK t85
  (eqK .i64 t64 (.int .i64 0) fun t88 =>
  condK t88
  (eqK .i64 t69 (.int .i64 10) fun t92 =>
  condK t92
  (eqK .i64 t74 (.int .i64 0) fun t96 =>
  condK t96
  (callK Tryz.prog 22 [t58, t78] (fun t101 w15 =>
  condK t101
  (callK Tryz.prog 22 [t73, t77] (fun t106 w16 =>
  condK t106
  (eqK .i64 t82 (.int .i64 1) fun t110 =>
  condK t110
  (eqK .i64 t83 (.int .i64 1) fun t114 =>
  condK t114
  (callK Tryz.prog 18 [t28, t77, t78] (fun t120 w17 =>
  eqK .i64 t120 (.int .i64 0) fun t121 =>
  condK t121
  (callK Tryz.prog 27 [t28] (fun t125 w18 =>
  eqK .i64 t125 (.int .i64 0) fun t126 =>
  condK t126
  (callK Tryz.prog 27 [t28] (fun t130 w19 =>
  eqK .i64 t130 (.int .i64 9) fun t131 =>
  condK t131
  (callK Tryz.prog 33 [t28] (fun t135 w20 =>
  K t135 w20) w19)
  (K (.bool false) w19)) w18)
  (K (.bool false) w18)) w17)
  (K (.bool false) w17)) w16)
  (K (.bool false) w16))
  (K (.bool false) w16))
  (K (.bool false) w16)) w15)
  (K (.bool false) w15)) w14)
  (K (.bool false) w14))
  (K (.bool false) w14))
  (K (.bool false) w14))
  (K (.bool false) w14)) w13) w12) w11) w10) w9) w5)) w4) w3) (fun J =>
  neK .i64 t24 (.int .i64 0) fun t31 =>
  condK t31
  (K (.bool false) w2)
  (neK .i64 t29 (.int .i64 0) fun t34 =>
  condK t34
  (K (.bool false) w2)
  (pnilK t28 fun b38 =>
  condK (.bool b38)
  (K (.bool false) w2)
  (J [] w2))))) w1) w
theorem S16_eq (K : Cont) (w : World) : S16  K w = D Tryz.prog okf 137 (bodyOf Tryz.f16) (.node [] [] .nil (.node [] [] .nil (.node [] [] .nil (.cut [] [(0, 0), (30, 39)] (.node [] [] .nil (.node [] [] (.node [] [] .nil .nil) .nil)) (.node [] [] (.node [] [] .nil (.node [41] [(0, 0), (6, 8), (41, 54)] (.node [] [] .nil (.node [] [] (.node [] [] .nil .nil) (.node [] [] (.node [] [] .nil (.node [] [] .nil (.node [] [] .nil (.node [] [] (.node [] [] .nil .nil) .nil)))) .nil))) .nil)) (.node [] [] .nil (.node [] [] .nil (.node [] [] .nil (.node [] [] .nil (.node [] [] .nil (.node [] [] .nil (.node [] [] .nil .nil)))))))))))) (retK Tryz.prog [.tmp 0] K) (nth []) w := by kernel_rfl
theorem S16_ok {K : Cont} {w : World} (h : S16  K w) : callK Tryz.prog 16 [] K w :=
  callK_of (P := Tryz.prog) (ok := okf) (n := 137) (fn := Tryz.f16) (c := bodyOf Tryz.f16) (rs := [.tmp 0]) (an := (.node [] [] .nil (.node [] [] .nil (.node [] [] .nil (.cut [] [(0, 0), (30, 39)] (.node [] [] .nil (.node [] [] (.node [] [] .nil .nil) .nil)) (.node [] [] (.node [] [] .nil (.node [41] [(0, 0), (6, 8), (41, 54)] (.node [] [] .nil (.node [] [] (.node [] [] .nil .nil) (.node [] [] (.node [] [] .nil (.node [] [] .nil (.node [] [] .nil (.node [] [] (.node [] [] .nil .nil) .nil)))) .nil))) .nil)) (.node [] [] .nil (.node [] [] .nil (.node [] [] .nil (.node [] [] .nil (.node [] [] .nil (.node [] [] .nil (.node [] [] .nil .nil))))))))))))) good mixed Tryz.func16 (by kernel_rfl) (by kernel_rfl) (by kernel_rfl) (by kernel_rfl) (Eq.mp (S16_eq  K w) h)

end Go.Proofs.YtlbaopamhkmepaaGreatDoor

namespace Go.Proofs.YtlbaopamhkmepaaGreatDoor
open Go Go.K
structure Grp where
  d : List Dop
  u : List Dop
/-- a history as data: the most groups, those to be undone and done again, the newest one last; whether a bracket is open, and its group -/
structure Hist where
  max : Nat
  us : List Grp
  rs : List Grp
  op : Bool
  own : List Grp
/-- a group more, of at most mx -/
def keepL (mx : Nat) (us : List Grp) (g : Grp) : List Grp := if us.length < mx then us ++ [g] else (us ++ [g]).drop 1
theorem keepL_len {mx : Nat} {us : List Grp} {g : Grp} (h : us.length ≤ mx) : (keepL mx us g).length ≤ mx ∧ (keepL mx us g).length = min (us.length + 1) mx := by
  unfold keepL
  split
  · simp; omega
  · simp; omega

abbrev TGrp : Nat := 95
theorem RDops.to {S S' D D' M : Nat → Prop} {w w' : World} {v : Value} {l : List Dop} (h : RDops S D w v l) (hm : Mod M w w') (hS : ∀ b, b < w.heap.size → S b → ¬ M b) (hD : ∀ b, b < w.heap.size → D b → ¬ M b) (hS' : ∀ b, b < w.heap.size → S b → S' b) (hD' : ∀ b, b < w.heap.size → D b → D' b) : RDops S' D' w' v l :=
  SlR.mono h hS' (fun b hb hs => hm.same b hb (hS b hb hs)) (by decide) fun _ _ hx => hx.mod hm hD hD'
def RGrp (C : Nat → Prop) : World → List Value → Grp → Prop := fun w r g => ∃ dv uv, r = [dv, uv] ∧ RDops C C w dv g.d ∧ RDops C C w uv g.u
theorem RGrp.one {C : Nat → Prop} {w : World} {r : List Value} {g : Grp} (h : RGrp C w r g) : ∀ u ∈ r, u.oneCell' = true := by
  obtain ⟨dv, uv, rfl, h1, h2⟩ := h
  obtain ⟨a, c, rfl, _⟩ := h1.shape
  obtain ⟨a', c', rfl, _⟩ := h2.shape
  intro u hu
  simp at hu
  rcases hu with rfl | rfl <;> rfl
theorem RGrp.to {C C' M : Nat → Prop} {w w' : World} {r : List Value} {g : Grp} (h : RGrp C w r g) (hm : Mod M w w') (hC : ∀ b, b < w.heap.size → C b → ¬ M b) (hC' : ∀ b, b < w.heap.size → C b → C' b) : RGrp C' w' r g := by
  obtain ⟨dv, uv, e, h1, h2⟩ := h
  exact ⟨dv, uv, e, h1.to hm hC hC hC' hC', h2.to hm hC hC hC' hC'⟩
theorem RGrp.mod {C M : Nat → Prop} {w w' : World} {r : List Value} {g : Grp} (h : RGrp C w r g) (hm : Mod M w w') (hC : ∀ b, b < w.heap.size → C b → ¬ M b) : RGrp C w' r g := h.to hm hC fun _ _ h => h
theorem elem_grp : ElemOK Tryz.prog 65 TGrp 2 48 := ⟨Tryz.t95, .agg #[.slice none 0 0, .slice none 0 0], by kernel_rfl, by kernel_rfl, by kernel_rfl, by kernel_rfl, by kernel_rfl, by rfl, by decide⟩
/-- the seven cells -/
abbrev histL (sv : Value) (mx : Nat) (uv rv : Value) (op : Bool) (ov : Value) : List Value := [sv, .int .i64 mx, .bool true, uv, rv, .bool op, ov]
/-- a history at block b. F: all its blocks; C: those that are only read -/
structure HistR (F C : Nat → Prop) (W : World) (b : Nat) (sv : Value) (ks : List DKey) (uv rv ov : Value) (mx : Nat) (us rs : List Grp) (op : Bool) (own : List Grp) : Prop where
  cells : ∀ j v, (histL sv mx uv rv op ov)[j]? = some v → W.cell? ⟨b, j, none⟩ = some v
  live : ∀ j, j < 7 → Live W ⟨b, j, none⟩
  sch : SchR C W sv ks
  und : StkR TGrp 2 (RGrp C) W uv us
  red : StkR TGrp 2 (RGrp C) W rv rs
  own : SlR C 2 (RGrp C) W ov own
  fb : F b ∧ ¬ C b
  uF : ∀ g, uv.ownBlock = some g → F g ∧ ¬ C g ∧ g ≠ b
  rF : ∀ g, rv.ownBlock = some g → F g ∧ ¬ C g ∧ g ≠ b ∧ uv.ownBlock ≠ some g
  cf : ∀ x, C x → F x ∧ x < W.heap.size
section
variable {F C M : Nat → Prop} {W W' : World} {b : Nat} {sv : Value} {ks : List DKey} {uv rv ov : Value} {mx : Nat} {us rs own : List Grp} {op : Bool}
theorem HistR.lt (h : HistR F C W b sv ks uv rv ov mx us rs op own) : b < W.heap.size := World.block_lt_of_cell? W _ (h.cells 5 _ rfl)
theorem HistR.mod (h : HistR F C W b sv ks uv rv ov mx us rs op own) (hm : Mod M W W') (hM : ∀ x, F x → ¬ M x) : HistR F C W' b sv ks uv rv ov mx us rs op own :=
  have hC : ∀ x, x < W.heap.size → C x → ¬ M x := fun x _ hx => hM x (h.cf x hx).1
  ⟨fun j v hv => hm.cell (h.cells j v hv) (hM b h.fb.1), fun j hj => (h.live j hj).mod hm (hM b h.fb.1), h.sch.mod hm hC, h.und.mod (by decide) hm (fun g hg => hM g (h.uF g hg).1) fun r x hx => hx.mod hm hC, h.red.mod (by decide) hm (fun g hg => hM g (h.rF g hg).1) fun r x hx => hx.mod hm hC, h.own.mod hm hC (by decide) fun r x hx => hx.mod hm hC,
    h.fb, h.uF, h.rF, fun x hx => ⟨(h.cf x hx).1, Nat.lt_of_lt_of_le (h.cf x hx).2 hm.size⟩⟩
theorem HistR.grow (h : HistR F C W b sv ks uv rv ov mx us rs op own) (g : Grow W W') : HistR F C W' b sv ks uv rv ov mx us rs op own := h.mod g fun _ _ h => h
/-- more blocks that are only read -/
theorem HistR.more {F' C' : Nat → Prop} (h : HistR F C W b sv ks uv rv ov mx us rs op own) (hF : ∀ x, F x → F' x) (hC : ∀ x, C x → C' x) (hn : ∀ x, C' x → F' x ∧ x < W.heap.size ∧ (C x ∨ ¬ F x)) : HistR F' C' W b sv ks uv rv ov mx us rs op own := by
  have m0 : Mod (fun _ => False) W W := Mod.refl _ _
  have no : ∀ g, F g → ¬ C g → ¬ C' g := fun g hf hc hc' => by
    rcases (hn g hc').2.2 with h | h
    · exact hc h
    · exact h hf
  exact ⟨h.cells, h.live, h.sch.sub fun x _ hx => hC x hx, h.und.mod (by decide) m0 (fun _ _ h => h) fun r x hx => hx.to m0 (fun _ _ _ h => h) fun x _ hx => hC x hx, h.red.mod (by decide) m0 (fun _ _ h => h) fun r x hx => hx.to m0 (fun _ _ _ h => h) fun x _ hx => hC x hx, h.own.sub (fun x _ hx => hC x hx) (by decide) fun r x hx => hx.to m0 (fun _ _ _ h => h) fun x _ hx => hC x hx,
    ⟨hF _ h.fb.1, no b h.fb.1 h.fb.2⟩, fun g hg => ⟨hF _ (h.uF g hg).1, no g (h.uF g hg).1 (h.uF g hg).2.1, (h.uF g hg).2.2⟩, fun g hg => ⟨hF _ (h.rF g hg).1, no g (h.rF g hg).1 (h.rF g hg).2.1, (h.rF g hg).2.2⟩, fun x hx => ⟨(hn x hx).1, (hn x hx).2.1⟩⟩
theorem HistR.setOp {op' : Bool} {K : World → Prop} (h : HistR F C W b sv ks uv rv ov mx us rs op own)
    (hK : ∀ W', HistR F C W' b sv ks uv rv ov mx us rs op' own → Mod (fun x => x = b) W W' → K W') : st1K (.pointer (some ⟨b, 5, none⟩)) (.bool op') K W := by
  refine box_store h.cells (fun j hj => h.live j hj) (q := 5) (show 5 < 7 by decide) rfl rfl fun W' hm hc hl => ?_
  have hC : ∀ x, x < W.heap.size → C x → ¬ x = b := fun x _ hx e => h.fb.2 (e ▸ hx)
  exact hK W' ⟨hc, fun j hj => hl j hj, h.sch.mod hm hC, h.und.mod (by decide) hm (fun g hg => (h.uF g hg).2.2) fun r x hx => hx.mod hm hC, h.red.mod (by decide) hm (fun g hg => (h.rF g hg).2.2.1) fun r x hx => hx.mod hm hC, h.own.mod hm hC (by decide) fun r x hx => hx.mod hm hC,
    h.fb, h.uF, h.rF, fun x hx => ⟨(h.cf x hx).1, Nat.lt_of_lt_of_le (h.cf x hx).2 hm.size⟩⟩ hm
theorem HistR.setOwn {ov' : Value} {own' : List Grp} {K : World → Prop} (h : HistR F C W b sv ks uv rv ov mx us rs op own) (ho : SlR C 2 (RGrp C) W ov' own')
    (hK : ∀ W', HistR F C W' b sv ks uv rv ov' mx us rs op own' → Mod (fun x => x = b) W W' → K W') : st1K (.pointer (some ⟨b, 6, none⟩)) ov' K W := by
  refine box_store h.cells (fun j hj => h.live j hj) (q := 6) (show 6 < 7 by decide) (by obtain ⟨a, c, rfl, _⟩ := ho.shape; rfl) (by obtain ⟨a, c, rfl, _⟩ := ho.shape; rfl) fun W' hm hc hl => ?_
  have hC : ∀ x, x < W.heap.size → C x → ¬ x = b := fun x _ hx e => h.fb.2 (e ▸ hx)
  exact hK W' ⟨hc, fun j hj => hl j hj, h.sch.mod hm hC, h.und.mod (by decide) hm (fun g hg => (h.uF g hg).2.2) fun r x hx => hx.mod hm hC, h.red.mod (by decide) hm (fun g hg => (h.rF g hg).2.2.1) fun r x hx => hx.mod hm hC, ho.mod hm hC (by decide) fun r x hx => hx.mod hm hC,
    h.fb, h.uF, h.rF, fun x hx => ⟨(h.cf x hx).1, Nat.lt_of_lt_of_le (h.cf x hx).2 hm.size⟩⟩ hm
/-- another row of groups -/
theorem HistR.setU {F' : Nat → Prop} {uv' : Value} {us' : List Grp} {K : World → Prop} (h : HistR F C W b sv ks uv rv ov mx us rs op own) (hm : Mod M W W') (hMo : ∀ x, M x → uv.ownBlock = some x) (hF : ∀ x, F x → F' x)
    (ho : StkR TGrp 2 (RGrp C) W' uv' us') (hn : ∀ g, uv'.ownBlock = some g → uv.ownBlock = some g ∨ W.heap.size ≤ g ∧ F' g)
    (hK : ∀ W'', HistR F' C W'' b sv ks uv' rv ov mx us' rs op own → Mod (fun x => x = b) W' W'' → K W'') : st1K (.pointer (some ⟨b, 3, none⟩)) uv' K W' := by
  have hbM : ¬ M b := fun e => (h.uF b (hMo b e)).2.2 rfl
  have hCM : ∀ x, x < W.heap.size → C x → ¬ M x := fun x _ hx e => (h.uF x (hMo x e)).2.1 hx
  refine box_store (vs := histL sv mx uv rv op ov) (fun j v hv => hm.cell (h.cells j v hv) hbM) (fun j hj => (h.live j hj).mod hm hbM) (q := 3) (show 3 < 7 by decide) ho.one.1 ho.one.2 fun W'' hm' hc hl => ?_
  have hC' : ∀ x, x < W'.heap.size → C x → ¬ x = b := fun x _ hx e => h.fb.2 (e ▸ hx)
  have hbs := h.lt
  have ou := h.und.ownB
  have or := h.red.ownB
  have nb : ∀ g, uv'.ownBlock = some g → F' g ∧ ¬ C g ∧ g ≠ b := fun g hg => by
    rcases hn g hg with e | ⟨e, e'⟩
    · have := h.uF g e; exact ⟨hF _ this.1, this.2.1, this.2.2⟩
    · exact ⟨e', fun hc => by have := (h.cf g hc).2; omega, fun e2 => by omega⟩
  exact hK W'' ⟨hc, fun j hj => hl j hj, (h.sch.mod hm hCM).mod hm' hC', ho.mod (by decide) hm' (fun g hg => (nb g hg).2.2) fun r x hx => hx.mod hm' hC', (h.red.mod (R' := RGrp C) (by decide) hm (fun g hg e => (h.rF g hg).2.2.2 (hMo g e)) fun r x hx => hx.mod hm hCM).mod (by decide) hm' (fun g hg => (h.rF g hg).2.2.1) fun r x hx => hx.mod hm' hC', (h.own.mod hm hCM (by decide) fun r x hx => hx.mod hm hCM).mod hm' hC' (by decide) fun r x hx => hx.mod hm' hC',
    ⟨hF _ h.fb.1, h.fb.2⟩, nb, fun g hg => ⟨hF _ (h.rF g hg).1, (h.rF g hg).2.1, (h.rF g hg).2.2.1, fun e => by
      rcases hn g e with e1 | ⟨e1, _⟩
      · exact (h.rF g hg).2.2.2 e1
      · have := or g hg; omega⟩,
    fun x hx => ⟨hF _ (h.cf x hx).1, Nat.lt_of_lt_of_le (h.cf x hx).2 (Nat.le_trans hm.size hm'.size)⟩⟩ hm'
/-- another row of groups -/
theorem HistR.setR {F' : Nat → Prop} {rv' : Value} {rs' : List Grp} {K : World → Prop} (h : HistR F C W b sv ks uv rv ov mx us rs op own) (hm : Mod M W W') (hMo : ∀ x, M x → rv.ownBlock = some x) (hF : ∀ x, F x → F' x)
    (ho : StkR TGrp 2 (RGrp C) W' rv' rs') (hn : ∀ g, rv'.ownBlock = some g → rv.ownBlock = some g ∨ W.heap.size ≤ g ∧ F' g)
    (hK : ∀ W'', HistR F' C W'' b sv ks uv rv' ov mx us rs' op own → Mod (fun x => x = b) W' W'' → K W'') : st1K (.pointer (some ⟨b, 4, none⟩)) rv' K W' := by
  have hbM : ¬ M b := fun e => (h.rF b (hMo b e)).2.2.1 rfl
  have hCM : ∀ x, x < W.heap.size → C x → ¬ M x := fun x _ hx e => (h.rF x (hMo x e)).2.1 hx
  refine box_store (vs := histL sv mx uv rv op ov) (fun j v hv => hm.cell (h.cells j v hv) hbM) (fun j hj => (h.live j hj).mod hm hbM) (q := 4) (show 4 < 7 by decide) ho.one.1 ho.one.2 fun W'' hm' hc hl => ?_
  have hC' : ∀ x, x < W'.heap.size → C x → ¬ x = b := fun x _ hx e => h.fb.2 (e ▸ hx)
  have hbs := h.lt
  have ou := h.und.ownB
  have or := h.red.ownB
  have nb : ∀ g, rv'.ownBlock = some g → F' g ∧ ¬ C g ∧ g ≠ b := fun g hg => by
    rcases hn g hg with e | ⟨e, e'⟩
    · have := h.rF g e; exact ⟨hF _ this.1, this.2.1, this.2.2.1⟩
    · exact ⟨e', fun hc => by have := (h.cf g hc).2; omega, fun e2 => by omega⟩
  exact hK W'' ⟨hc, fun j hj => hl j hj, (h.sch.mod hm hCM).mod hm' hC', (h.und.mod (R' := RGrp C) (by decide) hm (fun g hg e => (h.rF g (hMo g e)).2.2.2 hg) fun r x hx => hx.mod hm hCM).mod (by decide) hm' (fun g hg => (h.uF g hg).2.2) fun r x hx => hx.mod hm' hC', ho.mod (by decide) hm' (fun g hg => (nb g hg).2.2) fun r x hx => hx.mod hm' hC', (h.own.mod hm hCM (by decide) fun r x hx => hx.mod hm hCM).mod hm' hC' (by decide) fun r x hx => hx.mod hm' hC',
    ⟨hF _ h.fb.1, h.fb.2⟩, fun g hg => ⟨hF _ (h.uF g hg).1, (h.uF g hg).2⟩, fun g hg => ⟨(nb g hg).1, (nb g hg).2.1, (nb g hg).2.2, fun e => by
      rcases hn g hg with e1 | ⟨e1, _⟩
      · exact (h.rF g e1).2.2.2 e
      · have := ou g e; omega⟩,
    fun x hx => ⟨hF _ (h.cf x hx).1, Nat.lt_of_lt_of_le (h.cf x hx).2 (Nat.le_trans hm.size hm'.size)⟩⟩ hm'
/-- the first element is cleared, and the slice begins behind it -/
theorem clear_first {g c : Nat} {l : List Grp} (h : OwnR 0 TGrp 2 (RGrp C) W (.slice (some ⟨g, 0, none⟩) l.length c) l) (h0 : 0 < l.length) (hgC : ¬ C g) :
    ∃ W', (Builtin.clear_ #[65] 0 [.slice (some ⟨g, 0, none⟩) 1 c].toArray).run Tryz.prog W = .ok (.tuple #[]) W' ∧ Mod (fun x => x = g) W W' ∧ StkR TGrp 2 (RGrp C) W' (sliced (some ⟨g, 0, none⟩) 1 l.length l.length 2) (l.drop 1) := by
  obtain ⟨a, r, e1, _, hr, hc, _⟩ := h.sl.get h0
  cases e1
  have hz : (Builtin.zeroCells (Value.agg #[.slice none 0 0, .slice none 0 0]).cells 1).toList = [.slice none 0 0, .slice none 0 0] := by kernel_rfl
  have hlv : ∀ j, j < 2 → Live W ((⟨g, 0, none⟩ : Addr).add j) := fun j hj => by
    obtain ⟨g', e, _, hl⟩ := OwnR.live h (i := 0) (j := j) h0 hj
    cases e
    rwa [Nat.zero_mul, Nat.zero_add] at hl
  have hrun := setL_run (P := Tryz.prog) (⟨g, 0, none⟩ : Addr) [.slice none 0 0, .slice none 0 0] 0 W (fun u hu => by simp at hu; rcases hu with rfl | rfl <;> rfl) (fun j _ hj => hlv j (by simpa using hj))
  obtain ⟨m1, _, _, _⟩ := setL_over (b := g) [.slice none 0 0, .slice none 0 0] 0 W (fun j _ hj => hlv j (by simpa using hj))
  have hgW : g < W.heap.size := (OwnR.ownB h g rfl).2
  refine ⟨_, ?_, m1, .inr ?_⟩
  · have hu : Tryz.prog.underlying 65 = some (.slice TGrp) := by kernel_rfl
    have hi : Tryz.prog.info? TGrp = some Tryz.t95 := by kernel_rfl
    have hv : (zeroValue TGrp).run Tryz.prog W = .ok (.agg #[.slice none 0 0, .slice none 0 0]) W := by
      simp [zeroValue, typeInfo, hi, show Tryz.t95.zero = some (.agg #[.slice none 0 0, .slice none 0 0]) from rfl]
    simp [Builtin.clear_, run_underlying hu, hv, hz, hrun]
  · have hsl := h.sl
    by_cases h1 : l.length = 1
    · refine ⟨⟨g, 0, none⟩, ?_, Nat.lt_of_lt_of_le hgW m1.size, ?_⟩
      · simp [sliced, h1]
      · have : l.drop 1 = [] := List.eq_nil_of_length_eq_zero (by simp [h1])
        rw [this]
        simp only [sliced, h1, if_true, Nat.sub_self]
        exact ⟨_, 0, rfl, Nat.le_refl _, by simp [maxLen], fun i x hx => by simp at hx⟩
    · have e : sliced (some (⟨g, 0, none⟩ : Addr)) 1 l.length l.length 2 = .slice (some ⟨g, 2, none⟩) (l.drop 1).length (l.drop 1).length := by
        simp only [sliced, if_neg h1, Option.map_some, List.length_drop]
        rw [Nat.one_mul, addr0]
      obtain ⟨_, _, esl, _, hlm, hel⟩ := hsl
      cases esl
      refine ⟨⟨g, 2, none⟩, e, Nat.lt_of_lt_of_le hgW m1.size, ?_⟩
      rw [e]
      refine ⟨_, _, rfl, Nat.le_refl _, by simp only [List.length_drop]; simp only [maxLen] at hlm ⊢; have := OwnR.shape h; obtain ⟨_, _, e', h2, h3, _⟩ := this; simp only [maxLen] at h3; omega, fun i x hx => ?_⟩
      rw [List.getElem?_drop] at hx
      obtain ⟨q, r', e2, _, hr', hc', hR'⟩ := hel (1 + i) x hx
      cases e2
      refine ⟨_, r', rfl, rfl, hr', fun j u hu => ?_, hR'.mod m1 fun y _ hy e => hgC (e ▸ hy)⟩
      have hj : j < 2 := by rw [← hr']; exact (List.getElem?_eq_some_iff.1 hu).1
      have := hc' j u hu
      rw [addr0] at this
      have ea : (⟨g, 2, none⟩ : Addr).add (i * 2 + j) = ⟨g, 2 + (i * 2 + j), none⟩ := by unfold Addr.add; split <;> simp_all
      rw [ea, show 2 + (i * 2 + j) = (1 + i) * 2 + j by omega]
      simp only [setL, addr0]
      rw [World.cell?_setCell_other _ _ _ _ (by intro h; have := congrArg Addr.off h; simp only at this; omega), World.cell?_setCell_other _ _ _ _ (by intro h; have := congrArg Addr.off h; simp only at this; omega)]
      exact this
end
end Go.Proofs.YtlbaopamhkmepaaGreatDoor

namespace Go.K
open Go
theorem slice_lhm_run {P : Program} {t e k : Nat} {i : TypeInfo} {a : Option Addr} {n c l h m : Nat} (ht : P.underlying t = some (.slice e)) (hi : P.info? e = some i) (hk : i.size = k) (h1 : l ≤ h) (h2 : h ≤ m) (h3 : m ≤ c) (w : World) :
    (Instr.sliceAt t (.slice a n c) (some (.int .i64 l)) (some (.int .i64 h)) (some (.int .i64 m))).run P w = .ok (sliced a l h m k) w := by
  have hel : P.elem t = e := by simp [Program.elem, ht]
  rw [run_sliceAt_slice _ _ _ _ _ _ (by rw [hel]; exact ht), run_slice_lhm _ _ _ _ _ (by rw [hel]; exact ht) _ _ _ _ _ _ (by omega) (by omega) (by omega) (by omega), hel]
  simp [sizeOf, typeInfo, hi, hk]
theorem slice_h_run {P : Program} {t e k : Nat} {i : TypeInfo} {a : Option Addr} {n c j : Nat} (ht : P.underlying t = some (.slice e)) (hi : P.info? e = some i) (hk : i.size = k) (hj : j ≤ c) (w : World) : (Instr.sliceAt t (.slice a n c) none (some (.int .i64 j)) none).run P w = .ok (sliced a 0 j c k) w := by
  have hel : P.elem t = e := by simp [Program.elem, ht]
  rw [run_sliceAt_slice _ _ _ _ _ _ (by rw [hel]; exact ht), run_slice_h _ _ _ _ _ (by rw [hel]; exact ht) _ _ (by omega) (by omega), hel]
  simp [sizeOf, typeInfo, hi, hk]
end Go.K
namespace Go.Proofs.YtlbaopamhkmepaaGreatDoor
open Go Go.K

/-- a history at block b -/
def HistI (F : Nat → Prop) (W : World) (b : Nat) (ks : List DKey) (h : Hist) : Prop := ∃ C sv uv rv ov, HistR F C W b sv ks uv rv ov h.max h.us h.rs h.op h.own
/-- the answer of a call that may turn the history -/
def HAfter (F : Nat → Prop) (w w' : World) (b : Nat) (ks : List DKey) (h : Hist) : Prop := ∃ F', (∀ x, F' x → F x ∨ w.heap.size ≤ x ∧ x < w'.heap.size) ∧ HistI F' w' b ks h ∧ Mod F w w'
section
variable {F C M : Nat → Prop} {W W' : World} {b : Nat} {sv : Value} {ks : List DKey} {uv rv ov : Value} {mx : Nat} {us rs own : List Grp} {op : Bool} {h : Hist}
theorem HistI.mod (hh : HistI F W b ks h) (hm : Mod M W W') (hM : ∀ x, F x → ¬ M x) : HistI F W' b ks h := by
  obtain ⟨C, sv, uv, rv, ov, hh⟩ := hh
  exact ⟨C, sv, uv, rv, ov, hh.mod hm hM⟩
theorem HistI.grow (hh : HistI F W b ks h) (g : Grow W W') : HistI F W' b ks h := hh.mod g fun _ _ h => h
theorem hready_ok (h : HistI F W b ks h) : callK Tryz.prog 48 [.pointer (some ⟨b, 0, none⟩)] (fun v' w' => v' = .bool true ∧ w' = W) W := by
  obtain ⟨C, sv, uv, rv, ov, h⟩ := h
  apply S48_ok
  unfold S48
  refine pnilK_s (condK_t (nilckK_s ?_))
  rw [faK_i, addr0]
  exact ld1K_i (h.cells 2 _ rfl) ⟨rfl, rfl⟩
theorem hnew_ok {mx : Nat} (hS : SchR C W sv ks) (hmx : mx ≤ 65536) :
    callK Tryz.prog 15 [sv, .int .i64 mx] (fun v' w' => Grow W w' ∧ ∃ b, W.heap.size ≤ b ∧ v' = .tuple #[.pointer (some ⟨b, 0, none⟩), .int .i64 0] ∧ HistI (fun x => (C x ∧ x < W.heap.size) ∨ W.heap.size ≤ x ∧ x < w'.heap.size) w' b ks ⟨mx, [], [], false, []⟩) W := by
  apply S15_ok
  unfold S15
  refine JoinK_i (fun _ W' => W' = W) ?_ ?_
  rotate_left
  · rw [ltK_i]
    refine condK_p (fun e => by omega) fun _ => ?_
    rw [gtK_i]
    exact condK_p (fun e => by omega) fun _ => rfl
  rintro _ _ rfl _
  rename World => W
  obtain ⟨bs, _, _, _, rfl, _⟩ := id hS
  refine ⟨(histL (.pointer (some ⟨bs, 0, none⟩)) mx (.slice none 0 0) (.slice none 0 0) false (.slice none 0 0)).toArray, by kernel_rfl, ?_⟩
  refine boxn_i (vs := histL (.pointer (some ⟨bs, 0, none⟩)) mx (.slice none 0 0) (.slice none 0 0) false (.slice none 0 0)) fun b w1 hb hz g hc hl => ?_
  refine ⟨g, b, by omega, rfl, fun x => C x ∧ x < W.heap.size, .pointer (some ⟨bs, 0, none⟩), .slice none 0 0, .slice none 0 0, .slice none 0 0, ?_⟩
  refine ⟨fun j v hv => by have := hc j v hv; rwa [addr0] at this, fun j hj => by have := hl j hj; rwa [addr0] at this, (hS.sub fun x hx hC => ⟨hC, hx⟩).grow g, .inl OwnR.nil, .inl OwnR.nil, SlR.nil, ⟨.inr ⟨by omega, by omega⟩, fun hx => by omega⟩, fun g hg => (nomatch hg), fun g hg => (nomatch hg), fun x hx => ⟨.inl hx, by omega⟩⟩
/-- a group more -/
theorem keep_ok {dv uu : Value} {g : Grp} (h : HistR F C W b sv ks uv rv ov mx us rs op own) (hl : us.length ≤ mx) (hmx : mx ≤ 65536) (hg : RGrp C W [dv, uu] g) :
    callK Tryz.prog 51 [.pointer (some ⟨b, 0, none⟩), .agg #[dv, uu]] (fun _ w' => ∃ F' uv', (∀ x, F' x → F x ∨ W.heap.size ≤ x ∧ x < w'.heap.size) ∧ HistR F' C w' b sv ks uv' rv ov mx (keepL mx us g) rs op own ∧ Mod F W w') W := by
  apply S51_ok
  unfold S51
  refine boxn_i (vs := [dv, uu]) fun b3 w1 hb3 hz1 g1 hc1 _ => ?_
  have gd : Grow w1 w1.drew := Mod.drew _ _
  have hR1 := h.grow (g1.trans gd)
  have hzd : w1.drew.heap.size = w1.heap.size := rfl
  have hou := h.und.ownB
  have hlt := h.lt
  refine drawC_i (fun k y => (k = 7 ∧ uv.ownBlock = some y) ∨ (k = 10 ∧ y = b)) ?_
  refine nilckK_s ?_
  rw [faK_i, addr0]
  refine sld1_i ⟨hR1.cells 3 _ rfl, fun j hj e => by
    rcases e with ⟨rfl, e⟩ | ⟨rfl, _⟩
    · exact (h.uF b e).2.2 rfl
    · exact absurd hj (by decide)⟩ ?_
  refine sldn_i (vs := [dv, uu]) rfl (fun q v hv => ⟨gd.cell (hc1 q v hv) fun h => h, fun j hj e => by
    rcases e with ⟨rfl, e⟩ | ⟨rfl, e⟩
    · rw [add_block] at e; have := hou b3 e; omega
    · rw [add_block] at e; have e' : b3 = b := e; omega⟩) ?_
  have hg1 : RGrp C w1.drew [dv, uu] g := hg.mod (g1.trans gd) fun _ _ _ h => h
  refine StkR.push elem_grp hR1.und (cs := [dv, uu]) (x := g) (by kernel_rfl) rfl hg1 (fun _ _ _ => RGrp.one) (fun w2 w3 r y hs hm hr => hr.mod hm fun x hx hC e => ?_) (by omega) (by simp only [maxLen]; omega) (fun w2 g => g.mono fun _ _ h => h.elim) fun w2 uv' w3 ho m23 m3 hn => ⟨m23.mono fun x _ e => .inl ⟨rfl, e⟩, ?_⟩
  · rcases e with e | e
    · exact (h.uF x e).2.1 hC
    · have := (h.cf x hC).2; omega
  refine nilckK_s ?_
  rw [faK_i, addr0]
  have z3 := m3.size
  have hlt3 := OwnR.ownB ho
  refine hR1.setU (F' := fun x => F x ∨ W.heap.size ≤ x ∧ x < w3.heap.size) m3 (fun _ h => h) (fun _ h => .inl h) (.inl ho) (fun g hg => by
    rcases hn g hg with e | e
    · exact .inl e
    · exact .inr ⟨e, .inr ⟨by omega, (hlt3 g hg).2⟩⟩) fun w4 hR4 m4 => ⟨m4.mono fun x _ e => .inr ⟨rfl, e⟩, ?_⟩
  have z4 := m4.size
  have mW4 : Mod F W w4 := (((g1.trans gd).mono fun _ _ h => h.elim).trans (m3.mono fun x _ e => (h.uF x e).1)).trans (m4.mono fun x _ e => by rw [e]; exact h.fb.1)
  obtain ⟨a, c, e, hcap, hcm, hp, hnone⟩ := ho.shape
  have hlen : (us ++ [g]).length = us.length + 1 := by simp
  refine drawK_i (fun W' => Grow w4 W') (Mod.drew _ _) ?_
  refine nilckK_s ?_
  rw [faK_i, addr0]
  refine qld1K_i (fun w2 g => g.cell (hR4.cells 3 _ rfl) fun h => h) ?_
  rw [e, lenK_i]
  refine nilckK_s ?_
  rw [faK_i, addr0]
  refine qld1K_i (fun w2 g => g.cell (hR4.cells 1 _ rfl) fun h => h) ?_
  rw [subK_i, hlen, wrap64 (by omega) (by omega)]
  intro w5 g5
  have hR5 := hR4.grow g5
  have mW5 : Mod F W w5 := mW4.next g5 fun _ _ h => h.elim
  rw [gtK_i]
  refine condK_p (fun hpos => ?_) fun hnp => ?_
  rotate_left
  · refine ⟨fun x => F x ∨ W.heap.size ≤ x ∧ x < w3.heap.size, uv', fun x hx => ?_, ?_, mW5⟩
    · have := g5.size
      rcases hx with hx | hx
      · exact .inl hx
      · exact .inr ⟨hx.1, by omega⟩
    · have ek : keepL mx us g = us ++ [g] := by unfold keepL; rw [if_pos (by omega)]
      rw [ek]; exact hR5
  have hmu : us.length = mx := by omega
  have e1 : ((us.length + 1 : Nat) : Int) - (mx : Int) = 1 := by omega
  rw [e1]
  cases a with
  | none => have := hnone rfl; simp at this
  | some p =>
    obtain ⟨g0, rfl, _, hg0, hob⟩ := hp p rfl
    have hok4 : OwnR 0 TGrp 2 (RGrp C) w4 uv' (us ++ [g]) := OwnR.mod ho m4 (fun y hy e => (hR4.uF y hy).2.2 e) fun r x _ hx => hx.mod m4 fun y _ hy e => h.fb.2 (e ▸ hy)
    have hok : OwnR 0 TGrp 2 (RGrp C) w5 uv' (us ++ [g]) := OwnR.mod hok4 g5 (fun _ _ h => h) fun r x _ hx => hx.mod g5 fun _ _ _ h => h
    rw [e] at hok
    have hg0b : g0 ≠ b := (hR4.uF g0 hob).2.2
    refine nilckK_s ?_
    rw [faK_i, addr0]
    refine ld1K_i (hR5.cells 3 _ rfl) ?_
    rw [e]
    refine runK_i (slice_hi_run (e := TGrp) (k := 2) (i := Tryz.t95) (j := 1) (by kernel_rfl) (by kernel_rfl) (by kernel_rfl) (by omega) w5) ?_
    obtain ⟨w8, hclr, m8, hst⟩ := clear_first hok (by omega) (hR4.uF g0 hob).2.1
    refine runK_i hclr ?_
    have gd8 : Grow w8 w8.drew := Mod.drew _ _
    have hb8 : w8.drew.cell? ⟨b, 3, none⟩ = some uv' := gd8.cell (m8.cell (hR5.cells 3 _ rfl) fun e => hg0b e.symm) fun h => h
    refine drawC_i (fun k y => k = 19 ∧ y = b) ?_
    refine nilckK_s ?_
    rw [faK_i, addr0]
    refine sld1_i ⟨hb8, fun j hj e => by obtain ⟨rfl, _⟩ := e; exact absurd hj (by decide)⟩ ?_
    refine nilckK_s ?_
    rw [faK_i, addr0]
    refine sld1_i ⟨hb8, fun j hj e => by obtain ⟨rfl, _⟩ := e; exact absurd hj (by decide)⟩ ?_
    rw [e, lenK_i]
    refine nilckK_s ?_
    rw [faK_i, addr0]
    refine sld1_i ⟨e ▸ hb8, fun j hj e => by obtain ⟨rfl, _⟩ := e; exact absurd hj (by decide)⟩ ?_
    rw [lenK_i]
    refine runK_i (slice_lhm_run (e := TGrp) (k := 2) (i := Tryz.t95) (l := 1) (by kernel_rfl) (by kernel_rfl) (by kernel_rfl) (by omega) (Nat.le_refl _) hcap w8.drew) ⟨Mod.refl _ _, ?_⟩
    refine nilckK_s ?_
    rw [faK_i, addr0]
    have hst' : StkR TGrp 2 (RGrp C) w8.drew (sliced (some ⟨g0, 0, none⟩) 1 (us ++ [g]).length (us ++ [g]).length 2) ((us ++ [g]).drop 1) := hst.mod (by decide) gd8 (fun _ _ h => h) fun r x hx => hx.mod gd8 fun _ _ _ h => h
    have hown : ∀ y, (sliced (some (⟨g0, 0, none⟩ : Addr)) 1 (us ++ [g]).length (us ++ [g]).length 2).ownBlock = some y → y = g0 := by
      intro y hy
      unfold sliced at hy
      split at hy
      · exact (Option.some.inj hy).symm
      · simp only [Option.map_some, Value.ownBlock, add_block, Option.some.injEq] at hy
        exact hy.symm
    have m58 : Mod (fun x => x = g0) w5 w8.drew := m8.next gd8 fun _ _ h => h.elim
    have z5 := g5.size
    have z8 := m58.size
    refine hR5.setU (F' := fun x => F x ∨ W.heap.size ≤ x ∧ x < w3.heap.size) m58 (fun x e => by rw [e]; exact hob) (fun _ h => h) hst' (fun y hy => .inl (by rw [hown y hy]; exact hob)) fun w9 hR9 m9 => ⟨m9.mono fun x _ e => ⟨rfl, e⟩, ?_⟩
    have z9 := m9.size
    have ek : keepL mx us g = (us ++ [g]).drop 1 := by unfold keepL; rw [if_neg (by omega)]
    rw [ek]
    refine ⟨fun x => F x ∨ W.heap.size ≤ x ∧ x < w3.heap.size, _, fun x hx => ?_, hR9, (mW5.next m58 fun x hx e => ?_).trans (m9.mono fun x _ e => by rw [e]; exact h.fb.1)⟩
    · rcases hx with hx | hx
      · exact .inl hx
      · exact .inr ⟨hx.1, by omega⟩
    · rcases (hR4.uF g0 hob).1 with hf | hf
      · rw [e]; exact hf
      · omega
end
end Go.Proofs.YtlbaopamhkmepaaGreatDoor
