/- Contract: the maker is told a retain. Conditions: the sizes; what is told lies apart from the maker. -/
import Derived.Test.YtmfplfaeibehiaaOM
namespace Go.Proofs.Ytmfplfaeibehiaa
open Go Go.K

theorem set3 (W : World) (b : Nat) (u0 u1 u2 : Value) (l : ∀ q, q < 3 → Live W ⟨b, q, none⟩) : ∀ W', W' = ((W.setCell ⟨b, 0, none⟩ u0).setCell ⟨b, 1, none⟩ u1).setCell ⟨b, 2, none⟩ u2 → Mod (fun x => x = b) W W' ∧ W'.cell? ⟨b, 0, none⟩ = some u0 ∧ W'.cell? ⟨b, 1, none⟩ = some u1 ∧ W'.cell? ⟨b, 2, none⟩ = some u2 ∧ (∀ q, q < 3 → Live W' ⟨b, q, none⟩) := by
  rintro W' rfl
  have ne : ∀ q q', q ≠ q' → (⟨b, q, none⟩ : Addr) ≠ ⟨b, q', none⟩ := fun q q' hq e => by simp only [Addr.mk.injEq] at e; omega
  have m1 := setA W b 0 u0
  have m2 := setA (W.setCell ⟨b, 0, none⟩ u0) b 1 u1
  have m3 := setA ((W.setCell ⟨b, 0, none⟩ u0).setCell ⟨b, 1, none⟩ u1) b 2 u2
  refine ⟨(m1.trans m2).trans m3, ?_, ?_, ?_, fun q hq => (((l q hq).set _ _).set _ _).set _ _⟩
  · obtain ⟨u, hu⟩ := Option.isSome_iff_exists.1 (l 0 (by decide)).1
    rw [World.cell?_setCell_other _ _ _ _ (ne 2 0 (by decide)), World.cell?_setCell_other _ _ _ _ (ne 1 0 (by decide))]
    exact World.cell?_setCell_same _ _ _ hu
  · obtain ⟨u, hu⟩ := Option.isSome_iff_exists.1 ((l 1 (by decide)).set ⟨b, 0, none⟩ u0).1
    rw [World.cell?_setCell_other _ _ _ _ (ne 2 1 (by decide))]
    exact World.cell?_setCell_same _ _ _ hu
  · obtain ⟨u, hu⟩ := Option.isSome_iff_exists.1 (((l 2 (by decide)).set ⟨b, 0, none⟩ u0).set ⟨b, 1, none⟩ u1).1
    exact World.cell?_setCell_same _ _ _ hu
def lastPat (d : List Dop) (p : List Chg) : Bool := match d.getLast? with | some o => decide (o.kind = 1 ∧ o.patch = p) | none => false
theorem retain_ok {F S : Nat → Prop} {w : World} {b : Nat} {s : MkS} {n : Int} {pv : Value} {p : List Chg} (h : MkI F w b s) (h1 : RPat S w pv p) (hS : ∀ x, S x → ¬ F x)
    (hb1 : s.done.length + s.ins.length + 2 ≤ 1099511627776) (hb2 : p.length * 56 ≤ 140737488355328) :
    callK Try.prog 40 [.pointer (some ⟨b, 0, none⟩), .int .i64 n, pv] (fun _ w' => MkI (fun x => F x ∨ w.heap.size ≤ x) w' b (retS s n p) ∧ Mod F w w') w := by
  apply S40_ok
  unfold S40
  have hI := h
  have hb3 : (s.ins.length + 1) * 88 ≤ 140737488355328 := by omega
  obtain ⟨dv, iv, C, hot, h⟩ := h
  refine JoinK_i (fun vs w1 => w1 = w ∧ ¬ n < 1) ?_ ?_
  rotate_left
  · rw [pnilK_i]
    simp only [Option.isNone_some]
    rw [condK_b, if_neg (by simp), ltK_i]
    refine condK_p (fun e => ?_) fun e => ⟨trivial, e⟩
    exact ⟨by rw [retS, if_pos e]; exact hI.sub fun x hx => .inl hx, Mod.refl _ _⟩
  rintro vs _ ⟨rfl, hn⟩ _
  rename World => w
  have key : retS s n p = ⟨putS (s.done ++ gapL s.ins s.gone) n p, [], 0⟩ := by rw [retS, if_neg hn]
  rw [key]
  have gl : (gapL s.ins s.gone).length ≤ s.ins.length + 1 := by unfold gapL; split <;> simp
  have gd : Grow w w.drew := Mod.drew _ _
  have h' := h.grow gd
  have zd : w.drew.heap.size = w.heap.size := rfl
  have h1' : RPat (fun x => S x ∧ x < w.heap.size) w.drew pv p := (h1.old (by decide)).grow gd (by decide) fun _ _ h => h
  have hbl : b < w.drew.heap.size := World.block_lt_of_cell? w.drew ⟨b, 0, none⟩ h'.c0
  have hdv : ∀ x, dv.ownBlock = some x → x < w.drew.heap.size := fun x hx => (OwnR.ownB h'.done x hx).2
  have hhot : ∀ x, hot = some x → F x ∧ ¬ C x ∧ x ≠ b ∧ dv.ownBlock ≠ some x ∧ x < w.drew.heap.size := by
    intro x hx
    rcases h'.ins with ⟨_, _, e⟩ | ⟨g, c, hh, e1, e2, e3, e4, e5, e6, e7, e8, e9, e10, e11, e12, e13, _⟩
    · rw [e] at hx; cases hx
    · rw [e2] at hx; cases hx; exact ⟨e8, e9, e10, e12, e13⟩
  rw [← zd]
  generalize w.drew = w4 at gd h' zd h1' hbl hdv hhot ⊢
  have dvb : dv.ownBlock ≠ some b := fun e => (h'.dF b e).2.2 rfl
  let C1 : Nat → Prop := fun x => (C x ∨ hot = some x) ∧ x < w4.heap.size
  have C1b : ¬ C1 b := by
    rintro ⟨hx | hx, _⟩
    · exact h'.nb hx
    · exact (hhot b hx).2.2.1 rfl
  have C1d : ∀ x, dv.ownBlock = some x → ¬ C1 x := by
    rintro x hx ⟨hc | hc, _⟩
    · exact (h'.dF x hx).2.1 hc
    · exact (hhot x hc).2.2.2.1 hx
  have C1F : ∀ x, C1 x → F x := by
    rintro x ⟨hc | hc, _⟩
    · exact (h'.cf x hc).1
    · exact (hhot x hc).1
  refine drawC_i (fun k x => (k = 7 ∧ dv.ownBlock = some x) ∨ (k = 10 ∧ x = b)) ?_
  rw [nilckK_i, faK_i, addr0]
  refine sld1_i ⟨h'.c0, fun j hj e => by rcases e with ⟨_, e⟩ | ⟨rfl, _⟩; exact dvb e; exact absurd hj (by decide)⟩ ?_
  refine callK_mono (gap_ok h' hb3) ?_
  rintro v5 w5 ⟨o5, g5⟩
  refine ⟨Grow.mod g5, ?_⟩
  have h5 := h'.grow g5
  have z5 := g5.size
  have d5 : OwnR 0 TOp 5 (RDop C1) w5 dv s.done := OwnR.mod h5.done (Mod.refl (fun _ => False) _) (fun _ _ h => h) fun r x _ hx => hx.mod (Mod.refl (fun _ => False) _) (fun _ _ _ h => h) fun y _ hy => ⟨.inl hy, (h'.cf y hy).2⟩
  obtain ⟨v6, w6, r1, o6, r3, r4⟩ := OwnR.append (ty := 50) elem_dop d5 (OwnR.sl o5) (fun _ _ => RDop.one) (by omega) (Nat.zero_le _) (by simp only [maxLen]; omega) fun w' hg r y hy => hy.mod (Mod.of_grownBy hg) (fun x _ hx e => C1d x e hx) fun _ _ h => h
  have m56 : Mod (fun x => dv.ownBlock = some x) w5 w6 := Mod.of_grownBy r3
  refine runK_i r1 ⟨m56.mono fun x _ e => .inl ⟨rfl, e⟩, ?_⟩
  have z6 := m56.size
  have hv6 := OwnR.one o6
  have l6 : ∀ q, q < 3 → Live w6 ⟨b, q, none⟩ := fun q hq => (h5.lv q hq).mod m56 dvb
  have own6 : ∀ x, v6.ownBlock = some x → dv.ownBlock = some x ∨ w4.heap.size ≤ x := fun x hx => by rcases r4 x hx with h | h; exact .inl h; exact .inr (by omega)
  rw [nilckK_i, faK_i, addr0]
  refine (l6 0 (by decide)).st hv6.1 hv6.2 ⟨Mod.setCell _ _ _ (.inr ⟨rfl, rfl⟩), ?_⟩
  rw [nilckK_i, faK_i, addr0]
  refine ((l6 1 (by decide)).set _ _).st rfl rfl ?_
  rw [nilckK_i, faK_i, addr0]
  refine (((l6 2 (by decide)).set _ _).set _ _).st rfl rfl ?_
  generalize hW7 : ((w6.setCell ⟨b, 0, none⟩ v6).setCell ⟨b, 1, none⟩ (.slice none 0 0)).setCell ⟨b, 2, none⟩ (.int .i64 0) = w7
  obtain ⟨m67, cell0, cell1, cell2, l7⟩ := set3 w6 b v6 (.slice none 0 0) (.int .i64 0) l6 w7 hW7.symm
  clear hW7
  have z7 := m67.size
  let F1 : Nat → Prop := fun x => F x ∨ w4.heap.size ≤ x
  have v6b : v6.ownBlock ≠ some b := fun e => by rcases own6 b e with h | h; exact dvb h; omega
  have d7 : OwnR 0 TOp 5 (RDop C1) w7 v6 (s.done ++ gapL s.ins s.gone) := OwnR.mod o6 m67 (fun x hx e => v6b (e ▸ hx)) fun r x _ hx => hx.cmod m67 fun y hy e => C1b (e ▸ hy)
  have K7 : MkR F1 w7 b ⟨s.done ++ gapL s.ins s.gone, [], 0⟩ v6 (.slice none 0 0) C1 none := by
    refine ⟨cell0, cell1, cell2, l7, .inl h'.fb, C1b, fun x hx => ⟨.inl (C1F x hx), by have := hx.2; omega⟩, d7, fun x hx => ⟨?_, ?_, fun e => v6b (e ▸ hx)⟩, .inl ⟨rfl, rfl, rfl⟩⟩
    · rcases own6 x hx with h | h
      · exact .inl (h'.dF x h).1
      · exact .inr h
    · intro hc
      rcases own6 x hx with h | h
      · exact C1d x h hc
      · have := hc.2; omega
  have m47 : Mod F w4 w7 := ((Grow.mod g5).trans (m56.mono fun x _ e => (h'.dF x e).1)).trans (m67.mono fun x _ e => by rw [e]; exact h'.fb)
  have m07 : Mod F w w7 := (Grow.mod gd).trans m47
  have p7 : RPat (fun x => S x ∧ x < w.heap.size) w7 pv p := h1'.mono (fun _ _ h => h) (fun x hb hx => m47.same x hb (hS x hx.1)) (by decide) fun _ _ h => h
  have dlen : (s.done ++ gapL s.ins s.gone).length ≤ s.done.length + s.ins.length + 1 := by simp; omega
  generalize hD : s.done ++ gapL s.ins s.gone = D at K7 d7 dlen ⊢
  clear o6 r1 r3 r4 own6 cell0 cell1 cell2 l6 m56 m67 o5 h5 d5
  obtain ⟨va, vc, rfl, _, _, hvp, hvn⟩ := OwnR.shape d7
  rw [nilckK_i, faK_i, addr0]
  refine ld1K_i K7.c0 ?_
  rw [lenK_i, subK_i, wrap64 (by omega) (by omega)]
  refine JoinK_i (fun vs w8 => vs = [.bool (lastPat D p)] ∧ Grow w7 w8) ?_ ?_
  rotate_left
  · rw [geK_i]
    refine condK_p (fun hge => ?_) fun hge => ?_
    · have hip : 0 < D.length := by omega
      have hlt : D.length - 1 < D.length := by omega
      rw [show ((D.length : Int) - 1) = ((D.length - 1 : Nat) : Int) by omega]
      rw [nilckK_i, faK_i, addr0]
      refine ld1K_i K7.c0 ?_
      obtain ⟨q, r, rfl, _, hr, hc, rv, sv', pv', rfl, q1, q2, q3⟩ := (OwnR.sl d7).get hlt
      refine ixK_n hlt ?_
      rw [faK_i, Addr.add_add]
      refine ld1K_i (hc 0 _ rfl) ?_
      rw [eqK_i]
      refine condK_p (fun hk => ?_) fun hk => ⟨by rw [lastPat, getLast_get hip]; simp [hk], Mod.refl _ _⟩
      rw [nilckK_i, faK_i, addr0]
      refine ld1K_i K7.c0 ?_
      refine ixK_n hlt ?_
      rw [faK_i, Addr.add_add]
      refine ld1K_i (hc 4 _ rfl) ?_
      refine callK_mono (same_pat q3 p7) ?_
      rintro v1 w8 ⟨rfl, g8⟩
      exact ⟨by rw [lastPat, getLast_get hip]; simp [hk], g8⟩
    · have : D = [] := List.eq_nil_of_length_eq_zero (by omega)
      exact ⟨by rw [lastPat, this]; rfl, Mod.refl _ _⟩
  rintro vs w8 ⟨rfl, g8⟩ _
  rw [nth_z, List.headD_cons]
  have K8 := K7.grow g8
  have z8 := g8.size
  have d8 : OwnR 0 TOp 5 (RDop C1) w8 (.slice va D.length vc) D := K8.done
  have p8 : RPat (fun x => S x ∧ x < w.heap.size) w8 pv p := p7.grow g8 (by decide) fun _ _ h => h
  have m08 : Mod F w w8 := m07.trans (Grow.mod g8)
  have vb : (Value.slice va D.length vc).ownBlock ≠ some b := fun e => (K8.dF b e).2.2 rfl
  cases hls : lastPat D p with
  | true =>
    rw [condK_b, if_pos rfl]
    have hip : 0 < D.length := by
      cases hn : D with
      | nil => rw [lastPat, hn] at hls; cases hls
      | cons a l => simp
    have hlt : D.length - 1 < D.length := by omega
    rw [lastPat, getLast_get hip] at hls
    simp only [decide_eq_true_eq] at hls
    rw [show ((D.length : Int) - 1) = ((D.length - 1 : Nat) : Int) by omega]
    cases va with
    | none => rw [hvn rfl] at hip; simp at hip
    | some vp =>
    obtain ⟨g7, rfl, _, hg7, _⟩ := hvp _ rfl
    rw [nilckK_i, faK_i, addr0]
    refine ld1K_i K8.c0 ?_
    obtain ⟨q, r, e, _, hr, hc, rv, sv', pv', rfl, q1, q2, q3⟩ := (OwnR.sl d8).get hlt
    cases e
    refine ixK_n hlt ?_
    rw [faK_i, Addr.add_add]
    refine ld1K_i (hc 1 _ rfl) ?_
    rw [addK_i]
    refine ixK_n hlt ?_
    rw [faK_i, Addr.add_add]
    obtain ⟨g7F, g7C, g7b⟩ := K8.dF g7 rfl
    obtain ⟨⟨u, hu⟩, hf, ho, hm⟩ := OwnR.store (R' := RDop C1) (u := .int .i64 (IntKind.i64.wrap (D[D.length - 1].n + n))) (x' := ⟨D[D.length - 1].kind, IntKind.i64.wrap (D[D.length - 1].n + n), D[D.length - 1].runes, D[D.length - 1].set, D[D.length - 1].patch⟩) d8 hlt (show 1 < 5 by decide) rfl
      (fun r y _ hy => hy.mod (Mod.setCell (M := fun x => x = g7) _ _ _ (by rw [addr0])) (fun x _ hx e => g7C (e ▸ hx)) fun _ _ h => h)
      (fun r hy => by
        obtain ⟨rv, sv', pv', rfl, p1, p2, p3⟩ := hy.mod (D' := C1) (Mod.setCell (M := fun x => x = g7) w8 ((⟨g7, 0, none⟩ : Addr).add ((D.length - 1) * 5 + 1)) (.int .i64 (IntKind.i64.wrap (D[D.length - 1].n + n))) (by rw [addr0])) (fun x _ hx e => g7C (e ▸ hx)) fun _ _ h => h
        exact ⟨rv, sv', pv', rfl, p1, p2, p3⟩)
    refine st1K_i rfl rfl hu hf ?_
    have eput : putS D n p = D.set (D.length - 1) ⟨D[D.length - 1].kind, IntKind.i64.wrap (D[D.length - 1].n + n), D[D.length - 1].runes, D[D.length - 1].set, D[D.length - 1].patch⟩ := by
      unfold putS
      rw [getLast_get hip]
      simp only [hls, and_self, if_true]
    have hm' : Mod (fun x => x = g7) w8 (w8.setCell ((⟨g7, 0, none⟩ : Addr).add ((D.length - 1) * 5 + 1)) (.int .i64 (IntKind.i64.wrap (D[D.length - 1].n + n)))) := hm
    refine ⟨⟨_, _, C1, none, hm'.cell K8.c0 (fun e => g7b e.symm), hm'.cell K8.c1 (fun e => g7b e.symm), hm'.cell K8.c2 (fun e => g7b e.symm), fun q hq => (K8.lv q hq).mod hm' (fun e => g7b e.symm), K8.fb, K8.nb, fun x hx => ⟨(K8.cf x hx).1, Nat.lt_of_lt_of_le (K8.cf x hx).2 hm'.size⟩, by rw [eput]; exact ho, K8.dF, .inl ⟨rfl, rfl, rfl⟩⟩, ?_⟩
    refine m08.next hm' fun x hx e => ?_
    subst e
    rcases g7F with h | h
    · exact h
    · omega
  | false =>
    rw [condK_b, if_neg (by simp)]
    have gd8 : Grow w8 w8.drew := Mod.drew _ _
    have K9 := K8.grow gd8
    have zd8 : w8.drew.heap.size = w8.heap.size := rfl
    have p9 : RPat (fun x => S x ∧ x < w.heap.size) w8.drew pv p := p8.grow gd8 (by decide) fun _ _ h => h
    have m09 : Mod F w w8.drew := m08.trans (Grow.mod gd8)
    generalize w8.drew = w9 at gd8 K9 zd8 p9 m09 ⊢
    refine drawC_i (fun k x => (k = 10 ∧ (Value.slice va D.length vc).ownBlock = some x) ∨ (k = 13 ∧ x = b)) ?_
    rw [nilckK_i, faK_i, addr0]
    refine sld1_i ⟨K9.c0, fun j hj e => by rcases e with ⟨_, e⟩ | ⟨rfl, _⟩; exact vb e; exact absurd hj (by decide)⟩ ?_
    refine callK_mono (copy_pat p9 hb2) ?_
    rintro t1 w10 ⟨n1, g10⟩
    refine ⟨Grow.mod g10, ?_⟩
    have K10 := K9.grow g10
    have z10 := g10.size
    obtain ⟨sa1, sc1, hsv1, _⟩ := OwnR.shape n1
    refine ⟨#[.int .u8 1, .int .i64 n, .slice none 0 0, .slice none 0 0, t1], by subst hsv1; kernel_rfl, ?_⟩
    let C2 : Nat → Prop := fun x => C1 x ∨ t1.ownBlock = some x
    have n1b : ∀ x, t1.ownBlock = some x → w9.heap.size ≤ x ∧ x < w10.heap.size := fun x hx => OwnR.ownB n1 x hx
    have hvl : ∀ x, (Value.slice va D.length vc).ownBlock = some x → x < w8.heap.size := fun x hx => (OwnR.ownB d8 x hx).2
    have C2v : ∀ x, (Value.slice va D.length vc).ownBlock = some x → ¬ C2 x := by
      rintro x hx (hc | hc)
      · exact (K8.dF x hx).2.1 hc
      · have := n1b x hc; have := hvl x hx; omega
    have C2b : ¬ C2 b := by
      rintro (hc | hc)
      · exact C1b hc
      · have := n1b b hc; omega
    have d10 : OwnR 0 TOp 5 (RDop C2) w10 (.slice va D.length vc) D := OwnR.mod K10.done (Mod.refl (fun _ => False) _) (fun _ _ h => h) fun r x _ hx => hx.mod (Mod.refl (fun _ => False) _) (fun _ _ _ h => h) fun y _ hy => .inl hy
    have eput : putS D n p = D ++ [⟨1, n, [], [], p⟩] := by
      unfold putS
      unfold lastPat at hls
      cases hl : D.getLast? with
      | none => rfl
      | some o => rw [hl] at hls; simp only [decide_eq_false_iff_not] at hls; simp only; rw [if_neg hls]
    refine push_g2 elem_dop d10 (Nat.zero_le _) (cs := row5 ⟨1, n, [], [], p⟩ (.slice none 0 0) (.slice none 0 0) t1) (x := ⟨1, n, [], [], p⟩) (by subst hsv1; kernel_rfl) rfl ⟨_, _, _, rfl, SlR.nil, SlR.nil, SlR.sub (OwnR.sl n1) (fun x _ hx => .inr hx.2) (by decide) fun _ _ h => h⟩ (fun _ _ _ => RDop.one) ?_ (by omega) (by simp only [maxLen]; omega) (fun _ g => Grow.mod g) fun w10' v' w11 o11 m10' m11 f11 => ?_
    · intro W1 W2 r y hz hm hy
      refine hy.mod hm (fun x _ hx e => ?_) fun _ _ h => h
      rcases e with e | e
      · exact C2v x e hx
      · rcases hx with hc | hc
        · have := hc.2; omega
        · have := n1b x hc; omega
    refine ⟨m10'.mono fun x _ e => .inl ⟨rfl, e⟩, ?_⟩
    have z11 := m11.size
    have hv11 := OwnR.one o11
    rw [nilckK_i, faK_i, addr0]
    have l11 : ∀ q, q < 3 → Live w11 ⟨b, q, none⟩ := fun q hq => (K10.lv q hq).mod m11 vb
    refine (l11 0 (by decide)).st hv11.1 hv11.2 ⟨Mod.setCell _ _ _ (.inr ⟨rfl, rfl⟩), ?_⟩
    have m12 := setA w11 b 0 v'
    have ne : ∀ q, q ≠ 0 → (⟨b, 0, none⟩ : Addr) ≠ ⟨b, q, none⟩ := fun q hq e => by simp only [Addr.mk.injEq] at e; omega
    obtain ⟨u, hu⟩ := Option.isSome_iff_exists.1 (l11 0 (by decide)).1
    have v'b : v'.ownBlock ≠ some b := fun e => by rcases f11 b e with h | h; exact vb h; omega
    have lv12 : ∀ q, q < 3 → Live (w11.setCell ⟨b, 0, none⟩ v') ⟨b, q, none⟩ := fun q hq => (l11 q hq).set _ _
    have c12 := World.cell?_setCell_same w11 ⟨b, 0, none⟩ v' hu
    have co : ∀ q u, q ≠ 0 → w10.cell? ⟨b, q, none⟩ = some u → (w11.setCell ⟨b, 0, none⟩ v').cell? ⟨b, q, none⟩ = some u := fun q u hq hu => (World.cell?_setCell_other _ _ _ _ (ne q hq)).trans (m11.cell hu vb)
    generalize w11.setCell ⟨b, 0, none⟩ v' = W at m12 lv12 c12 co ⊢
    have z12 := m12.size
    refine ⟨⟨v', _, C2, none, c12, co 1 _ (by decide) K10.c1, co 2 _ (by decide) K10.c2, lv12, .inl h'.fb, C2b, fun x hx => ?_, ?_, fun x hx => ?_, .inl ⟨rfl, rfl, rfl⟩⟩, ?_⟩
    · rcases hx with hc | hc
      · exact ⟨.inl (C1F x hc), by have := hc.2; omega⟩
      · have := n1b x hc; exact ⟨.inr (by omega), by omega⟩
    · rw [eput]
      exact OwnR.mod o11 m12 (fun x hx e => v'b (e ▸ hx)) fun r x _ hx => hx.cmod m12 fun y hy e => C2b (e ▸ hy)
    · rcases f11 x hx with h | h
      · exact ⟨(K8.dF x h).1, C2v x h, (K8.dF x h).2.2⟩
      · refine ⟨.inr (by omega), ?_, fun e => v'b (e ▸ hx)⟩
        rintro (hc | hc)
        · have := hc.2; omega
        · have := n1b x hc; omega
    · refine ((m09.trans (Grow.mod g10)).next m11 fun x hx e => ?_).next m12 fun x _ e => by rw [e]; exact h'.fb
      rcases (K8.dF x e).1 with h | h
      · exact h
      · omega
end Go.Proofs.Ytmfplfaeibehiaa
