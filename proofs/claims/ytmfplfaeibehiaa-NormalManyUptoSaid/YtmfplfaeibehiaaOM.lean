/- Contract: the maker is told an insert. Conditions: the sizes; what is told lies apart from the maker. -/
import Derived.Test.YtmfplfaeibehiaaOL
namespace Go.K
open Go
theorem OwnR.len {α β : Type} {B e k : Nat} {R : World → List Value → α → Prop} {w : World} {v : Value} {l : List α} (h : OwnR B e k R w v l) (l' : List β) (hl : l'.length = l.length) : OwnR B e k (fun _ _ (_ : β) => True) w v l' := by
  obtain ⟨rows, h1, h2, h3, _⟩ := h
  exact ⟨rows, by rw [hl]; exact h1, by rw [hl]; exact h2, h3, fun _ _ _ _ _ => trivial⟩
end Go.K
namespace Go.Proofs.Ytmfplfaeibehiaa
open Go Go.K

def lastSet (ins : List Dop) (set : List Attr) : Bool := match ins.getLast? with | some o => decide (o.set = set) | none => false
theorem getLast_get {l : List Dop} (h : 0 < l.length) : l.getLast? = some l[l.length - 1] := by
  rw [List.getLast?_eq_getElem?]; simp [show l.length - 1 < l.length by omega]
theorem insert_ok {F S : Nat → Prop} {w : World} {b : Nat} {s : MkS} {lv sv : Value} {rs : List Int} {set : List Attr} (h : MkI F w b s) (h1 : RRun S w lv rs) (h2 : RSet S w sv set) (hS : ∀ x, S x → ¬ F x)
    (hb1 : (s.ins.length + 1) * 88 ≤ 140737488355328) (hb2 : ∀ o ∈ s.ins, (o.runes.length + rs.length) * 4 ≤ 140737488355328) (hb3 : rs.length * 4 ≤ 140737488355328) (hb4 : set.length * 48 ≤ 140737488355328) :
    callK Try.prog 41 [.pointer (some ⟨b, 0, none⟩), lv, sv] (fun _ w' => MkI (fun x => F x ∨ w.heap.size ≤ x) w' b (insS s rs set) ∧ Mod F w w') w := by
  apply S41_ok
  unfold S41
  have hI := h
  obtain ⟨dv, iv, C, hot, h⟩ := h
  obtain ⟨pl, cl, rfl, ml⟩ := h1.shape
  have shI : ∃ ga gc, iv = .slice ga s.ins.length gc := by
    rcases h.ins with ⟨e1, e2, _⟩ | ⟨g, c, hh, e1, _⟩
    · exact ⟨none, 0, by rw [e1, e2]; rfl⟩
    · exact ⟨_, c, e1⟩
  obtain ⟨ga, gc, rfl⟩ := shI
  refine JoinK_i (fun vs w1 => w1 = w ∧ rs ≠ []) ?_ ?_
  rotate_left
  · rw [pnilK_i]
    simp only [Option.isNone_some]
    rw [condK_b, if_neg (by simp), lenK_i, eqK_i]
    refine condK_p (fun e => ?_) fun e => ⟨trivial, fun h => e (len0.2 h)⟩
    have := len0.1 e
    subst this
    exact ⟨by rw [insS, if_pos rfl]; exact hI.sub fun x hx => .inl hx, Mod.refl _ _⟩
  rintro vs _ ⟨rfl, hne⟩ _
  rename World => w
  have hpos : 0 < rs.length := List.length_pos_iff.2 hne
  rw [nilckK_i, faK_i, addr0]
  refine ld1K_i h.c1 ?_
  rw [lenK_i, subK_i]
  have hwl : s.ins.length * 88 ≤ 140737488355328 := by omega
  rw [wrap64 (by omega) (by omega)]
  have key : insS s rs set = ⟨s.done, addI s.ins rs set, s.gone⟩ := by rw [insS, if_neg hne]
  rw [key]
  refine JoinK_i (fun vs w1 => vs = [.bool (lastSet s.ins set)] ∧ Grow w w1) ?_ ?_
  rotate_left
  · rw [geK_i]
    refine condK_p (fun hge => ?_) fun hge => ?_
    · have hip : 0 < s.ins.length := by omega
      rw [nilckK_i, faK_i, addr0]
      refine ld1K_i h.c1 ?_
      have hlt : s.ins.length - 1 < s.ins.length := by omega
      rw [show ((s.ins.length : Int) - 1) = ((s.ins.length - 1 : Nat) : Int) by omega]
      obtain ⟨p, r, rfl, _, hr, hc, rv, sv', pv, rfl, q1, q2, q3⟩ := h.insRd.get hlt
      refine ixK_n hlt ?_
      rw [faK_i, Addr.add_add]
      refine ld1K_i (hc 3 _ rfl) ?_
      refine callK_mono (same_set q2 h2) ?_
      rintro v1 w1 ⟨rfl, g1⟩
      exact ⟨by rw [lastSet, getLast_get hip], g1⟩
    · have : s.ins = [] := List.eq_nil_of_length_eq_zero (by omega)
      exact ⟨by rw [lastSet, this]; rfl, Mod.refl _ _⟩
  rintro vs w3 ⟨rfl, g3⟩ _
  rw [nth_z, List.headD_cons]
  have gd : Grow w w3.drew := g3.trans (Mod.drew _ _)
  have h' := h.grow gd
  have zd := gd.size
  have h1' : RRun (fun x => S x ∧ x < w.heap.size) w3.drew (.slice pl rs.length cl) rs := (h1.old (by decide)).grow gd (by decide) fun _ _ h => h
  have h2' : RSet (fun x => S x ∧ x < w.heap.size) w3.drew sv set := (h2.old (by decide)).grow gd (by decide) fun _ _ h => h
  generalize w3.drew = w4 at gd h' zd h1' h2' ⊢
  cases hls : lastSet s.ins set with
  | true =>
    rw [condK_b, if_pos rfl]
    have hip : 0 < s.ins.length := by
      cases hn : s.ins with
      | nil => rw [lastSet, hn] at hls; cases hls
      | cons a l => simp
    have hlt : s.ins.length - 1 < s.ins.length := by omega
    rcases h'.ins with ⟨e1, _⟩ | ⟨g, c, hh, e1, e2, e3, e4, e5, e6, e7, e8, e9, e10, e11, e12, e13, e14⟩
    · rw [e1] at hip; simp at hip
    simp only [Value.slice.injEq, true_and] at e1
    obtain ⟨rfl, rfl⟩ := e1
    obtain ⟨rv, sv', pv, at1, _, ho, _⟩ := e14.2 _ hlt
    obtain ⟨o1, o2, o3, o4⟩ := ho (by omega)
    have hset : s.ins[s.ins.length - 1].set = set := by
      rw [lastSet, getLast_get hip] at hls
      simpa using hls
    rw [show ((s.ins.length : Int) - 1) = ((s.ins.length - 1 : Nat) : Int) by omega]
    refine drawC_i (fun k x => (k = 14 ∧ x = hh) ∨ (k = 17 ∧ x = g)) ?_
    rw [nilckK_i, faK_i, addr0]
    refine sld1_i ⟨h'.c1, fun j _ e => by rcases e with ⟨_, e⟩ | ⟨_, e⟩; exact e10 e.symm; exact e6 e.symm⟩ ?_
    rw [nilckK_i, faK_i, addr0]
    refine sld1_i ⟨h'.c1, fun j _ e => by rcases e with ⟨_, e⟩ | ⟨_, e⟩; exact e10 e.symm; exact e6 e.symm⟩ ?_
    refine ixK_n hlt ?_
    rw [faK_i, Addr.add_add, addr0]
    refine sld1_i ⟨at1 2 _ rfl, fun j hj e => by rcases e with ⟨rfl, e⟩ | ⟨rfl, e⟩; exact e11 e.symm; exact absurd hj (by decide)⟩ ?_
    have hb2' := hb2 s.ins[s.ins.length - 1] (by simp)
    obtain ⟨v', w5, r1, r2, r3, r4⟩ := OwnR.append (ty := 56) elem_rune o1 h1' (fun _ _ => RRune.one) hb2' (Nat.zero_le _) (by simp only [maxLen]; omega) fun _ _ _ _ h => h
    refine runK_i r1 ⟨(Mod.of_grownBy r3).mono fun x _ e => by rw [o2] at e; cases e; exact .inl ⟨rfl, rfl⟩, ?_⟩
    have m45 : Mod (fun x => x = hh) w4 w5 := (Mod.of_grownBy r3).mono fun x _ e => by rw [o2] at e; cases e; rfl
    have hv1 := OwnR.one r2
    have shv : ∃ h2, v'.ownBlock = some h2 ∧ h2 < w5.heap.size := by
      obtain ⟨a, c', rfl, _, _, hp, hn⟩ := OwnR.shape r2
      cases a with
      | none => have := hn rfl; simp at this; exact (hne this.2).elim
      | some p => obtain ⟨g', rfl, q1, q2, q3⟩ := hp p rfl; exact ⟨g', q3, q2⟩
    obtain ⟨h2n, hv2, hv3⟩ := shv
    have hv4 := r4 h2n hv2
    have zz := m45.size
    have hgs : g < w4.heap.size := by
      have := OwnR.ownB e3 g rfl; exact this.2
    have hdv : ∀ x, dv.ownBlock = some x → x < w4.heap.size := fun x hx => (OwnR.ownB h'.done x hx).2
    have live5 : Live w5 ⟨g, (s.ins.length - 1) * 5 + 2, none⟩ := by
      obtain ⟨_, _, _, _, hl⟩ := OwnR.cellsOf e3 hlt
      exact (hl 2 (by decide)).mod m45 fun e => e11 e.symm
    refine ixK_n hlt ?_
    rw [faK_i, Addr.add_add, addr0]
    refine live5.st hv1.1 hv1.2 ⟨Mod.setCell _ _ _ (.inr ⟨rfl, rfl⟩), ?_⟩
    have m56 := setA w5 g ((s.ins.length - 1) * 5 + 2) v'
    have hnew : ∀ x, h2n = x → x = hh ∨ w4.heap.size ≤ x := by
      rintro x rfl
      rcases hv4 with e | e
      · rw [o2] at e; cases e; exact .inl rfl
      · exact .inr e
    -- the new block's place
    have nC : ¬ C h2n := fun hx => by rcases hnew _ rfl with e | e; exact e9 (e ▸ hx); have := (h'.cf _ hx).2; omega
    have nb2 : h2n ≠ b := fun e => by
      have hbl : b < w4.heap.size := World.block_lt_of_cell? w4 ⟨b, 0, none⟩ h'.c0
      rcases hnew _ rfl with e' | e'
      · exact e10 (e'.symm.trans e)
      · omega
    have ng2 : h2n ≠ g := fun e => by
      rcases hnew _ rfl with e' | e'
      · exact e11 (e'.symm.trans e)
      · omega
    have nd2 : dv.ownBlock ≠ some h2n := fun e => by
      have := hdv _ e
      rcases hnew _ rfl with e' | e'
      · rw [e'] at e; exact e12 e
      · omega
    have mm : Mod (fun x => x = hh ∨ x = g) w4 (w5.setCell ⟨g, (s.ins.length - 1) * 5 + 2, none⟩ v') := (m45.mono fun _ _ e => .inl e).trans (m56.mono fun _ _ e => .inr e)
    have hbne : ¬ (b = hh ∨ b = g) := by rintro (e | e); exact e10 e.symm; exact e6 e.symm
    have hCne : ∀ x, C x → ¬ (x = hh ∨ x = g) := by rintro x hx (rfl | rfl); exact e9 hx; exact e5 hx
    have r2' : OwnR 0 21 1 RRune (w5.setCell ⟨g, (s.ins.length - 1) * 5 + 2, none⟩ v') v' (s.ins[s.ins.length - 1].runes ++ rs) := OwnR.mod r2 m56 (fun x hx e => by rw [hv2] at hx; cases hx; exact ng2 e) fun _ _ _ h => h
    have eadd : addI s.ins rs set = s.ins.set (s.ins.length - 1) ⟨s.ins[s.ins.length - 1].kind, s.ins[s.ins.length - 1].n, s.ins[s.ins.length - 1].runes ++ rs, s.ins[s.ins.length - 1].set, s.ins[s.ins.length - 1].patch⟩ := by
      unfold addI
      rw [getLast_get hip]
      simp only [hset, if_true]
    have oA := OwnR.setAny (OwnR.mod e3 m45 (fun x hx e => by simp only [Value.ownBlock, Option.some.injEq] at hx; exact e11 (e.symm.trans hx.symm)) fun _ _ _ _ => trivial) hlt (show 2 < 5 by decide) hv1.1
    refine ⟨⟨dv, _, C, some h2n, mm.cell h'.c0 hbne, mm.cell h'.c1 hbne, mm.cell h'.c2 hbne, fun q hq => (h'.lv q hq).mod mm hbne, .inl h'.fb, h'.nb, fun x hx => ⟨.inl (h'.cf x hx).1, Nat.lt_of_lt_of_le (h'.cf x hx).2 mm.size⟩,
      OwnR.mod h'.done mm (fun x hx e => by rcases e with rfl | rfl; exact e12 hx; exact e7 hx) fun r x _ hx => hx.cmod mm hCne, fun x hx => ⟨.inl (h'.dF x hx).1, (h'.dF x hx).2⟩, .inr ⟨g, gc, h2n, ?_, rfl, ?_, .inl e4, e5, e6, e7, ?_, nC, nb2, ng2, nd2, ?_, ?_⟩⟩, ?_⟩
    · rw [eadd, List.length_set]
    · exact OwnR.len oA _ (by rw [eadd, List.length_set])
    · rcases hnew _ rfl with e | e
      · exact .inl (e ▸ e8)
      · exact .inr (by omega)
    · rw [World.size_setCell]; exact hv3
    · rw [eadd]
      refine ⟨by rw [List.length_set]; exact hip, fun j hj => ?_⟩
      rw [List.length_set] at hj
      obtain ⟨rv', sv2, pv2, a1, a2, a3, a4⟩ := e14.2 j hj
      by_cases hjl : j = s.ins.length - 1
      · subst hjl
        have hrow : OpAt w5 g (s.ins.length - 1) s.ins[s.ins.length - 1] rv sv' pv := at1.mod m45 fun e => e11 e.symm
        refine ⟨v', sv', pv, fun q u hu => ?_, ?_, fun _ => ?_, fun e => by rw [List.length_set] at e; omega⟩
        · rw [List.getElem_set_self] at hu
          have hq := (List.getElem?_eq_some_iff.1 hu).1
          simp only [List.length_cons, List.length_nil] at hq
          by_cases h2q : q = 2
          · subst h2q
            simp only [List.getElem?_cons_succ, List.getElem?_cons_zero, Option.some.injEq] at hu; subst hu
            obtain ⟨u', hu'⟩ := Option.isSome_iff_exists.1 live5.1
            exact World.cell?_setCell_same _ _ _ hu'
          · rw [World.cell?_setCell_other _ _ _ _ (by intro e; simp only [Addr.mk.injEq] at e; omega)]
            refine hrow q u ?_
            rw [← hu]
            match q, hq, h2q with
            | 0, _, _ => rfl
            | 1, _, _ => rfl
            | 3, _, _ => rfl
            | 4, _, _ => rfl
        · rw [List.getElem_set_self]
          refine ⟨v', sv', pv, rfl, ?_, ?_, ?_⟩
          · exact own_rd (by decide) ⟨r2', fun x hx => .inr (by rw [hv2] at hx; exact (Option.some.inj hx).symm)⟩
          · exact o3.mono (fun _ _ hx => .inl hx) (fun x hb hx => mm.same x hb (hCne x hx)) (by decide) fun _ _ h => h
          · exact o4.mono (fun _ _ hx => .inl hx) (fun x hb hx => mm.same x hb (hCne x hx)) (by decide) fun _ _ h => h
        · rw [List.getElem_set_self]
          exact ⟨r2', hv2, o3.mono (fun _ _ hx => hx) (fun x hb hx => mm.same x hb (hCne x hx)) (by decide) fun _ _ h => h, o4.mono (fun _ _ hx => hx) (fun x hb hx => mm.same x hb (hCne x hx)) (by decide) fun _ _ h => h⟩
      · have hjc := (a4 (by omega)).cmod mm hCne
        refine ⟨rv', sv2, pv2, fun q u hu => ?_, ?_, fun e => by rw [List.length_set] at e; omega, fun _ => ?_⟩
        · rw [List.getElem_set_ne (by omega)] at hu
          have hq := (List.getElem?_eq_some_iff.1 hu).1
          simp only [List.length_cons, List.length_nil] at hq
          rw [World.cell?_setCell_other _ _ _ _ (by intro e; simp only [Addr.mk.injEq] at e; omega)]
          exact m45.cell (a1 q u hu) fun e => e11 e.symm
        · rw [List.getElem_set_ne (by omega)]
          exact hjc.mod (Mod.refl (fun _ => False) _) (fun _ _ _ h => h) fun _ _ hx => .inl hx
        · rw [List.getElem_set_ne (by omega)]; exact hjc
    · refine (Grow.mod gd).trans (mm.mono fun x _ e => ?_)
      rcases e with rfl | rfl
      · exact e8
      · exact e4
  | false =>
    rw [condK_b, if_neg (by simp)]
    have eadd : addI s.ins rs set = s.ins ++ [⟨2, 0, rs, set, []⟩] := by
      unfold addI
      unfold lastSet at hls
      cases hl : s.ins.getLast? with
      | none => rfl
      | some o => rw [hl] at hls; simp only [decide_eq_false_iff_not] at hls; simp only; rw [if_neg hls]
    have hbl : b < w4.heap.size := World.block_lt_of_cell? w4 ⟨b, 0, none⟩ h'.c0
    have hivb : (Value.slice ga s.ins.length gc).ownBlock ≠ some b ∧ (∀ g, (Value.slice ga s.ins.length gc).ownBlock = some g → F g ∧ ¬ C g ∧ g ≠ b ∧ dv.ownBlock ≠ some g ∧ hot ≠ some g ∧ g < w4.heap.size) := by
      rcases h'.ins with ⟨e1, e2, _⟩ | ⟨g, c, hh, e1, e2, e3, e4, e5, e6, e7, e8, e9, e10, e11, _⟩
      · simp only [Value.slice.injEq] at e2
        obtain ⟨rfl, _⟩ := e2
        exact ⟨fun h => (nomatch h), fun g h => (nomatch h)⟩
      · simp only [Value.slice.injEq, true_and] at e1
        obtain ⟨rfl, rfl⟩ := e1
        refine ⟨fun e => by simp only [Value.ownBlock, Option.some.injEq] at e; exact e6 e, fun g' e => ?_⟩
        simp only [Value.ownBlock, Option.some.injEq] at e; subst e
        exact ⟨e4, e5, e6, e7, fun e => by rw [e2] at e; cases e; exact e11 rfl, (OwnR.ownB e3 _ rfl).2⟩
    obtain ⟨hivb, hiv⟩ := hivb
    have hhot : ∀ x, hot = some x → F x ∧ ¬ C x ∧ x ≠ b ∧ dv.ownBlock ≠ some x ∧ x < w4.heap.size := by
      intro x hx
      rcases h'.ins with ⟨_, _, e⟩ | ⟨g, c, hh, e1, e2, e3, e4, e5, e6, e7, e8, e9, e10, e11, e12, e13, _⟩
      · rw [e] at hx; cases hx
      · rw [e2] at hx; cases hx; exact ⟨e8, e9, e10, e12, e13⟩
    refine drawC_i (fun k x => (k = 11 ∧ (Value.slice ga s.ins.length gc).ownBlock = some x) ∨ (k = 14 ∧ x = b)) ?_
    rw [nilckK_i, faK_i, addr0]
    refine sld1_i ⟨h'.c1, fun j hj e => by rcases e with ⟨_, e⟩ | ⟨rfl, _⟩; exact hivb e; exact absurd hj (by decide)⟩ ?_
    refine callK_mono (clone_run h1' hb3) ?_
    rintro t1 w5 ⟨n1, g5⟩
    refine ⟨Grow.mod g5, ?_⟩
    refine callK_mono (copy_set (h2'.grow g5 (by decide) fun _ _ h => h) hb4) ?_
    rintro t2 w6 ⟨n2, g6⟩
    refine ⟨Grow.mod g6, ?_⟩
    have g46 := g5.trans g6
    have z5 := g5.size
    have z6 := g6.size
    have h6 := h'.grow g46
    have n1' : OwnR w4.heap.size 21 1 RRune w6 t1 rs := OwnR.mod n1 g6 (fun _ _ h => h) fun _ _ _ h => h
    obtain ⟨sa1, sc1, hsv1, _, _, hp1, hn1⟩ := OwnR.shape n1'
    obtain ⟨sa2, sc2, hsv2, _⟩ := OwnR.shape n2
    refine ⟨#[.int .u8 2, .int .i64 0, t1, t2, .slice none 0 0], by subst hsv1; subst hsv2; kernel_rfl, ?_⟩
    have hn : ∃ h2n, t1.ownBlock = some h2n ∧ w4.heap.size ≤ h2n ∧ h2n < w6.heap.size := by
      cases sa1 with
      | none => exact (hne (hn1 rfl)).elim
      | some p => obtain ⟨g', _, q1, q2, q3⟩ := hp1 p rfl; exact ⟨g', q3, q1, q2⟩
    obtain ⟨h2n, hv2, hv3, hv4⟩ := hn
    -- rows: the old ones are only read from here on
    let C2 : Nat → Prop := fun x => (C x ∨ hot = some x) ∧ x < w4.heap.size
    let C' : Nat → Prop := fun x => C2 x ∨ t2.ownBlock = some x
    let R : World → List Value → Dop × Bool → Prop := fun W r x => match x.2 with
      | false => RDop C2 W r x.1
      | true => r = row5 x.1 t1 t2 (.slice none 0 0) ∧ OwnR 0 21 1 RRune W t1 x.1.runes ∧ RSet (fun x => t2.ownBlock = some x) W t2 x.1.set ∧ x.1.patch = []
    have hone : ∀ W r y, R W r y → ∀ u ∈ r, u.oneCell' = true := by
      rintro W r ⟨o, t⟩ hy
      cases t with
      | false => exact RDop.one hy
      | true =>
        obtain ⟨rfl, _⟩ := hy
        intro u hu
        simp only [List.mem_cons, List.not_mem_nil, or_false] at hu
        rcases hu with rfl | rfl | rfl | rfl | rfl
        · rfl
        · rfl
        · rw [hsv1]; rfl
        · rw [hsv2]; rfl
        · rfl
    have o6 : OwnR 0 TOp 5 R w6 (.slice ga s.ins.length gc) (s.ins.map fun o => (o, false)) := by
      rcases h6.ins with ⟨e1, e2, _⟩ | ⟨g, c, hh, e1, e2, e3, e4, e5, e6, e7, e8, e9, e10, e11, e12, e13, e14⟩
      · rw [e1] at e2 ⊢; rw [e2]; exact OwnR.nil
      · simp only [Value.slice.injEq, true_and] at e1
        obtain ⟨rfl, rfl⟩ := e1
        refine OwnR.conv (OwnR.len e3 (s.ins.map fun o => (o, false)) (by simp)) fun j hj r hr hone hcl => ?_
        have hj' : j < s.ins.length := by simpa using hj
        obtain ⟨rv, sv0, pv, q1, q2, _, _⟩ := e14.2 j hj'
        have e : r = row5 s.ins[j] rv sv0 pv := by
          refine List.ext_getElem? fun q => ?_
          by_cases hq : q < 5
          · have h1 : r[q]? = some r[q] := List.getElem?_eq_getElem (by omega)
            have h2 : (row5 s.ins[j] rv sv0 pv)[q]? = some (row5 s.ins[j] rv sv0 pv)[q] := List.getElem?_eq_getElem (by simpa using hq)
            have h3 := hcl q _ h1
            rw [q1 q _ h2] at h3
            rw [h1, h2, h3]
          · rw [List.getElem?_eq_none (by omega), List.getElem?_eq_none (by simp; omega)]
        subst e
        rw [List.getElem_map]
        refine q2.mod (Mod.refl (fun _ => False) _) (fun _ _ _ h => h) fun x hx hc => ?_
        rcases hc with hc | hc
        · exact ⟨.inl hc, (h'.cf x hc).2⟩
        · subst hc; exact ⟨.inr e2, (hhot _ e2).2.2.2.2⟩
    have pst : ∀ W1 W2 r y, w6.heap.size ≤ W1.heap.size → Mod (fun x => (Value.slice ga s.ins.length gc).ownBlock = some x ∨ w6.heap.size ≤ x) W1 W2 → R W1 r y → R W2 r y := by
      rintro W1 W2 r ⟨o, t⟩ hz hm hy
      cases t with
      | false =>
        refine RDop.mod hy hm (fun x _ hx e => ?_) fun _ _ h => h
        rcases e with e | e
        · obtain ⟨_, q2, _, _, q5, _⟩ := hiv x e
          rcases hx.1 with hc | hc
          · exact q2 hc
          · exact q5 hc
        · have := hx.2; omega
      | true =>
        obtain ⟨q1, q2, q3, q4⟩ := hy
        refine ⟨q1, OwnR.mod q2 hm (fun x hx e => ?_) fun _ _ _ h => h, q3.mono (fun _ _ h => h) (fun x hb hx => hm.same x hb fun e => ?_) (by decide) fun _ _ h => h, q4⟩
        · rw [hv2] at hx; cases hx
          rcases e with e | e
          · have := (hiv _ e).2.2.2.2.2; omega
          · omega
        · have h1 := OwnR.ownB n2 x hx
          rcases e with e | e
          · have := (hiv _ e).2.2.2.2.2; omega
          · omega
    refine push_g2 elem_dop o6 (Nat.zero_le _) (cs := row5 ⟨2, 0, rs, set, []⟩ t1 t2 (.slice none 0 0)) (x := ((⟨2, 0, rs, set, []⟩ : Dop), true)) (by subst hsv1; subst hsv2; kernel_rfl) rfl ⟨rfl, OwnR.base n1' fun _ _ => Nat.zero_le _, SlR.sub (OwnR.sl n2) (fun x _ hx => hx.2) (by decide) fun _ _ h => h, rfl⟩ hone pst (by simpa using hb1) (by simp only [List.length_map, maxLen]; omega) (fun _ g => Grow.mod g) fun w6' v' w7 o7 m6' m7 f7 => ?_
    refine ⟨m6'.mono fun x _ e => .inl ⟨rfl, e⟩, ?_⟩
    have z7 := m7.size
    have hv7 := OwnR.one o7
    obtain ⟨va, vc, rfl, _, _, hvp, hvn⟩ := OwnR.shape o7
    cases va with
    | none => have := hvn rfl; simp at this
    | some vp =>
    obtain ⟨g7, rfl, _, hg7, hown7⟩ := hvp _ rfl
    have ln7 : (s.ins.map (fun o => (o, false)) ++ [((⟨2, 0, rs, set, []⟩ : Dop), true)]).length = (addI s.ins rs set).length := by rw [eadd]; simp
    have hg7' := f7 g7 rfl
    have bne : ¬ (Value.slice ga s.ins.length gc).ownBlock = some b := hivb
    have Cne : ∀ x, C x → ¬ (Value.slice ga s.ins.length gc).ownBlock = some x := fun x hx e => (hiv x e).2.1 hx
    have h47 : MkR F w7 b s dv (.slice ga s.ins.length gc) C hot → True := fun _ => trivial
    have l7 : ∀ q, q < 3 → Live w7 ⟨b, q, none⟩ := fun q hq => (h6.lv q hq).mod m7 bne
    rw [nilckK_i, faK_i, addr0]
    refine (l7 1 (by decide)).st hv7.1 hv7.2 ⟨Mod.setCell _ _ _ (.inr ⟨rfl, rfl⟩), ?_⟩
    have m78 := setA w7 b 1 (Value.slice (some ⟨g7, 0, none⟩) (s.ins.map (fun o => (o, false)) ++ [((⟨2, 0, rs, set, []⟩ : Dop), true)]).length vc)
    have oth : ∀ q, q ≠ 1 → (⟨b, 1, none⟩ : Addr) ≠ ⟨b, q, none⟩ := fun q hq e => by simp only [Addr.mk.injEq] at e; omega
    obtain ⟨u1, hu1⟩ := Option.isSome_iff_exists.1 (l7 1 (by decide)).1
    have c8 : ∀ q u, q ≠ 1 → w6.cell? ⟨b, q, none⟩ = some u → (w7.setCell ⟨b, 1, none⟩ (Value.slice (some ⟨g7, 0, none⟩) (s.ins.map (fun o => (o, false)) ++ [((⟨2, 0, rs, set, []⟩ : Dop), true)]).length vc)).cell? ⟨b, q, none⟩ = some u := fun q u hq hu => (World.cell?_setCell_other _ _ _ _ (oth q hq)).trans (m7.cell hu bne)
    have c81 := World.cell?_setCell_same w7 ⟨b, 1, none⟩ (Value.slice (some ⟨g7, 0, none⟩) (s.ins.map (fun o => (o, false)) ++ [((⟨2, 0, rs, set, []⟩ : Dop), true)]).length vc) hu1
    have lv8 : ∀ q, q < 3 → Live (w7.setCell ⟨b, 1, none⟩ (Value.slice (some ⟨g7, 0, none⟩) (s.ins.map (fun o => (o, false)) ++ [((⟨2, 0, rs, set, []⟩ : Dop), true)]).length vc)) ⟨b, q, none⟩ := fun q hq => (l7 q hq).set _ _
    -- the blocks that the new rows do not lie in
    have hdv : ∀ x, dv.ownBlock = some x → x < w4.heap.size := fun x hx => (OwnR.ownB h'.done x hx).2
    have g7b : g7 ≠ b := fun e => by rcases hg7' with h | h; exact bne (e ▸ h); omega
    have g7C : ¬ C' g7 := by
      rintro (⟨hx | hx, hlt⟩ | hx)
      · rcases hg7' with h | h
        · exact (hiv _ h).2.1 hx
        · omega
      · rcases hg7' with h | h
        · exact (hiv _ h).2.2.2.2.1 hx
        · omega
      · have := OwnR.ownB n2 _ hx
        rcases hg7' with h | h
        · have := (hiv _ h).2.2.2.2.2; omega
        · omega
    have g7d : dv.ownBlock ≠ some g7 := fun e => by
      rcases hg7' with h | h
      · exact (hiv _ h).2.2.2.1 e
      · have := hdv _ e; omega
    have C'b : ∀ x, C' x → ¬ x = b := by
      rintro x (⟨hx | hx, hlt⟩ | hx) e
      · exact h'.nb (e ▸ hx)
      · exact (hhot x hx).2.2.1 e
      · have := OwnR.ownB n2 _ hx; omega
    have h2C : ¬ C' h2n := by
      rintro (⟨_, hlt⟩ | hx)
      · omega
      · have := OwnR.ownB n2 _ hx; have := (OwnR.ownB (OwnR.mod n1 (Mod.refl (fun _ => False) _) (fun _ _ h => h) fun _ _ _ h => h) _ hv2).2; omega
    have Cd : ∀ x, C x → C' x := fun x hx => .inl ⟨.inl hx, (h'.cf x hx).2⟩
    have o8 : OwnR 0 TOp 5 R (w7.setCell ⟨b, 1, none⟩ (Value.slice (some ⟨g7, 0, none⟩) (s.ins.map (fun o => (o, false)) ++ [((⟨2, 0, rs, set, []⟩ : Dop), true)]).length vc)) (Value.slice (some ⟨g7, 0, none⟩) (s.ins.map (fun o => (o, false)) ++ [((⟨2, 0, rs, set, []⟩ : Dop), true)]).length vc) (s.ins.map (fun o => (o, false)) ++ [((⟨2, 0, rs, set, []⟩ : Dop), true)]) := by
      refine OwnR.mod o7 m78 (fun x hx e => ?_) fun r y _ hy => ?_
      · simp only [Value.ownBlock, Option.some.injEq] at hx; subst hx; exact g7b e
      · obtain ⟨o, t⟩ := y
        cases t with
        | false => exact RDop.mod hy m78 (fun x _ hx e => C'b x (.inl hx) e) fun _ _ h => h
        | true =>
          obtain ⟨q1, q2, q3, q4⟩ := hy
          refine ⟨q1, OwnR.mod q2 m78 (fun x hx e => ?_) fun _ _ _ h => h, q3.mono (fun _ _ h => h) (fun x hb hx => m78.same x hb fun e => C'b x (.inr hx) e) (by decide) fun _ _ h => h, q4⟩
          rw [hv2] at hx; cases hx; omega
    generalize hW : w7.setCell ⟨b, 1, none⟩ (Value.slice (some ⟨g7, 0, none⟩) (s.ins.map (fun o => (o, false)) ++ [((⟨2, 0, rs, set, []⟩ : Dop), true)]).length vc) = W at m78 c8 c81 lv8 o8 ⊢
    have z8 := m78.size
    have m68 : Mod (fun x => (Value.slice ga s.ins.length gc).ownBlock = some x ∨ x = b) w6 W := (m7.mono fun _ _ e => .inl e).trans (m78.mono fun _ _ e => .inr e)
    have Cm : ∀ x, C x → ¬ ((Value.slice ga s.ins.length gc).ownBlock = some x ∨ x = b) := by
      rintro x hx (e | e)
      · exact Cne x hx e
      · exact h'.nb (e ▸ hx)
    refine ⟨⟨dv, _, C', some h2n, c8 0 _ (by decide) h6.c0, c81, c8 2 _ (by decide) h6.c2, lv8, .inl h'.fb, fun hx => C'b b hx rfl, ?_, ?_, fun x hx => ⟨.inl (h'.dF x hx).1, ?_, (h'.dF x hx).2.2⟩, .inr ⟨g7, vc, h2n, ?_, rfl, ?_, ?_, g7C, g7b, g7d, .inr (by omega), h2C, by omega, ?_, ?_, by omega, ?_⟩⟩, ?_⟩
    · rintro x (⟨hx | hx, hlt⟩ | hx)
      · exact ⟨.inl (h'.cf x hx).1, by omega⟩
      · exact ⟨.inl (hhot x hx).1, by omega⟩
      · have := OwnR.ownB n2 _ hx; exact ⟨.inr (by omega), by omega⟩
    · refine OwnR.mod h6.done m68 (fun x hx e => ?_) fun r x _ hx => (hx.cmod m68 Cm).mod (Mod.refl (fun _ => False) _) (fun _ _ _ h => h) fun y _ hy => Cd y hy
      rcases e with e | e
      · exact (hiv _ e).2.2.2.1 hx
      · exact (h'.dF x hx).2.2 e
    · rintro (⟨hc | hc, hlt⟩ | hc)
      · exact (h'.dF x hx).2.1 hc
      · exact (hhot x hc).2.2.2.1 hx
      · have := OwnR.ownB n2 _ hc; have := hdv x hx; omega
    · rw [ln7]
    · exact OwnR.len o8 _ ln7.symm
    · rcases hg7' with h | h
      · exact .inl (hiv _ h).1
      · exact .inr (by omega)
    · intro e
      rcases hg7' with h | h
      · have := (hiv _ h).2.2.2.2.2; omega
      · omega
    · intro e; have := hdv _ e; omega
    · rw [eadd]
      refine ⟨by simp, fun j hj => ?_⟩
      have hjL : j < (s.ins.map (fun o => (o, false)) ++ [((⟨2, 0, rs, set, []⟩ : Dop), true)]).length := by simpa using hj
      obtain ⟨r, hr, hcl, hR, _⟩ := OwnR.cellsOf o8 hjL
      by_cases hjl : j < s.ins.length
      · have e1 : (s.ins.map (fun o => (o, false)) ++ [((⟨2, 0, rs, set, []⟩ : Dop), true)])[j] = (s.ins[j], false) := by
          rw [List.getElem_append_left (by simpa using hjl)]; simp
        have e2 : (s.ins ++ [(⟨2, 0, rs, set, []⟩ : Dop)])[j] = s.ins[j] := by rw [List.getElem_append_left hjl]
        rw [e1] at hR
        have hR' : RDop C2 W r s.ins[j] := hR
        obtain ⟨rv, sv0, pv, rfl, p1, p2, p3⟩ := hR'
        rw [e2]
        have rd : RDop C' W (row5 s.ins[j] rv sv0 pv) s.ins[j] := RDop.mod (D := C2) ⟨rv, sv0, pv, rfl, p1, p2, p3⟩ (Mod.refl (fun _ => False) _) (fun _ _ _ h => h) fun x _ hx => .inl hx
        refine ⟨rv, sv0, pv, hcl, rd.mod (Mod.refl (fun _ => False) _) (fun _ _ _ h => h) fun x _ hx => .inl hx, fun e => ?_, fun _ => rd⟩
        simp at e; omega
      · have hje : j = s.ins.length := by simp at hj; omega
        subst hje
        have e1 : (s.ins.map (fun o => (o, false)) ++ [((⟨2, 0, rs, set, []⟩ : Dop), true)])[s.ins.length] = ((⟨2, 0, rs, set, []⟩ : Dop), true) := by
          rw [List.getElem_append_right (by simp)]; simp
        have e2 : (s.ins ++ [(⟨2, 0, rs, set, []⟩ : Dop)])[s.ins.length] = (⟨2, 0, rs, set, []⟩ : Dop) := by rw [List.getElem_append_right (by simp)]; simp
        rw [e1] at hR
        obtain ⟨rfl, q2, q3, q4⟩ := hR
        rw [e2]
        refine ⟨t1, t2, .slice none 0 0, hcl, ⟨t1, t2, .slice none 0 0, rfl, ?_, ?_, SlR.nil⟩, fun _ => ⟨q2, hv2, ?_, SlR.nil⟩, fun e => by simp at e⟩
        · exact own_rd (by decide) ⟨q2, fun x hx => .inr (by rw [hv2] at hx; exact (Option.some.inj hx).symm)⟩
        · exact SlR.sub q3 (fun x _ hx => .inl (.inr hx)) (by decide) fun _ _ h => h
        · exact SlR.sub q3 (fun x _ hx => .inr hx) (by decide) fun _ _ h => h
    · refine ((Grow.mod gd).trans (Grow.mod g46)).trans (m68.mono fun x _ e => ?_)
      rcases e with e | e
      · exact (hiv _ e).1
      · rw [e]; exact h'.fb
end Go.Proofs.Ytmfplfaeibehiaa
