/- Contract: the maker is told an insert. Conditions: the sizes; what is told lies apart from the maker. Contract: the maker is told a retain. Conditions: the sizes; what is told lies apart from the maker. Contracts: what a maker has made; a delta's normal form; whether it is normal. Conditions: the sizes. Contracts of the document's side: whether two deltas are the same. No conditions. Adding onto an empty row that has no room: the row itself stays. No conditions but the sizes. Contract of the document's copying of a delta. Condition: how much there is. Contract of the document's gap: inserts with one set made one, then one delete. Condition: how much there is. A slice from a place up to a place; of a row of one's own, cut short. No conditions. Contract of the document's normal form, and of whether a delta is one. Condition: how much there is. Writing over what was told of a delta: which cells may be written, and what they hold. No conditions. What is known of normal forms; the laws NormalTwice and NormalShort: they answer true, and leave all memory as it was. Conditions: how much there is. The law NormalForms: it answers true, and leaves all memory as it was. Condition: how much there is. Two makers side by side; a maker that is not there. No conditions. -/
import Derived.Test.YtmfplfaeibehiaaZNormalMakesUpto5
namespace Go.K
open Go
theorem OwnR.len {α β : Type} {B e k : Nat} {R : World → List Value → α → Prop} {w : World} {v : Value} {l : List α} (h : OwnR B e k R w v l) (l' : List β) (hl : l'.length = l.length) : OwnR B e k (fun _ _ (_ : β) => True) w v l' := by
  obtain ⟨rows, h1, h2, h3, _⟩ := h
  exact ⟨rows, by rw [hl]; exact h1, by rw [hl]; exact h2, h3, fun _ _ _ _ _ => trivial⟩
end Go.K
namespace Go.Proofs.Ytmfplfaeibehiaa
open Go Go.K

def lastSet (ins : List Dop) (set : List Attr) : Bool := match ins.getLast? with | some o => decide (o.set = set) | none => false
theorem getLast_get {l : List Dop} (h : 0 < l.length) : l.getLast? = some l[l.length - 1] := by
  rw [List.getLast?_eq_getElem?]; simp [show l.length - 1 < l.length by omega]
theorem insert_ok {F S : Nat → Prop} {w : World} {b : Nat} {s : MkS} {lv sv : Value} {rs : List Int} {set : List Attr} (h : MkI F w b s) (h1 : RRun S w lv rs) (h2 : RSet S w sv set) (hS : ∀ x, S x → ¬ F x)
    (hb1 : (s.ins.length + 1) * 88 ≤ 140737488355328) (hb2 : ∀ o ∈ s.ins, (o.runes.length + rs.length) * 4 ≤ 140737488355328) (hb3 : rs.length * 4 ≤ 140737488355328) (hb4 : set.length * 48 ≤ 140737488355328) :
    callK Try.prog 41 [.pointer (some ⟨b, 0, none⟩), lv, sv] (fun _ w' => MkI (fun x => F x ∨ w.heap.size ≤ x) w' b (insS s rs set) ∧ Mod F w w') w := by
  apply S41_ok
  unfold S41
  have hI := h
  obtain ⟨dv, iv, C, hot, h⟩ := h
  obtain ⟨pl, cl, rfl, ml⟩ := h1.shape
  have shI : ∃ ga gc, iv = .slice ga s.ins.length gc := by
    rcases h.ins with ⟨e1, e2, _⟩ | ⟨g, c, hh, e1, _⟩
    · exact ⟨none, 0, by rw [e1, e2]; rfl⟩
    · exact ⟨_, c, e1⟩
  obtain ⟨ga, gc, rfl⟩ := shI
  refine JoinK_i (fun vs w1 => w1 = w ∧ rs ≠ []) ?_ ?_
  rotate_left
  · rw [pnilK_i]
    simp only [Option.isNone_some]
    rw [condK_b, if_neg (by simp), lenK_i, eqK_i]
    refine condK_p (fun e => ?_) fun e => ⟨trivial, fun h => e (len0.2 h)⟩
    have := len0.1 e
    subst this
    exact ⟨by rw [insS, if_pos rfl]; exact hI.sub fun x hx => .inl hx, Mod.refl _ _⟩
  rintro vs _ ⟨rfl, hne⟩ _
  rename World => w
  have hpos : 0 < rs.length := List.length_pos_iff.2 hne
  rw [nilckK_i, faK_i, addr0]
  refine ld1K_i h.c1 ?_
  rw [lenK_i, subK_i]
  have hwl : s.ins.length * 88 ≤ 140737488355328 := by omega
  rw [wrap64 (by omega) (by omega)]
  have key : insS s rs set = ⟨s.done, addI s.ins rs set, s.gone⟩ := by rw [insS, if_neg hne]
  rw [key]
  refine JoinK_i (fun vs w1 => vs = [.bool (lastSet s.ins set)] ∧ Grow w w1) ?_ ?_
  rotate_left
  · rw [geK_i]
    refine condK_p (fun hge => ?_) fun hge => ?_
    · have hip : 0 < s.ins.length := by omega
      rw [nilckK_i, faK_i, addr0]
      refine ld1K_i h.c1 ?_
      have hlt : s.ins.length - 1 < s.ins.length := by omega
      rw [show ((s.ins.length : Int) - 1) = ((s.ins.length - 1 : Nat) : Int) by omega]
      obtain ⟨p, r, rfl, _, hr, hc, rv, sv', pv, rfl, q1, q2, q3⟩ := h.insRd.get hlt
      refine ixK_n hlt ?_
      rw [faK_i, Addr.add_add]
      refine ld1K_i (hc 3 _ rfl) ?_
      refine callK_mono (same_set q2 h2) ?_
      rintro v1 w1 ⟨rfl, g1⟩
      exact ⟨by rw [lastSet, getLast_get hip], g1⟩
    · have : s.ins = [] := List.eq_nil_of_length_eq_zero (by omega)
      exact ⟨by rw [lastSet, this]; rfl, Mod.refl _ _⟩
  rintro vs w3 ⟨rfl, g3⟩ _
  rw [nth_z, List.headD_cons]
  have gd : Grow w w3.drew := g3.trans (Mod.drew _ _)
  have h' := h.grow gd
  have zd := gd.size
  have h1' : RRun (fun x => S x ∧ x < w.heap.size) w3.drew (.slice pl rs.length cl) rs := (h1.old (by decide)).grow gd (by decide) fun _ _ h => h
  have h2' : RSet (fun x => S x ∧ x < w.heap.size) w3.drew sv set := (h2.old (by decide)).grow gd (by decide) fun _ _ h => h
  generalize w3.drew = w4 at gd h' zd h1' h2' ⊢
  cases hls : lastSet s.ins set with
  | true =>
    rw [condK_b, if_pos rfl]
    have hip : 0 < s.ins.length := by
      cases hn : s.ins with
      | nil => rw [lastSet, hn] at hls; cases hls
      | cons a l => simp
    have hlt : s.ins.length - 1 < s.ins.length := by omega
    rcases h'.ins with ⟨e1, _⟩ | ⟨g, c, hh, e1, e2, e3, e4, e5, e6, e7, e8, e9, e10, e11, e12, e13, e14⟩
    · rw [e1] at hip; simp at hip
    simp only [Value.slice.injEq, true_and] at e1
    obtain ⟨rfl, rfl⟩ := e1
    obtain ⟨rv, sv', pv, at1, _, ho, _⟩ := e14.2 _ hlt
    obtain ⟨o1, o2, o3, o4⟩ := ho (by omega)
    have hset : s.ins[s.ins.length - 1].set = set := by
      rw [lastSet, getLast_get hip] at hls
      simpa using hls
    rw [show ((s.ins.length : Int) - 1) = ((s.ins.length - 1 : Nat) : Int) by omega]
    refine drawC_i (fun k x => (k = 14 ∧ x = hh) ∨ (k = 17 ∧ x = g)) ?_
    rw [nilckK_i, faK_i, addr0]
    refine sld1_i ⟨h'.c1, fun j _ e => by rcases e with ⟨_, e⟩ | ⟨_, e⟩; exact e10 e.symm; exact e6 e.symm⟩ ?_
    rw [nilckK_i, faK_i, addr0]
    refine sld1_i ⟨h'.c1, fun j _ e => by rcases e with ⟨_, e⟩ | ⟨_, e⟩; exact e10 e.symm; exact e6 e.symm⟩ ?_
    refine ixK_n hlt ?_
    rw [faK_i, Addr.add_add, addr0]
    refine sld1_i ⟨at1 2 _ rfl, fun j hj e => by rcases e with ⟨rfl, e⟩ | ⟨rfl, e⟩; exact e11 e.symm; exact absurd hj (by decide)⟩ ?_
    have hb2' := hb2 s.ins[s.ins.length - 1] (by simp)
    obtain ⟨v', w5, r1, r2, r3, r4⟩ := OwnR.append (ty := 56) elem_rune o1 h1' (fun _ _ => RRune.one) hb2' (Nat.zero_le _) (by simp only [maxLen]; omega) fun _ _ _ _ h => h
    refine runK_i r1 ⟨(Mod.of_grownBy r3).mono fun x _ e => by rw [o2] at e; cases e; exact .inl ⟨rfl, rfl⟩, ?_⟩
    have m45 : Mod (fun x => x = hh) w4 w5 := (Mod.of_grownBy r3).mono fun x _ e => by rw [o2] at e; cases e; rfl
    have hv1 := OwnR.one r2
    have shv : ∃ h2, v'.ownBlock = some h2 ∧ h2 < w5.heap.size := by
      obtain ⟨a, c', rfl, _, _, hp, hn⟩ := OwnR.shape r2
      cases a with
      | none => have := hn rfl; simp at this; exact (hne this.2).elim
      | some p => obtain ⟨g', rfl, q1, q2, q3⟩ := hp p rfl; exact ⟨g', q3, q2⟩
    obtain ⟨h2n, hv2, hv3⟩ := shv
    have hv4 := r4 h2n hv2
    have zz := m45.size
    have hgs : g < w4.heap.size := by
      have := OwnR.ownB e3 g rfl; exact this.2
    have hdv : ∀ x, dv.ownBlock = some x → x < w4.heap.size := fun x hx => (OwnR.ownB h'.done x hx).2
    have live5 : Live w5 ⟨g, (s.ins.length - 1) * 5 + 2, none⟩ := by
      obtain ⟨_, _, _, _, hl⟩ := OwnR.cellsOf e3 hlt
      exact (hl 2 (by decide)).mod m45 fun e => e11 e.symm
    refine ixK_n hlt ?_
    rw [faK_i, Addr.add_add, addr0]
    refine live5.st hv1.1 hv1.2 ⟨Mod.setCell _ _ _ (.inr ⟨rfl, rfl⟩), ?_⟩
    have m56 := setA w5 g ((s.ins.length - 1) * 5 + 2) v'
    have hnew : ∀ x, h2n = x → x = hh ∨ w4.heap.size ≤ x := by
      rintro x rfl
      rcases hv4 with e | e
      · rw [o2] at e; cases e; exact .inl rfl
      · exact .inr e
    -- the new block's place
    have nC : ¬ C h2n := fun hx => by rcases hnew _ rfl with e | e; exact e9 (e ▸ hx); have := (h'.cf _ hx).2; omega
    have nb2 : h2n ≠ b := fun e => by
      have hbl : b < w4.heap.size := World.block_lt_of_cell? w4 ⟨b, 0, none⟩ h'.c0
      rcases hnew _ rfl with e' | e'
      · exact e10 (e'.symm.trans e)
      · omega
    have ng2 : h2n ≠ g := fun e => by
      rcases hnew _ rfl with e' | e'
      · exact e11 (e'.symm.trans e)
      · omega
    have nd2 : dv.ownBlock ≠ some h2n := fun e => by
      have := hdv _ e
      rcases hnew _ rfl with e' | e'
      · rw [e'] at e; exact e12 e
      · omega
    have mm : Mod (fun x => x = hh ∨ x = g) w4 (w5.setCell ⟨g, (s.ins.length - 1) * 5 + 2, none⟩ v') := (m45.mono fun _ _ e => .inl e).trans (m56.mono fun _ _ e => .inr e)
    have hbne : ¬ (b = hh ∨ b = g) := by rintro (e | e); exact e10 e.symm; exact e6 e.symm
    have hCne : ∀ x, C x → ¬ (x = hh ∨ x = g) := by rintro x hx (rfl | rfl); exact e9 hx; exact e5 hx
    have r2' : OwnR 0 21 1 RRune (w5.setCell ⟨g, (s.ins.length - 1) * 5 + 2, none⟩ v') v' (s.ins[s.ins.length - 1].runes ++ rs) := OwnR.mod r2 m56 (fun x hx e => by rw [hv2] at hx; cases hx; exact ng2 e) fun _ _ _ h => h
    have eadd : addI s.ins rs set = s.ins.set (s.ins.length - 1) ⟨s.ins[s.ins.length - 1].kind, s.ins[s.ins.length - 1].n, s.ins[s.ins.length - 1].runes ++ rs, s.ins[s.ins.length - 1].set, s.ins[s.ins.length - 1].patch⟩ := by
      unfold addI
      rw [getLast_get hip]
      simp only [hset, if_true]
    have oA := OwnR.setAny (OwnR.mod e3 m45 (fun x hx e => by simp only [Value.ownBlock, Option.some.injEq] at hx; exact e11 (e.symm.trans hx.symm)) fun _ _ _ _ => trivial) hlt (show 2 < 5 by decide) hv1.1
    refine ⟨⟨dv, _, C, some h2n, mm.cell h'.c0 hbne, mm.cell h'.c1 hbne, mm.cell h'.c2 hbne, fun q hq => (h'.lv q hq).mod mm hbne, .inl h'.fb, h'.nb, fun x hx => ⟨.inl (h'.cf x hx).1, Nat.lt_of_lt_of_le (h'.cf x hx).2 mm.size⟩,
      OwnR.mod h'.done mm (fun x hx e => by rcases e with rfl | rfl; exact e12 hx; exact e7 hx) fun r x _ hx => hx.cmod mm hCne, fun x hx => ⟨.inl (h'.dF x hx).1, (h'.dF x hx).2⟩, .inr ⟨g, gc, h2n, ?_, rfl, ?_, .inl e4, e5, e6, e7, ?_, nC, nb2, ng2, nd2, ?_, ?_⟩⟩, ?_⟩
    · rw [eadd, List.length_set]
    · exact OwnR.len oA _ (by rw [eadd, List.length_set])
    · rcases hnew _ rfl with e | e
      · exact .inl (e ▸ e8)
      · exact .inr (by omega)
    · rw [World.size_setCell]; exact hv3
    · rw [eadd]
      refine ⟨by rw [List.length_set]; exact hip, fun j hj => ?_⟩
      rw [List.length_set] at hj
      obtain ⟨rv', sv2, pv2, a1, a2, a3, a4⟩ := e14.2 j hj
      by_cases hjl : j = s.ins.length - 1
      · subst hjl
        have hrow : OpAt w5 g (s.ins.length - 1) s.ins[s.ins.length - 1] rv sv' pv := at1.mod m45 fun e => e11 e.symm
        refine ⟨v', sv', pv, fun q u hu => ?_, ?_, fun _ => ?_, fun e => by rw [List.length_set] at e; omega⟩
        · rw [List.getElem_set_self] at hu
          have hq := (List.getElem?_eq_some_iff.1 hu).1
          simp only [List.length_cons, List.length_nil] at hq
          by_cases h2q : q = 2
          · subst h2q
            simp only [List.getElem?_cons_succ, List.getElem?_cons_zero, Option.some.injEq] at hu; subst hu
            obtain ⟨u', hu'⟩ := Option.isSome_iff_exists.1 live5.1
            exact World.cell?_setCell_same _ _ _ hu'
          · rw [World.cell?_setCell_other _ _ _ _ (by intro e; simp only [Addr.mk.injEq] at e; omega)]
            refine hrow q u ?_
            rw [← hu]
            match q, hq, h2q with
            | 0, _, _ => rfl
            | 1, _, _ => rfl
            | 3, _, _ => rfl
            | 4, _, _ => rfl
        · rw [List.getElem_set_self]
          refine ⟨v', sv', pv, rfl, ?_, ?_, ?_⟩
          · exact own_rd (by decide) ⟨r2', fun x hx => .inr (by rw [hv2] at hx; exact (Option.some.inj hx).symm)⟩
          · exact o3.mono (fun _ _ hx => .inl hx) (fun x hb hx => mm.same x hb (hCne x hx)) (by decide) fun _ _ h => h
          · exact o4.mono (fun _ _ hx => .inl hx) (fun x hb hx => mm.same x hb (hCne x hx)) (by decide) fun _ _ h => h
        · rw [List.getElem_set_self]
          exact ⟨r2', hv2, o3.mono (fun _ _ hx => hx) (fun x hb hx => mm.same x hb (hCne x hx)) (by decide) fun _ _ h => h, o4.mono (fun _ _ hx => hx) (fun x hb hx => mm.same x hb (hCne x hx)) (by decide) fun _ _ h => h⟩
      · have hjc := (a4 (by omega)).cmod mm hCne
        refine ⟨rv', sv2, pv2, fun q u hu => ?_, ?_, fun e => by rw [List.length_set] at e; omega, fun _ => ?_⟩
        · rw [List.getElem_set_ne (by omega)] at hu
          have hq := (List.getElem?_eq_some_iff.1 hu).1
          simp only [List.length_cons, List.length_nil] at hq
          rw [World.cell?_setCell_other _ _ _ _ (by intro e; simp only [Addr.mk.injEq] at e; omega)]
          exact m45.cell (a1 q u hu) fun e => e11 e.symm
        · rw [List.getElem_set_ne (by omega)]
          exact hjc.mod (Mod.refl (fun _ => False) _) (fun _ _ _ h => h) fun _ _ hx => .inl hx
        · rw [List.getElem_set_ne (by omega)]; exact hjc
    · refine (Grow.mod gd).trans (mm.mono fun x _ e => ?_)
      rcases e with rfl | rfl
      · exact e8
      · exact e4
  | false =>
    rw [condK_b, if_neg (by simp)]
    have eadd : addI s.ins rs set = s.ins ++ [⟨2, 0, rs, set, []⟩] := by
      unfold addI
      unfold lastSet at hls
      cases hl : s.ins.getLast? with
      | none => rfl
      | some o => rw [hl] at hls; simp only [decide_eq_false_iff_not] at hls; simp only; rw [if_neg hls]
    have hbl : b < w4.heap.size := World.block_lt_of_cell? w4 ⟨b, 0, none⟩ h'.c0
    have hivb : (Value.slice ga s.ins.length gc).ownBlock ≠ some b ∧ (∀ g, (Value.slice ga s.ins.length gc).ownBlock = some g → F g ∧ ¬ C g ∧ g ≠ b ∧ dv.ownBlock ≠ some g ∧ hot ≠ some g ∧ g < w4.heap.size) := by
      rcases h'.ins with ⟨e1, e2, _⟩ | ⟨g, c, hh, e1, e2, e3, e4, e5, e6, e7, e8, e9, e10, e11, _⟩
      · simp only [Value.slice.injEq] at e2
        obtain ⟨rfl, _⟩ := e2
        exact ⟨fun h => (nomatch h), fun g h => (nomatch h)⟩
      · simp only [Value.slice.injEq, true_and] at e1
        obtain ⟨rfl, rfl⟩ := e1
        refine ⟨fun e => by simp only [Value.ownBlock, Option.some.injEq] at e; exact e6 e, fun g' e => ?_⟩
        simp only [Value.ownBlock, Option.some.injEq] at e; subst e
        exact ⟨e4, e5, e6, e7, fun e => by rw [e2] at e; cases e; exact e11 rfl, (OwnR.ownB e3 _ rfl).2⟩
    obtain ⟨hivb, hiv⟩ := hivb
    have hhot : ∀ x, hot = some x → F x ∧ ¬ C x ∧ x ≠ b ∧ dv.ownBlock ≠ some x ∧ x < w4.heap.size := by
      intro x hx
      rcases h'.ins with ⟨_, _, e⟩ | ⟨g, c, hh, e1, e2, e3, e4, e5, e6, e7, e8, e9, e10, e11, e12, e13, _⟩
      · rw [e] at hx; cases hx
      · rw [e2] at hx; cases hx; exact ⟨e8, e9, e10, e12, e13⟩
    refine drawC_i (fun k x => (k = 11 ∧ (Value.slice ga s.ins.length gc).ownBlock = some x) ∨ (k = 14 ∧ x = b)) ?_
    rw [nilckK_i, faK_i, addr0]
    refine sld1_i ⟨h'.c1, fun j hj e => by rcases e with ⟨_, e⟩ | ⟨rfl, _⟩; exact hivb e; exact absurd hj (by decide)⟩ ?_
    refine callK_mono (clone_run h1' hb3) ?_
    rintro t1 w5 ⟨n1, g5⟩
    refine ⟨Grow.mod g5, ?_⟩
    refine callK_mono (copy_set (h2'.grow g5 (by decide) fun _ _ h => h) hb4) ?_
    rintro t2 w6 ⟨n2, g6⟩
    refine ⟨Grow.mod g6, ?_⟩
    have g46 := g5.trans g6
    have z5 := g5.size
    have z6 := g6.size
    have h6 := h'.grow g46
    have n1' : OwnR w4.heap.size 21 1 RRune w6 t1 rs := OwnR.mod n1 g6 (fun _ _ h => h) fun _ _ _ h => h
    obtain ⟨sa1, sc1, hsv1, _, _, hp1, hn1⟩ := OwnR.shape n1'
    obtain ⟨sa2, sc2, hsv2, _⟩ := OwnR.shape n2
    refine ⟨#[.int .u8 2, .int .i64 0, t1, t2, .slice none 0 0], by subst hsv1; subst hsv2; kernel_rfl, ?_⟩
    have hn : ∃ h2n, t1.ownBlock = some h2n ∧ w4.heap.size ≤ h2n ∧ h2n < w6.heap.size := by
      cases sa1 with
      | none => exact (hne (hn1 rfl)).elim
      | some p => obtain ⟨g', _, q1, q2, q3⟩ := hp1 p rfl; exact ⟨g', q3, q1, q2⟩
    obtain ⟨h2n, hv2, hv3, hv4⟩ := hn
    -- rows: the old ones are only read from here on
    let C2 : Nat → Prop := fun x => (C x ∨ hot = some x) ∧ x < w4.heap.size
    let C' : Nat → Prop := fun x => C2 x ∨ t2.ownBlock = some x
    let R : World → List Value → Dop × Bool → Prop := fun W r x => match x.2 with
      | false => RDop C2 W r x.1
      | true => r = row5 x.1 t1 t2 (.slice none 0 0) ∧ OwnR 0 21 1 RRune W t1 x.1.runes ∧ RSet (fun x => t2.ownBlock = some x) W t2 x.1.set ∧ x.1.patch = []
    have hone : ∀ W r y, R W r y → ∀ u ∈ r, u.oneCell' = true := by
      rintro W r ⟨o, t⟩ hy
      cases t with
      | false => exact RDop.one hy
      | true =>
        obtain ⟨rfl, _⟩ := hy
        intro u hu
        simp only [List.mem_cons, List.not_mem_nil, or_false] at hu
        rcases hu with rfl | rfl | rfl | rfl | rfl
        · rfl
        · rfl
        · rw [hsv1]; rfl
        · rw [hsv2]; rfl
        · rfl
    have o6 : OwnR 0 TOp 5 R w6 (.slice ga s.ins.length gc) (s.ins.map fun o => (o, false)) := by
      rcases h6.ins with ⟨e1, e2, _⟩ | ⟨g, c, hh, e1, e2, e3, e4, e5, e6, e7, e8, e9, e10, e11, e12, e13, e14⟩
      · rw [e1] at e2 ⊢; rw [e2]; exact OwnR.nil
      · simp only [Value.slice.injEq, true_and] at e1
        obtain ⟨rfl, rfl⟩ := e1
        refine OwnR.conv (OwnR.len e3 (s.ins.map fun o => (o, false)) (by simp)) fun j hj r hr hone hcl => ?_
        have hj' : j < s.ins.length := by simpa using hj
        obtain ⟨rv, sv0, pv, q1, q2, _, _⟩ := e14.2 j hj'
        have e : r = row5 s.ins[j] rv sv0 pv := by
          refine List.ext_getElem? fun q => ?_
          by_cases hq : q < 5
          · have h1 : r[q]? = some r[q] := List.getElem?_eq_getElem (by omega)
            have h2 : (row5 s.ins[j] rv sv0 pv)[q]? = some (row5 s.ins[j] rv sv0 pv)[q] := List.getElem?_eq_getElem (by simpa using hq)
            have h3 := hcl q _ h1
            rw [q1 q _ h2] at h3
            rw [h1, h2, h3]
          · rw [List.getElem?_eq_none (by omega), List.getElem?_eq_none (by simp; omega)]
        subst e
        rw [List.getElem_map]
        refine q2.mod (Mod.refl (fun _ => False) _) (fun _ _ _ h => h) fun x hx hc => ?_
        rcases hc with hc | hc
        · exact ⟨.inl hc, (h'.cf x hc).2⟩
        · subst hc; exact ⟨.inr e2, (hhot _ e2).2.2.2.2⟩
    have pst : ∀ W1 W2 r y, w6.heap.size ≤ W1.heap.size → Mod (fun x => (Value.slice ga s.ins.length gc).ownBlock = some x ∨ w6.heap.size ≤ x) W1 W2 → R W1 r y → R W2 r y := by
      rintro W1 W2 r ⟨o, t⟩ hz hm hy
      cases t with
      | false =>
        refine RDop.mod hy hm (fun x _ hx e => ?_) fun _ _ h => h
        rcases e with e | e
        · obtain ⟨_, q2, _, _, q5, _⟩ := hiv x e
          rcases hx.1 with hc | hc
          · exact q2 hc
          · exact q5 hc
        · have := hx.2; omega
      | true =>
        obtain ⟨q1, q2, q3, q4⟩ := hy
        refine ⟨q1, OwnR.mod q2 hm (fun x hx e => ?_) fun _ _ _ h => h, q3.mono (fun _ _ h => h) (fun x hb hx => hm.same x hb fun e => ?_) (by decide) fun _ _ h => h, q4⟩
        · rw [hv2] at hx; cases hx
          rcases e with e | e
          · have := (hiv _ e).2.2.2.2.2; omega
          · omega
        · have h1 := OwnR.ownB n2 x hx
          rcases e with e | e
          · have := (hiv _ e).2.2.2.2.2; omega
          · omega
    refine push_g2 elem_dop o6 (Nat.zero_le _) (cs := row5 ⟨2, 0, rs, set, []⟩ t1 t2 (.slice none 0 0)) (x := ((⟨2, 0, rs, set, []⟩ : Dop), true)) (by subst hsv1; subst hsv2; kernel_rfl) rfl ⟨rfl, OwnR.base n1' fun _ _ => Nat.zero_le _, SlR.sub (OwnR.sl n2) (fun x _ hx => hx.2) (by decide) fun _ _ h => h, rfl⟩ hone pst (by simpa using hb1) (by simp only [List.length_map, maxLen]; omega) (fun _ g => Grow.mod g) fun w6' v' w7 o7 m6' m7 f7 => ?_
    refine ⟨m6'.mono fun x _ e => .inl ⟨rfl, e⟩, ?_⟩
    have z7 := m7.size
    have hv7 := OwnR.one o7
    obtain ⟨va, vc, rfl, _, _, hvp, hvn⟩ := OwnR.shape o7
    cases va with
    | none => have := hvn rfl; simp at this
    | some vp =>
    obtain ⟨g7, rfl, _, hg7, hown7⟩ := hvp _ rfl
    have ln7 : (s.ins.map (fun o => (o, false)) ++ [((⟨2, 0, rs, set, []⟩ : Dop), true)]).length = (addI s.ins rs set).length := by rw [eadd]; simp
    have hg7' := f7 g7 rfl
    have bne : ¬ (Value.slice ga s.ins.length gc).ownBlock = some b := hivb
    have Cne : ∀ x, C x → ¬ (Value.slice ga s.ins.length gc).ownBlock = some x := fun x hx e => (hiv x e).2.1 hx
    have h47 : MkR F w7 b s dv (.slice ga s.ins.length gc) C hot → True := fun _ => trivial
    have l7 : ∀ q, q < 3 → Live w7 ⟨b, q, none⟩ := fun q hq => (h6.lv q hq).mod m7 bne
    rw [nilckK_i, faK_i, addr0]
    refine (l7 1 (by decide)).st hv7.1 hv7.2 ⟨Mod.setCell _ _ _ (.inr ⟨rfl, rfl⟩), ?_⟩
    have m78 := setA w7 b 1 (Value.slice (some ⟨g7, 0, none⟩) (s.ins.map (fun o => (o, false)) ++ [((⟨2, 0, rs, set, []⟩ : Dop), true)]).length vc)
    have oth : ∀ q, q ≠ 1 → (⟨b, 1, none⟩ : Addr) ≠ ⟨b, q, none⟩ := fun q hq e => by simp only [Addr.mk.injEq] at e; omega
    obtain ⟨u1, hu1⟩ := Option.isSome_iff_exists.1 (l7 1 (by decide)).1
    have c8 : ∀ q u, q ≠ 1 → w6.cell? ⟨b, q, none⟩ = some u → (w7.setCell ⟨b, 1, none⟩ (Value.slice (some ⟨g7, 0, none⟩) (s.ins.map (fun o => (o, false)) ++ [((⟨2, 0, rs, set, []⟩ : Dop), true)]).length vc)).cell? ⟨b, q, none⟩ = some u := fun q u hq hu => (World.cell?_setCell_other _ _ _ _ (oth q hq)).trans (m7.cell hu bne)
    have c81 := World.cell?_setCell_same w7 ⟨b, 1, none⟩ (Value.slice (some ⟨g7, 0, none⟩) (s.ins.map (fun o => (o, false)) ++ [((⟨2, 0, rs, set, []⟩ : Dop), true)]).length vc) hu1
    have lv8 : ∀ q, q < 3 → Live (w7.setCell ⟨b, 1, none⟩ (Value.slice (some ⟨g7, 0, none⟩) (s.ins.map (fun o => (o, false)) ++ [((⟨2, 0, rs, set, []⟩ : Dop), true)]).length vc)) ⟨b, q, none⟩ := fun q hq => (l7 q hq).set _ _
    -- the blocks that the new rows do not lie in
    have hdv : ∀ x, dv.ownBlock = some x → x < w4.heap.size := fun x hx => (OwnR.ownB h'.done x hx).2
    have g7b : g7 ≠ b := fun e => by rcases hg7' with h | h; exact bne (e ▸ h); omega
    have g7C : ¬ C' g7 := by
      rintro (⟨hx | hx, hlt⟩ | hx)
      · rcases hg7' with h | h
        · exact (hiv _ h).2.1 hx
        · omega
      · rcases hg7' with h | h
        · exact (hiv _ h).2.2.2.2.1 hx
        · omega
      · have := OwnR.ownB n2 _ hx
        rcases hg7' with h | h
        · have := (hiv _ h).2.2.2.2.2; omega
        · omega
    have g7d : dv.ownBlock ≠ some g7 := fun e => by
      rcases hg7' with h | h
      · exact (hiv _ h).2.2.2.1 e
      · have := hdv _ e; omega
    have C'b : ∀ x, C' x → ¬ x = b := by
      rintro x (⟨hx | hx, hlt⟩ | hx) e
      · exact h'.nb (e ▸ hx)
      · exact (hhot x hx).2.2.1 e
      · have := OwnR.ownB n2 _ hx; omega
    have h2C : ¬ C' h2n := by
      rintro (⟨_, hlt⟩ | hx)
      · omega
      · have := OwnR.ownB n2 _ hx; have := (OwnR.ownB (OwnR.mod n1 (Mod.refl (fun _ => False) _) (fun _ _ h => h) fun _ _ _ h => h) _ hv2).2; omega
    have Cd : ∀ x, C x → C' x := fun x hx => .inl ⟨.inl hx, (h'.cf x hx).2⟩
    have o8 : OwnR 0 TOp 5 R (w7.setCell ⟨b, 1, none⟩ (Value.slice (some ⟨g7, 0, none⟩) (s.ins.map (fun o => (o, false)) ++ [((⟨2, 0, rs, set, []⟩ : Dop), true)]).length vc)) (Value.slice (some ⟨g7, 0, none⟩) (s.ins.map (fun o => (o, false)) ++ [((⟨2, 0, rs, set, []⟩ : Dop), true)]).length vc) (s.ins.map (fun o => (o, false)) ++ [((⟨2, 0, rs, set, []⟩ : Dop), true)]) := by
      refine OwnR.mod o7 m78 (fun x hx e => ?_) fun r y _ hy => ?_
      · simp only [Value.ownBlock, Option.some.injEq] at hx; subst hx; exact g7b e
      · obtain ⟨o, t⟩ := y
        cases t with
        | false => exact RDop.mod hy m78 (fun x _ hx e => C'b x (.inl hx) e) fun _ _ h => h
        | true =>
          obtain ⟨q1, q2, q3, q4⟩ := hy
          refine ⟨q1, OwnR.mod q2 m78 (fun x hx e => ?_) fun _ _ _ h => h, q3.mono (fun _ _ h => h) (fun x hb hx => m78.same x hb fun e => C'b x (.inr hx) e) (by decide) fun _ _ h => h, q4⟩
          rw [hv2] at hx; cases hx; omega
    generalize hW : w7.setCell ⟨b, 1, none⟩ (Value.slice (some ⟨g7, 0, none⟩) (s.ins.map (fun o => (o, false)) ++ [((⟨2, 0, rs, set, []⟩ : Dop), true)]).length vc) = W at m78 c8 c81 lv8 o8 ⊢
    have z8 := m78.size
    have m68 : Mod (fun x => (Value.slice ga s.ins.length gc).ownBlock = some x ∨ x = b) w6 W := (m7.mono fun _ _ e => .inl e).trans (m78.mono fun _ _ e => .inr e)
    have Cm : ∀ x, C x → ¬ ((Value.slice ga s.ins.length gc).ownBlock = some x ∨ x = b) := by
      rintro x hx (e | e)
      · exact Cne x hx e
      · exact h'.nb (e ▸ hx)
    refine ⟨⟨dv, _, C', some h2n, c8 0 _ (by decide) h6.c0, c81, c8 2 _ (by decide) h6.c2, lv8, .inl h'.fb, fun hx => C'b b hx rfl, ?_, ?_, fun x hx => ⟨.inl (h'.dF x hx).1, ?_, (h'.dF x hx).2.2⟩, .inr ⟨g7, vc, h2n, ?_, rfl, ?_, ?_, g7C, g7b, g7d, .inr (by omega), h2C, by omega, ?_, ?_, by omega, ?_⟩⟩, ?_⟩
    · rintro x (⟨hx | hx, hlt⟩ | hx)
      · exact ⟨.inl (h'.cf x hx).1, by omega⟩
      · exact ⟨.inl (hhot x hx).1, by omega⟩
      · have := OwnR.ownB n2 _ hx; exact ⟨.inr (by omega), by omega⟩
    · refine OwnR.mod h6.done m68 (fun x hx e => ?_) fun r x _ hx => (hx.cmod m68 Cm).mod (Mod.refl (fun _ => False) _) (fun _ _ _ h => h) fun y _ hy => Cd y hy
      rcases e with e | e
      · exact (hiv _ e).2.2.2.1 hx
      · exact (h'.dF x hx).2.2 e
    · rintro (⟨hc | hc, hlt⟩ | hc)
      · exact (h'.dF x hx).2.1 hc
      · exact (hhot x hc).2.2.2.1 hx
      · have := OwnR.ownB n2 _ hc; have := hdv x hx; omega
    · rw [ln7]
    · exact OwnR.len o8 _ ln7.symm
    · rcases hg7' with h | h
      · exact .inl (hiv _ h).1
      · exact .inr (by omega)
    · intro e
      rcases hg7' with h | h
      · have := (hiv _ h).2.2.2.2.2; omega
      · omega
    · intro e; have := hdv _ e; omega
    · rw [eadd]
      refine ⟨by simp, fun j hj => ?_⟩
      have hjL : j < (s.ins.map (fun o => (o, false)) ++ [((⟨2, 0, rs, set, []⟩ : Dop), true)]).length := by simpa using hj
      obtain ⟨r, hr, hcl, hR, _⟩ := OwnR.cellsOf o8 hjL
      by_cases hjl : j < s.ins.length
      · have e1 : (s.ins.map (fun o => (o, false)) ++ [((⟨2, 0, rs, set, []⟩ : Dop), true)])[j] = (s.ins[j], false) := by
          rw [List.getElem_append_left (by simpa using hjl)]; simp
        have e2 : (s.ins ++ [(⟨2, 0, rs, set, []⟩ : Dop)])[j] = s.ins[j] := by rw [List.getElem_append_left hjl]
        rw [e1] at hR
        have hR' : RDop C2 W r s.ins[j] := hR
        obtain ⟨rv, sv0, pv, rfl, p1, p2, p3⟩ := hR'
        rw [e2]
        have rd : RDop C' W (row5 s.ins[j] rv sv0 pv) s.ins[j] := RDop.mod (D := C2) ⟨rv, sv0, pv, rfl, p1, p2, p3⟩ (Mod.refl (fun _ => False) _) (fun _ _ _ h => h) fun x _ hx => .inl hx
        refine ⟨rv, sv0, pv, hcl, rd.mod (Mod.refl (fun _ => False) _) (fun _ _ _ h => h) fun x _ hx => .inl hx, fun e => ?_, fun _ => rd⟩
        simp at e; omega
      · have hje : j = s.ins.length := by simp at hj; omega
        subst hje
        have e1 : (s.ins.map (fun o => (o, false)) ++ [((⟨2, 0, rs, set, []⟩ : Dop), true)])[s.ins.length] = ((⟨2, 0, rs, set, []⟩ : Dop), true) := by
          rw [List.getElem_append_right (by simp)]; simp
        have e2 : (s.ins ++ [(⟨2, 0, rs, set, []⟩ : Dop)])[s.ins.length] = (⟨2, 0, rs, set, []⟩ : Dop) := by rw [List.getElem_append_right (by simp)]; simp
        rw [e1] at hR
        obtain ⟨rfl, q2, q3, q4⟩ := hR
        rw [e2]
        refine ⟨t1, t2, .slice none 0 0, hcl, ⟨t1, t2, .slice none 0 0, rfl, ?_, ?_, SlR.nil⟩, fun _ => ⟨q2, hv2, ?_, SlR.nil⟩, fun e => by simp at e⟩
        · exact own_rd (by decide) ⟨q2, fun x hx => .inr (by rw [hv2] at hx; exact (Option.some.inj hx).symm)⟩
        · exact SlR.sub q3 (fun x _ hx => .inl (.inr hx)) (by decide) fun _ _ h => h
        · exact SlR.sub q3 (fun x _ hx => .inr hx) (by decide) fun _ _ h => h
    · refine ((Grow.mod gd).trans (Grow.mod g46)).trans (m68.mono fun x _ e => ?_)
      rcases e with e | e
      · exact (hiv _ e).1
      · rw [e]; exact h'.fb
end Go.Proofs.Ytmfplfaeibehiaa

namespace Go.Proofs.Ytmfplfaeibehiaa
open Go Go.K

theorem set3 (W : World) (b : Nat) (u0 u1 u2 : Value) (l : ∀ q, q < 3 → Live W ⟨b, q, none⟩) : ∀ W', W' = ((W.setCell ⟨b, 0, none⟩ u0).setCell ⟨b, 1, none⟩ u1).setCell ⟨b, 2, none⟩ u2 → Mod (fun x => x = b) W W' ∧ W'.cell? ⟨b, 0, none⟩ = some u0 ∧ W'.cell? ⟨b, 1, none⟩ = some u1 ∧ W'.cell? ⟨b, 2, none⟩ = some u2 ∧ (∀ q, q < 3 → Live W' ⟨b, q, none⟩) := by
  rintro W' rfl
  have ne : ∀ q q', q ≠ q' → (⟨b, q, none⟩ : Addr) ≠ ⟨b, q', none⟩ := fun q q' hq e => by simp only [Addr.mk.injEq] at e; omega
  have m1 := setA W b 0 u0
  have m2 := setA (W.setCell ⟨b, 0, none⟩ u0) b 1 u1
  have m3 := setA ((W.setCell ⟨b, 0, none⟩ u0).setCell ⟨b, 1, none⟩ u1) b 2 u2
  refine ⟨(m1.trans m2).trans m3, ?_, ?_, ?_, fun q hq => (((l q hq).set _ _).set _ _).set _ _⟩
  · obtain ⟨u, hu⟩ := Option.isSome_iff_exists.1 (l 0 (by decide)).1
    rw [World.cell?_setCell_other _ _ _ _ (ne 2 0 (by decide)), World.cell?_setCell_other _ _ _ _ (ne 1 0 (by decide))]
    exact World.cell?_setCell_same _ _ _ hu
  · obtain ⟨u, hu⟩ := Option.isSome_iff_exists.1 ((l 1 (by decide)).set ⟨b, 0, none⟩ u0).1
    rw [World.cell?_setCell_other _ _ _ _ (ne 2 1 (by decide))]
    exact World.cell?_setCell_same _ _ _ hu
  · obtain ⟨u, hu⟩ := Option.isSome_iff_exists.1 (((l 2 (by decide)).set ⟨b, 0, none⟩ u0).set ⟨b, 1, none⟩ u1).1
    exact World.cell?_setCell_same _ _ _ hu
def lastPat (d : List Dop) (p : List Chg) : Bool := match d.getLast? with | some o => decide (o.kind = 1 ∧ o.patch = p) | none => false
theorem retain_ok {F S : Nat → Prop} {w : World} {b : Nat} {s : MkS} {n : Int} {pv : Value} {p : List Chg} (h : MkI F w b s) (h1 : RPat S w pv p) (hS : ∀ x, S x → ¬ F x)
    (hb1 : s.done.length + s.ins.length + 2 ≤ 1099511627776) (hb2 : p.length * 56 ≤ 140737488355328) :
    callK Try.prog 40 [.pointer (some ⟨b, 0, none⟩), .int .i64 n, pv] (fun _ w' => MkI (fun x => F x ∨ w.heap.size ≤ x) w' b (retS s n p) ∧ Mod F w w') w := by
  apply S40_ok
  unfold S40
  have hI := h
  have hb3 : (s.ins.length + 1) * 88 ≤ 140737488355328 := by omega
  obtain ⟨dv, iv, C, hot, h⟩ := h
  refine JoinK_i (fun vs w1 => w1 = w ∧ ¬ n < 1) ?_ ?_
  rotate_left
  · rw [pnilK_i]
    simp only [Option.isNone_some]
    rw [condK_b, if_neg (by simp), ltK_i]
    refine condK_p (fun e => ?_) fun e => ⟨trivial, e⟩
    exact ⟨by rw [retS, if_pos e]; exact hI.sub fun x hx => .inl hx, Mod.refl _ _⟩
  rintro vs _ ⟨rfl, hn⟩ _
  rename World => w
  have key : retS s n p = ⟨putS (s.done ++ gapL s.ins s.gone) n p, [], 0⟩ := by rw [retS, if_neg hn]
  rw [key]
  have gl : (gapL s.ins s.gone).length ≤ s.ins.length + 1 := by unfold gapL; split <;> simp
  have gd : Grow w w.drew := Mod.drew _ _
  have h' := h.grow gd
  have zd : w.drew.heap.size = w.heap.size := rfl
  have h1' : RPat (fun x => S x ∧ x < w.heap.size) w.drew pv p := (h1.old (by decide)).grow gd (by decide) fun _ _ h => h
  have hbl : b < w.drew.heap.size := World.block_lt_of_cell? w.drew ⟨b, 0, none⟩ h'.c0
  have hdv : ∀ x, dv.ownBlock = some x → x < w.drew.heap.size := fun x hx => (OwnR.ownB h'.done x hx).2
  have hhot : ∀ x, hot = some x → F x ∧ ¬ C x ∧ x ≠ b ∧ dv.ownBlock ≠ some x ∧ x < w.drew.heap.size := by
    intro x hx
    rcases h'.ins with ⟨_, _, e⟩ | ⟨g, c, hh, e1, e2, e3, e4, e5, e6, e7, e8, e9, e10, e11, e12, e13, _⟩
    · rw [e] at hx; cases hx
    · rw [e2] at hx; cases hx; exact ⟨e8, e9, e10, e12, e13⟩
  rw [← zd]
  generalize w.drew = w4 at gd h' zd h1' hbl hdv hhot ⊢
  have dvb : dv.ownBlock ≠ some b := fun e => (h'.dF b e).2.2 rfl
  let C1 : Nat → Prop := fun x => (C x ∨ hot = some x) ∧ x < w4.heap.size
  have C1b : ¬ C1 b := by
    rintro ⟨hx | hx, _⟩
    · exact h'.nb hx
    · exact (hhot b hx).2.2.1 rfl
  have C1d : ∀ x, dv.ownBlock = some x → ¬ C1 x := by
    rintro x hx ⟨hc | hc, _⟩
    · exact (h'.dF x hx).2.1 hc
    · exact (hhot x hc).2.2.2.1 hx
  have C1F : ∀ x, C1 x → F x := by
    rintro x ⟨hc | hc, _⟩
    · exact (h'.cf x hc).1
    · exact (hhot x hc).1
  refine drawC_i (fun k x => (k = 7 ∧ dv.ownBlock = some x) ∨ (k = 10 ∧ x = b)) ?_
  rw [nilckK_i, faK_i, addr0]
  refine sld1_i ⟨h'.c0, fun j hj e => by rcases e with ⟨_, e⟩ | ⟨rfl, _⟩; exact dvb e; exact absurd hj (by decide)⟩ ?_
  refine callK_mono (gap_ok h' hb3) ?_
  rintro v5 w5 ⟨o5, g5⟩
  refine ⟨Grow.mod g5, ?_⟩
  have h5 := h'.grow g5
  have z5 := g5.size
  have d5 : OwnR 0 TOp 5 (RDop C1) w5 dv s.done := OwnR.mod h5.done (Mod.refl (fun _ => False) _) (fun _ _ h => h) fun r x _ hx => hx.mod (Mod.refl (fun _ => False) _) (fun _ _ _ h => h) fun y _ hy => ⟨.inl hy, (h'.cf y hy).2⟩
  obtain ⟨v6, w6, r1, o6, r3, r4⟩ := OwnR.append (ty := 50) elem_dop d5 (OwnR.sl o5) (fun _ _ => RDop.one) (by omega) (Nat.zero_le _) (by simp only [maxLen]; omega) fun w' hg r y hy => hy.mod (Mod.of_grownBy hg) (fun x _ hx e => C1d x e hx) fun _ _ h => h
  have m56 : Mod (fun x => dv.ownBlock = some x) w5 w6 := Mod.of_grownBy r3
  refine runK_i r1 ⟨m56.mono fun x _ e => .inl ⟨rfl, e⟩, ?_⟩
  have z6 := m56.size
  have hv6 := OwnR.one o6
  have l6 : ∀ q, q < 3 → Live w6 ⟨b, q, none⟩ := fun q hq => (h5.lv q hq).mod m56 dvb
  have own6 : ∀ x, v6.ownBlock = some x → dv.ownBlock = some x ∨ w4.heap.size ≤ x := fun x hx => by rcases r4 x hx with h | h; exact .inl h; exact .inr (by omega)
  rw [nilckK_i, faK_i, addr0]
  refine (l6 0 (by decide)).st hv6.1 hv6.2 ⟨Mod.setCell _ _ _ (.inr ⟨rfl, rfl⟩), ?_⟩
  rw [nilckK_i, faK_i, addr0]
  refine ((l6 1 (by decide)).set _ _).st rfl rfl ?_
  rw [nilckK_i, faK_i, addr0]
  refine (((l6 2 (by decide)).set _ _).set _ _).st rfl rfl ?_
  generalize hW7 : ((w6.setCell ⟨b, 0, none⟩ v6).setCell ⟨b, 1, none⟩ (.slice none 0 0)).setCell ⟨b, 2, none⟩ (.int .i64 0) = w7
  obtain ⟨m67, cell0, cell1, cell2, l7⟩ := set3 w6 b v6 (.slice none 0 0) (.int .i64 0) l6 w7 hW7.symm
  clear hW7
  have z7 := m67.size
  let F1 : Nat → Prop := fun x => F x ∨ w4.heap.size ≤ x
  have v6b : v6.ownBlock ≠ some b := fun e => by rcases own6 b e with h | h; exact dvb h; omega
  have d7 : OwnR 0 TOp 5 (RDop C1) w7 v6 (s.done ++ gapL s.ins s.gone) := OwnR.mod o6 m67 (fun x hx e => v6b (e ▸ hx)) fun r x _ hx => hx.cmod m67 fun y hy e => C1b (e ▸ hy)
  have K7 : MkR F1 w7 b ⟨s.done ++ gapL s.ins s.gone, [], 0⟩ v6 (.slice none 0 0) C1 none := by
    refine ⟨cell0, cell1, cell2, l7, .inl h'.fb, C1b, fun x hx => ⟨.inl (C1F x hx), by have := hx.2; omega⟩, d7, fun x hx => ⟨?_, ?_, fun e => v6b (e ▸ hx)⟩, .inl ⟨rfl, rfl, rfl⟩⟩
    · rcases own6 x hx with h | h
      · exact .inl (h'.dF x h).1
      · exact .inr h
    · intro hc
      rcases own6 x hx with h | h
      · exact C1d x h hc
      · have := hc.2; omega
  have m47 : Mod F w4 w7 := ((Grow.mod g5).trans (m56.mono fun x _ e => (h'.dF x e).1)).trans (m67.mono fun x _ e => by rw [e]; exact h'.fb)
  have m07 : Mod F w w7 := (Grow.mod gd).trans m47
  have p7 : RPat (fun x => S x ∧ x < w.heap.size) w7 pv p := h1'.mono (fun _ _ h => h) (fun x hb hx => m47.same x hb (hS x hx.1)) (by decide) fun _ _ h => h
  have dlen : (s.done ++ gapL s.ins s.gone).length ≤ s.done.length + s.ins.length + 1 := by simp; omega
  generalize hD : s.done ++ gapL s.ins s.gone = D at K7 d7 dlen ⊢
  clear o6 r1 r3 r4 own6 cell0 cell1 cell2 l6 m56 m67 o5 h5 d5
  obtain ⟨va, vc, rfl, _, _, hvp, hvn⟩ := OwnR.shape d7
  rw [nilckK_i, faK_i, addr0]
  refine ld1K_i K7.c0 ?_
  rw [lenK_i, subK_i, wrap64 (by omega) (by omega)]
  refine JoinK_i (fun vs w8 => vs = [.bool (lastPat D p)] ∧ Grow w7 w8) ?_ ?_
  rotate_left
  · rw [geK_i]
    refine condK_p (fun hge => ?_) fun hge => ?_
    · have hip : 0 < D.length := by omega
      have hlt : D.length - 1 < D.length := by omega
      rw [show ((D.length : Int) - 1) = ((D.length - 1 : Nat) : Int) by omega]
      rw [nilckK_i, faK_i, addr0]
      refine ld1K_i K7.c0 ?_
      obtain ⟨q, r, rfl, _, hr, hc, rv, sv', pv', rfl, q1, q2, q3⟩ := (OwnR.sl d7).get hlt
      refine ixK_n hlt ?_
      rw [faK_i, Addr.add_add]
      refine ld1K_i (hc 0 _ rfl) ?_
      rw [eqK_i]
      refine condK_p (fun hk => ?_) fun hk => ⟨by rw [lastPat, getLast_get hip]; simp [hk], Mod.refl _ _⟩
      rw [nilckK_i, faK_i, addr0]
      refine ld1K_i K7.c0 ?_
      refine ixK_n hlt ?_
      rw [faK_i, Addr.add_add]
      refine ld1K_i (hc 4 _ rfl) ?_
      refine callK_mono (same_pat q3 p7) ?_
      rintro v1 w8 ⟨rfl, g8⟩
      exact ⟨by rw [lastPat, getLast_get hip]; simp [hk], g8⟩
    · have : D = [] := List.eq_nil_of_length_eq_zero (by omega)
      exact ⟨by rw [lastPat, this]; rfl, Mod.refl _ _⟩
  rintro vs w8 ⟨rfl, g8⟩ _
  rw [nth_z, List.headD_cons]
  have K8 := K7.grow g8
  have z8 := g8.size
  have d8 : OwnR 0 TOp 5 (RDop C1) w8 (.slice va D.length vc) D := K8.done
  have p8 : RPat (fun x => S x ∧ x < w.heap.size) w8 pv p := p7.grow g8 (by decide) fun _ _ h => h
  have m08 : Mod F w w8 := m07.trans (Grow.mod g8)
  have vb : (Value.slice va D.length vc).ownBlock ≠ some b := fun e => (K8.dF b e).2.2 rfl
  cases hls : lastPat D p with
  | true =>
    rw [condK_b, if_pos rfl]
    have hip : 0 < D.length := by
      cases hn : D with
      | nil => rw [lastPat, hn] at hls; cases hls
      | cons a l => simp
    have hlt : D.length - 1 < D.length := by omega
    rw [lastPat, getLast_get hip] at hls
    simp only [decide_eq_true_eq] at hls
    rw [show ((D.length : Int) - 1) = ((D.length - 1 : Nat) : Int) by omega]
    cases va with
    | none => rw [hvn rfl] at hip; simp at hip
    | some vp =>
    obtain ⟨g7, rfl, _, hg7, _⟩ := hvp _ rfl
    rw [nilckK_i, faK_i, addr0]
    refine ld1K_i K8.c0 ?_
    obtain ⟨q, r, e, _, hr, hc, rv, sv', pv', rfl, q1, q2, q3⟩ := (OwnR.sl d8).get hlt
    cases e
    refine ixK_n hlt ?_
    rw [faK_i, Addr.add_add]
    refine ld1K_i (hc 1 _ rfl) ?_
    rw [addK_i]
    refine ixK_n hlt ?_
    rw [faK_i, Addr.add_add]
    obtain ⟨g7F, g7C, g7b⟩ := K8.dF g7 rfl
    obtain ⟨⟨u, hu⟩, hf, ho, hm⟩ := OwnR.store (R' := RDop C1) (u := .int .i64 (IntKind.i64.wrap (D[D.length - 1].n + n))) (x' := ⟨D[D.length - 1].kind, IntKind.i64.wrap (D[D.length - 1].n + n), D[D.length - 1].runes, D[D.length - 1].set, D[D.length - 1].patch⟩) d8 hlt (show 1 < 5 by decide) rfl
      (fun r y _ hy => hy.mod (Mod.setCell (M := fun x => x = g7) _ _ _ (by rw [addr0])) (fun x _ hx e => g7C (e ▸ hx)) fun _ _ h => h)
      (fun r hy => by
        obtain ⟨rv, sv', pv', rfl, p1, p2, p3⟩ := hy.mod (D' := C1) (Mod.setCell (M := fun x => x = g7) w8 ((⟨g7, 0, none⟩ : Addr).add ((D.length - 1) * 5 + 1)) (.int .i64 (IntKind.i64.wrap (D[D.length - 1].n + n))) (by rw [addr0])) (fun x _ hx e => g7C (e ▸ hx)) fun _ _ h => h
        exact ⟨rv, sv', pv', rfl, p1, p2, p3⟩)
    refine st1K_i rfl rfl hu hf ?_
    have eput : putS D n p = D.set (D.length - 1) ⟨D[D.length - 1].kind, IntKind.i64.wrap (D[D.length - 1].n + n), D[D.length - 1].runes, D[D.length - 1].set, D[D.length - 1].patch⟩ := by
      unfold putS
      rw [getLast_get hip]
      simp only [hls, and_self, if_true]
    have hm' : Mod (fun x => x = g7) w8 (w8.setCell ((⟨g7, 0, none⟩ : Addr).add ((D.length - 1) * 5 + 1)) (.int .i64 (IntKind.i64.wrap (D[D.length - 1].n + n)))) := hm
    refine ⟨⟨_, _, C1, none, hm'.cell K8.c0 (fun e => g7b e.symm), hm'.cell K8.c1 (fun e => g7b e.symm), hm'.cell K8.c2 (fun e => g7b e.symm), fun q hq => (K8.lv q hq).mod hm' (fun e => g7b e.symm), K8.fb, K8.nb, fun x hx => ⟨(K8.cf x hx).1, Nat.lt_of_lt_of_le (K8.cf x hx).2 hm'.size⟩, by rw [eput]; exact ho, K8.dF, .inl ⟨rfl, rfl, rfl⟩⟩, ?_⟩
    refine m08.next hm' fun x hx e => ?_
    subst e
    rcases g7F with h | h
    · exact h
    · omega
  | false =>
    rw [condK_b, if_neg (by simp)]
    have gd8 : Grow w8 w8.drew := Mod.drew _ _
    have K9 := K8.grow gd8
    have zd8 : w8.drew.heap.size = w8.heap.size := rfl
    have p9 : RPat (fun x => S x ∧ x < w.heap.size) w8.drew pv p := p8.grow gd8 (by decide) fun _ _ h => h
    have m09 : Mod F w w8.drew := m08.trans (Grow.mod gd8)
    generalize w8.drew = w9 at gd8 K9 zd8 p9 m09 ⊢
    refine drawC_i (fun k x => (k = 10 ∧ (Value.slice va D.length vc).ownBlock = some x) ∨ (k = 13 ∧ x = b)) ?_
    rw [nilckK_i, faK_i, addr0]
    refine sld1_i ⟨K9.c0, fun j hj e => by rcases e with ⟨_, e⟩ | ⟨rfl, _⟩; exact vb e; exact absurd hj (by decide)⟩ ?_
    refine callK_mono (copy_pat p9 hb2) ?_
    rintro t1 w10 ⟨n1, g10⟩
    refine ⟨Grow.mod g10, ?_⟩
    have K10 := K9.grow g10
    have z10 := g10.size
    obtain ⟨sa1, sc1, hsv1, _⟩ := OwnR.shape n1
    refine ⟨#[.int .u8 1, .int .i64 n, .slice none 0 0, .slice none 0 0, t1], by subst hsv1; kernel_rfl, ?_⟩
    let C2 : Nat → Prop := fun x => C1 x ∨ t1.ownBlock = some x
    have n1b : ∀ x, t1.ownBlock = some x → w9.heap.size ≤ x ∧ x < w10.heap.size := fun x hx => OwnR.ownB n1 x hx
    have hvl : ∀ x, (Value.slice va D.length vc).ownBlock = some x → x < w8.heap.size := fun x hx => (OwnR.ownB d8 x hx).2
    have C2v : ∀ x, (Value.slice va D.length vc).ownBlock = some x → ¬ C2 x := by
      rintro x hx (hc | hc)
      · exact (K8.dF x hx).2.1 hc
      · have := n1b x hc; have := hvl x hx; omega
    have C2b : ¬ C2 b := by
      rintro (hc | hc)
      · exact C1b hc
      · have := n1b b hc; omega
    have d10 : OwnR 0 TOp 5 (RDop C2) w10 (.slice va D.length vc) D := OwnR.mod K10.done (Mod.refl (fun _ => False) _) (fun _ _ h => h) fun r x _ hx => hx.mod (Mod.refl (fun _ => False) _) (fun _ _ _ h => h) fun y _ hy => .inl hy
    have eput : putS D n p = D ++ [⟨1, n, [], [], p⟩] := by
      unfold putS
      unfold lastPat at hls
      cases hl : D.getLast? with
      | none => rfl
      | some o => rw [hl] at hls; simp only [decide_eq_false_iff_not] at hls; simp only; rw [if_neg hls]
    refine push_g2 elem_dop d10 (Nat.zero_le _) (cs := row5 ⟨1, n, [], [], p⟩ (.slice none 0 0) (.slice none 0 0) t1) (x := ⟨1, n, [], [], p⟩) (by subst hsv1; kernel_rfl) rfl ⟨_, _, _, rfl, SlR.nil, SlR.nil, SlR.sub (OwnR.sl n1) (fun x _ hx => .inr hx.2) (by decide) fun _ _ h => h⟩ (fun _ _ _ => RDop.one) ?_ (by omega) (by simp only [maxLen]; omega) (fun _ g => Grow.mod g) fun w10' v' w11 o11 m10' m11 f11 => ?_
    · intro W1 W2 r y hz hm hy
      refine hy.mod hm (fun x _ hx e => ?_) fun _ _ h => h
      rcases e with e | e
      · exact C2v x e hx
      · rcases hx with hc | hc
        · have := hc.2; omega
        · have := n1b x hc; omega
    refine ⟨m10'.mono fun x _ e => .inl ⟨rfl, e⟩, ?_⟩
    have z11 := m11.size
    have hv11 := OwnR.one o11
    rw [nilckK_i, faK_i, addr0]
    have l11 : ∀ q, q < 3 → Live w11 ⟨b, q, none⟩ := fun q hq => (K10.lv q hq).mod m11 vb
    refine (l11 0 (by decide)).st hv11.1 hv11.2 ⟨Mod.setCell _ _ _ (.inr ⟨rfl, rfl⟩), ?_⟩
    have m12 := setA w11 b 0 v'
    have ne : ∀ q, q ≠ 0 → (⟨b, 0, none⟩ : Addr) ≠ ⟨b, q, none⟩ := fun q hq e => by simp only [Addr.mk.injEq] at e; omega
    obtain ⟨u, hu⟩ := Option.isSome_iff_exists.1 (l11 0 (by decide)).1
    have v'b : v'.ownBlock ≠ some b := fun e => by rcases f11 b e with h | h; exact vb h; omega
    have lv12 : ∀ q, q < 3 → Live (w11.setCell ⟨b, 0, none⟩ v') ⟨b, q, none⟩ := fun q hq => (l11 q hq).set _ _
    have c12 := World.cell?_setCell_same w11 ⟨b, 0, none⟩ v' hu
    have co : ∀ q u, q ≠ 0 → w10.cell? ⟨b, q, none⟩ = some u → (w11.setCell ⟨b, 0, none⟩ v').cell? ⟨b, q, none⟩ = some u := fun q u hq hu => (World.cell?_setCell_other _ _ _ _ (ne q hq)).trans (m11.cell hu vb)
    generalize w11.setCell ⟨b, 0, none⟩ v' = W at m12 lv12 c12 co ⊢
    have z12 := m12.size
    refine ⟨⟨v', _, C2, none, c12, co 1 _ (by decide) K10.c1, co 2 _ (by decide) K10.c2, lv12, .inl h'.fb, C2b, fun x hx => ?_, ?_, fun x hx => ?_, .inl ⟨rfl, rfl, rfl⟩⟩, ?_⟩
    · rcases hx with hc | hc
      · exact ⟨.inl (C1F x hc), by have := hc.2; omega⟩
      · have := n1b x hc; exact ⟨.inr (by omega), by omega⟩
    · rw [eput]
      exact OwnR.mod o11 m12 (fun x hx e => v'b (e ▸ hx)) fun r x _ hx => hx.cmod m12 fun y hy e => C2b (e ▸ hy)
    · rcases f11 x hx with h | h
      · exact ⟨(K8.dF x h).1, C2v x h, (K8.dF x h).2.2⟩
      · refine ⟨.inr (by omega), ?_, fun e => v'b (e ▸ hx)⟩
        rintro (hc | hc)
        · have := hc.2; omega
        · have := n1b x hc; omega
    · refine ((m09.trans (Grow.mod g10)).next m11 fun x hx e => ?_).next m12 fun x _ e => by rw [e]; exact h'.fb
      rcases (K8.dF x e).1 with h | h
      · exact h
      · omega
end Go.Proofs.Ytmfplfaeibehiaa

namespace Go.Proofs.Ytmfplfaeibehiaa
open Go Go.K

theorem mDops_app (l m : List Dop) : mDops (l ++ m) = mDops l + mDops m := by simp [mDops]
theorem mDops_one (o : Dop) : mDops [o] = mDop o := by simp [mDops]
theorem gapL_m (ins : List Dop) (g : Int) : mDops (gapL ins g) ≤ mDops ins + 1 := by
  unfold gapL; split
  · rw [mDops_app, mDops_one]; simp [mDop, mSet, mPat]
  · omega
theorem putS_m (d : List Dop) (n : Int) (p : List Chg) : mDops (putS d n p) ≤ mDops d + 1 + mPat p := by
  rcases snoc_cases d with rfl | ⟨i, b, rfl⟩
  · simp [putS, mDops, mDop, mSet]
  · unfold putS
    rw [List.getLast?_append, List.getLast?_singleton, Option.some_or]
    simp only
    split
    · rw [set_last]
      simp only [mDops_app, mDops_one, mDop]; omega
    · simp only [mDops_app, mDops_one, mDop, mSet, List.length_nil, List.map_nil, List.sum_nil]; omega
theorem addI_m (d : List Dop) (rs : List Int) (set : List Attr) : mDops (addI d rs set) ≤ mDops d + 1 + rs.length + mSet set := by
  rcases snoc_cases d with rfl | ⟨i, b, rfl⟩
  · simp [addI, mDops, mDop, mPat]
  · unfold addI
    rw [List.getLast?_append, List.getLast?_singleton, Option.some_or]
    simp only
    split
    · rw [set_last]
      simp only [mDops_app, mDops_one, mDop, List.length_append]; omega
    · simp only [mDops_app, mDops_one, mDop, mPat, List.map_nil, List.sum_nil]; omega
theorem stepS_m (s : MkS) (o : Dop) : mDops (stepS s o).done + mDops (stepS s o).ins ≤ mDops s.done + mDops s.ins + 2 * mDop o := by
  have h0 : 1 ≤ mDop o := by simp [mDop]; omega
  unfold stepS
  split
  · unfold retS
    split
    · omega
    · have h1 := putS_m (s.done ++ gapL s.ins s.gone) o.n o.patch
      have h2 := gapL_m s.ins s.gone
      rw [mDops_app] at h1
      simp only [mDop] at h0 ⊢
      simp only [mDops, List.map_nil, List.sum_nil] at h1 h2 ⊢
      omega
  · split
    · unfold insS
      split
      · omega
      · have h1 := addI_m s.ins o.runes o.set
        simp only [mDop] at h0 ⊢
        omega
    · simp only [delS]; omega
theorem runS_m (x : List Dop) : mDops (runS x).done + mDops (runS x).ins ≤ 2 * mDops x := by
  induction x using rev_ind with
  | h0 => exact Nat.zero_le _
  | h1 x o ih =>
    have e : runS (x ++ [o]) = stepS (runS x) o := by simp [runS]
    rw [e, mDops_app, mDops_one]
    have := stepS_m (runS x) o
    omega
theorem mDops_sub {l : List Dop} : mDops (trimL l) ≤ mDops l := by
  unfold trimL
  split
  · split
    · rw [List.dropLast_eq_take]; exact mDops_le _ _
    · exact Nat.le_refl _
  · exact Nat.le_refl _
/-- Ops -/
theorem ops_ok {F : Nat → Prop} {w : World} {b : Nat} {s : MkS} (h : MkI F w b s) (hb : mDops s.done + mDops s.ins ≤ 274877906944) :
    callK Try.prog 43 [.pointer (some ⟨b, 0, none⟩)] (fun v' w' => ODops w.heap.size w' v' (opsS s) ∧ Grow w w') w := by
  apply S43_ok
  unfold S43
  obtain ⟨dv, iv, C, hot, h⟩ := h
  have hdl := mDops_len s.done
  have hil := mDops_len s.ins
  have hgm := gapL_m s.ins s.gone
  have hgl := mDops_len (gapL s.ins s.gone)
  rw [pnilK_i]
  simp only [Option.isNone_some]
  rw [condK_b, if_neg (by simp)]
  have gd : Grow w w.drew := Mod.drew _ _
  have h' := h.grow gd
  have zd : w.drew.heap.size = w.heap.size := rfl
  rw [← zd]
  have fin : ∀ {W' : World}, Grow w.drew W' → Grow w W' := fun g => gd.trans g
  generalize w.drew = w1 at gd h' zd fin ⊢
  refine drawC_i (fun _ _ => False) ?_
  rw [nilckK_i, faK_i, addr0]
  refine sld1_i ⟨h'.c0, fun j hj e => e⟩ ?_
  refine callK_mono (gap_ok h' (by omega)) ?_
  rintro v2 w2 ⟨o2, g2⟩
  refine ⟨g2, ?_⟩
  obtain ⟨a1, c1, hv1, hm1, _⟩ := OwnR.shape h'.done
  obtain ⟨a2, c2, hv2, hm2, _⟩ := OwnR.shape o2
  refine rowK_i (cs := [dv, v2]) (by subst hv1; subst hv2; kernel_rfl) ?_
  have g3 : Grow w2 (w2.alloc (.cells [dv, v2].toArray 50)) := Mod.alloc _ _ _
  have hc3 : ∀ j v, [dv, v2][j]? = some v → (w2.alloc (.cells [dv, v2].toArray 50)).cell? ((⟨w2.heap.size, 0, none⟩ : Addr).add j) = some v := fun j v hv => cell_box hv
  generalize w2.alloc (.cells [dv, v2].toArray 50) = w3 at g3 hc3 ⊢
  refine ⟨g3, ?_⟩
  have g13 := g2.trans g3
  have z3 := g13.size
  have rd : RDops (fun _ => True) (fun x => C x) w3 dv s.done := SlR.sub (OwnR.sl (h'.grow g13).done) (fun _ _ _ => trivial) (by decide) fun _ _ h => h
  have rg : RDops (fun _ => True) (fun x => (C x ∨ hot = some x) ∧ x < w1.heap.size) w3 v2 (gapL s.ins s.gone) := by
    have := OwnR.mod (R' := RDop fun x => (C x ∨ hot = some x) ∧ x < w1.heap.size) o2 g3 (fun _ _ h => h) fun r y _ hy => hy.mod g3 (fun _ _ _ h => h) fun _ _ h => h
    exact SlR.sub (OwnR.sl this) (fun _ _ _ => trivial) (by decide) fun _ _ h => h
  refine callK_mono (concat_dops rd rg (by rw [← addr0 w2.heap.size 0]; exact hc3 0 _ rfl) (hc3 1 _ rfl) (by omega)) ?_
  rintro v4 w4 ⟨o4, g4⟩
  refine ⟨g4, ?_⟩
  have g14 := g13.trans g4
  have z14 := g14.size
  have hlm : mDops (s.done ++ gapL s.ins s.gone) ≤ 549755813888 := by rw [mDops_app]; omega
  have hop : opsS s = trimL (s.done ++ gapL s.ins s.gone) := rfl
  rw [hop]
  generalize s.done ++ gapL s.ins s.gone = L at o4 hlm ⊢
  have hLl := mDops_len L
  have r4 := OwnR.sl o4
  obtain ⟨va, vc, rfl, _, _, _⟩ := OwnR.shape o4
  refine JoinK_i (fun vs w5 => ∃ v, vs = [v] ∧ Grow w1 w5 ∧ RDops (fun _ => True) (fun _ => True) w5 v (trimL L)) ?_ ?_
  · rintro vs w5 ⟨v, rfl, g5, h5⟩ _
    rw [nth_z, List.headD_cons]
    refine callK_mono (copy_dops h5 (by have := mDops_sub (l := L); omega)) ?_
    rintro v6 w6 ⟨o6, g6⟩
    have := g5.size
    refine ⟨?_, fin (g5.trans g6)⟩
    refine OwnR.mod (OwnR.base o6 fun g hg => by have := (OwnR.ownB o6 g hg).1; omega) (Mod.refl (fun _ => False) _) (fun _ _ h => h) fun r x _ hx => hx.mod (Mod.refl (fun _ => False) _) (fun _ _ _ h => h) fun y _ hy => ⟨by omega, hy.2⟩
  · have rT : RDops (fun _ => True) (fun _ => True) w4 (.slice va L.length vc) L := SlR.sub r4 (fun _ _ _ => trivial) (by decide) fun r x hx => hx.mod (Mod.refl (fun _ => False) _) (fun _ _ _ h => h) fun _ _ _ => trivial
    rw [lenK_i, subK_i, wrap64 (by omega) (by omega), geK_i]
    refine condK_p (fun hge => ?_) fun hge => ?_
    · have hip : 0 < L.length := by omega
      have hlt : L.length - 1 < L.length := by omega
      rw [show ((L.length : Int) - 1) = ((L.length - 1 : Nat) : Int) by omega]
      obtain ⟨q, r, rfl, _, hr, hc, rv, sv', pv', rfl, q1, q2, q3⟩ := rT.get hlt
      refine ixK_n hlt ?_
      rw [faK_i, Addr.add_add]
      refine ld1K_i (hc 0 _ rfl) ?_
      rw [eqK_i]
      refine condK_p (fun hk => ?_) fun hk => ⟨_, rfl, g14, by rw [trimL, getLast_get hip]; simp only; rw [if_neg (fun h => hk h.1)]; exact rT⟩
      refine ixK_n hlt ?_
      rw [faK_i, Addr.add_add]
      refine ld1K_i (hc 4 _ rfl) ?_
      obtain ⟨pa, pc, rfl, _⟩ := q3.shape
      rw [lenK_i, eqK_i]
      refine condK_p (fun hp => ?_) fun hp => ⟨_, rfl, g14, by rw [trimL, getLast_get hip]; simp only; rw [if_neg (fun h => hp (len0.2 h.2))]; exact rT⟩
      refine slice_hi (e := 59) (i := Try.t59) (by kernel_rfl) (by kernel_rfl) (by kernel_rfl) rT (Nat.sub_le _ _) fun v' hv' => ?_
      refine ⟨v', rfl, g14, ?_⟩
      rw [trimL, getLast_get hip]
      simp only
      rw [if_pos ⟨hk, len0.1 hp⟩, List.dropLast_eq_take]
      exact hv'
    · have : L = [] := List.eq_nil_of_length_eq_zero (by omega)
      subst this
      exact ⟨_, rfl, g14, rT⟩
/-- Of -/
theorem of_dops {S D : Nat → Prop} {v : Value} {x : List Dop} {w : World} (h : RDops S D w v x) (hb : mDops x ≤ 68719476736) :
    callK Try.prog 32 [v] (fun v' w' => ODops w.heap.size w' v' (normB x) ∧ Grow w w') w := by
  apply S32_ok
  unfold S32
  have hxl := mDops_len x
  refine callK_mono new_ok ?_
  rintro v1 w1 ⟨g1, b, hb1, hb2, rfl, hI1⟩
  have ho := h.old
  obtain ⟨a, c, rfl, hm⟩ := h.shape
  rw [lenK_i]
  refine LoopK_i (fun vs w2 => ∃ k : Nat, k ≤ x.length ∧ vs = [.int .i64 k] ∧ Grow w w2 ∧ MkI (fun y => w.heap.size ≤ y) w2 b (runS (x.take k))) (fun vs _ => x.length - iOf vs 0) ⟨0, Nat.zero_le _, rfl, g1, hI1.sub fun y hy => by rw [hy]; exact hb1⟩ ?_
  rintro vs w2 ⟨k, hk, rfl, g2, hI⟩ _
  rw [nth_z, List.headD_cons, ltK_i]
  have hmk := runS_m (x.take k)
  have hmk2 := mDops_le x k
  refine condK_p (fun hlt => ?_) fun hge => ?_
  · have hlt' : k < x.length := by omega
    have hmem : x[k] ∈ x := by simp
    have hmo := mDops_mem hmem
    obtain ⟨p, r, rfl, _, hr, hc, hop⟩ := (RDops.grow ho g2).get hlt'
    refine ixK_n hlt' (ldnK_i hr (fun j u hu => by rw [Addr.add_add]; exact hc j u hu) ?_)
    refine newst_n (vs := r) hr rfl hop.one fun bb w3 hbb hz3 g3 hc3 _ => ?_
    have g23 := g2.trans g3
    have hI3 : MkI (fun y => w.heap.size ≤ y) w3 b (runS (x.take k)) := hI.mod g3 fun _ _ h => h
    obtain ⟨rv, sv, pv, rfl, q1, q2, q3⟩ := hop.mod (D' := fun b => D b ∧ b < w.heap.size) g3 (fun _ _ _ h => h) fun _ _ h => h
    have estep : runS (x.take (k + 1)) = stepS (runS (x.take k)) x[k] := by
      rw [List.take_add_one, List.getElem?_eq_getElem hlt']; simp only [runS, Option.toList, List.foldl_append, List.foldl_cons, List.foldl_nil]
    have next : ∀ w4, MkI (fun y => w.heap.size ≤ y) w4 b (runS (x.take (k + 1))) → Mod (fun y => w.heap.size ≤ y) w3 w4 → (∃ k' : Nat, k' ≤ x.length ∧ [Value.int .i64 ((k + 1 : Nat) : Int)] = [.int .i64 k'] ∧ Grow w w4 ∧ MkI (fun y => w.heap.size ≤ y) w4 b (runS (x.take k'))) ∧ x.length - iOf [Value.int .i64 ((k + 1 : Nat) : Int)] 0 < x.length - iOf [Value.int .i64 k] 0 :=
      fun w4 h4 m4 => ⟨⟨k + 1, hlt', rfl, g23.next m4 fun y hy e => by omega, h4⟩, by rw [iOf0, iOf0]; omega⟩
    have wsz := g23.size
    have hdl := mDops_len (runS (x.take k)).done
    have hil := mDops_len (runS (x.take k)).ins
    simp only [mDop] at hmo
    have hps : x[k].patch.length ≤ mPat x[k].patch := by rw [mPat_eq]; omega
    have hss : x[k].set.length ≤ mSet x[k].set := by rw [mSet_eq]; omega
    simp only [faK_i]
    refine ld1K_i (hc3 0 _ rfl) ?_
    rw [eqK_i]
    refine condK_p (fun k1 => ?_) fun k1 => ?_
    · refine ld1K_i (hc3 1 _ rfl) (ld1K_i (hc3 4 _ rfl) ?_)
      refine callK_mono (retain_ok hI3 q3 (fun y hy hf => by have := hy.2; omega) (by omega) (by omega)) ?_
      rintro v4 w4 ⟨h4, m4⟩
      rw [addK_i, loop_step (by omega)]
      refine next w4 ?_ m4
      rw [estep, stepS, if_pos k1]
      exact h4.sub fun y hy => by rcases hy with hy | hy; exact hy; omega
    · rw [eqK_i]
      refine condK_p (fun k2 => ?_) fun k2 => ?_
      · refine ld1K_i (hc3 2 _ rfl) (ld1K_i (hc3 3 _ rfl) ?_)
        refine callK_mono (insert_ok hI3 q1 q2 (fun y hy hf => by have := hy.2; omega) (by omega) (fun o ho => by have := mDops_mem ho; simp only [mDop] at this; omega) (by omega) (by omega)) ?_
        rintro v4 w4 ⟨h4, m4⟩
        rw [addK_i, loop_step (by omega)]
        refine next w4 ?_ m4
        rw [estep, stepS, if_neg k1, if_pos k2]
        exact h4.sub fun y hy => by rcases hy with hy | hy; exact hy; omega
      · refine ld1K_i (hc3 1 _ rfl) ?_
        refine callK_mono (delete_ok hI3) ?_
        rintro v4 w4 ⟨h4, m4⟩
        rw [addK_i, loop_step (by omega)]
        refine next w4 ?_ m4
        rw [estep, stepS, if_neg k1, if_neg k2]
        exact h4
  · have : k = x.length := by omega
    subst this
    rw [List.take_length] at hI hmk
    refine callK_mono (ops_ok hI (by omega)) ?_
    rintro v3 w3 ⟨o3, g3⟩
    have := g2.size
    refine ⟨?_, g2.trans g3⟩
    exact OwnR.mod (OwnR.base o3 fun g hg => by have := (OwnR.ownB o3 g hg).1; omega) (Mod.refl (fun _ => False) _) (fun _ _ h => h) fun r x _ hx => hx.mod (Mod.refl (fun _ => False) _) (fun _ _ _ h => h) fun y _ hy => ⟨by omega, hy.2⟩
theorem is_dops {S D : Nat → Prop} {v : Value} {x : List Dop} {w : World} (h : RDops S D w v x) (hb : mDops x ≤ 68719476736) :
    callK Try.prog 34 [v] (fun v' w' => v' = .bool (decide (normB x = x)) ∧ Grow w w') w := by
  apply S34_ok
  unfold S34
  refine callK_mono (of_dops h hb) ?_
  rintro v1 w1 ⟨o1, g1⟩
  refine callK_mono (same_dops (ODops.reads o1) (RDops.grow h g1)) ?_
  rintro v2 w2 ⟨rfl, g2⟩
  exact ⟨rfl, g1.trans g2⟩
end Go.Proofs.Ytmfplfaeibehiaa

namespace Go.Proofs.Ytmfplfaeibehiaa
open Go Go.K

theorem rsame_dops {S S' D D' : Nat → Prop} {a b : Value} {x y : List Dop} {w : World} (ha : RDops S D w a x) (hb : RDops S' D' w b y) :
    callK Try.prog 36 [a, b] (fun v w' => v = .bool (decide (x = y)) ∧ Grow w w') w := by
  apply S36_ok
  unfold S36
  obtain ⟨pa, ca, rfl, hla⟩ := ha.shape
  obtain ⟨pb, cb, rfl, hlb⟩ := hb.shape
  simp only [maxLen] at hla
  have no : ∀ w', Grow w w' → x ≠ y → Value.bool false = .bool (decide (x = y)) ∧ Grow w w' := fun w' g hn => ⟨by rw [decide_eq_false hn], g⟩
  rw [lenK_i, lenK_i, neK_i]
  refine condK_neg (fun hlen => ?_) fun hne => no _ (Mod.refl _ _) fun e => hne (by rw [e])
  have hlen' : x.length = y.length := by omega
  refine LoopK_i (fun vs w1 => ∃ i : Nat, i ≤ x.length ∧ vs = [.int .i64 i] ∧ Grow w w1 ∧ x.take i = y.take i) (fun vs _ => x.length - iOf vs 0) ⟨0, Nat.zero_le _, rfl, Mod.refl _ _, rfl⟩ ?_
  rintro vs w1 ⟨i, hi, rfl, g1, ht⟩ _
  rw [lenK_i, nth_z, List.headD_cons, ltK_i]
  refine condK_p (fun hlt => ?_) fun hge => ?_
  · have hlt' : i < x.length := by omega
    have hlt2 : i < y.length := by omega
    have no2 : ∀ w', Grow w w' → x[i] ≠ y[i] → Value.bool false = .bool (decide (x = y)) ∧ Grow w w' := fun w' g hn => no w' g (by rintro rfl; exact hn rfl)
    refine JoinK_i (fun _ w2 => Grow w w2 ∧ x[i] = y[i]) ?_ ?_
    · rintro _ w2 ⟨g2, he⟩ _
      rw [addK_i, loop_step (by omega)]
      refine ⟨⟨i + 1, hlt', rfl, g2, ?_⟩, by rw [iOf0, iOf0]; omega⟩
      rw [List.take_add_one, List.take_add_one, ht, List.getElem?_eq_getElem hlt', List.getElem?_eq_getElem hlt2, he]
    · obtain ⟨p, r, rfl, _, hr, hc, hx⟩ := (RDops.grow ha g1).get hlt'
      obtain ⟨p', r', rfl, _, hr', hc', hy⟩ := (RDops.grow hb g1).get hlt2
      refine JoinK_i (fun vs w3 => ∃ b6 b7, vs = [.pointer (some ⟨b6, 0, none⟩), .pointer (some ⟨b7, 0, none⟩)] ∧ Grow w1 w3 ∧ (∀ j u, r[j]? = some u → w3.cell? ((⟨b6, 0, none⟩ : Addr).add j) = some u) ∧ (∀ j u, r'[j]? = some u → w3.cell? ((⟨b7, 0, none⟩ : Addr).add j) = some u)) ?_ ?_
      · rintro _ w3 ⟨b6, b7, rfl, g3, c6, c7⟩ _
        have hx3 := hx.mod (D' := D) g3 (fun _ _ _ h => h) fun _ _ h => h
        have hy3 := hy.mod (D' := D') g3 (fun _ _ _ h => h) fun _ _ h => h
        obtain ⟨rv, sv, pv, rfl, x1, x2, x3⟩ := hx3
        obtain ⟨rv', sv', pv', rfl, y1, y2, y3⟩ := hy3
        have g13 := g1.trans g3
        show faK 0 (.pointer (some ⟨b6, 0, none⟩)) _
        simp only [nth_z, nth_s, List.headD_cons, List.tail_cons, faK_i]
        refine ld1K_i (c6 0 _ rfl) (ld1K_i (c7 0 _ rfl) ?_)
        rw [neK_i]
        refine condK_neg (fun e1 => ?_) fun hne => no2 _ g13 fun e => hne (by rw [e])
        refine ld1K_i (c6 1 _ rfl) (ld1K_i (c7 1 _ rfl) ?_)
        rw [neK_i]
        refine condK_neg (fun e2 => ?_) fun hne => no2 _ g13 fun e => hne (by rw [e])
        refine ld1K_i (c6 2 _ rfl) (ld1K_i (c7 2 _ rfl) ?_)
        refine callK_mono (rsame_run x1 y1) ?_
        rintro _ w4 ⟨rfl, g4⟩
        rw [notK_i]
        refine condK_neg (fun e3 => ?_) fun hne => no2 _ (g13.trans g4) fun e => hne (by rw [e])
        refine ld1K_i (g4.cell (c6 3 _ rfl) fun h => h) (ld1K_i (g4.cell (c7 3 _ rfl) fun h => h) ?_)
        refine callK_mono (rsame_set (x2.grow g4 (by decide) fun _ _ h => h) (y2.grow g4 (by decide) fun _ _ h => h)) ?_
        rintro _ w5 ⟨rfl, g5⟩
        rw [notK_i]
        have g45 := g4.trans g5
        refine condK_neg (fun e4 => ?_) fun hne => no2 _ (g13.trans g45) fun e => hne (by rw [e])
        refine ld1K_i (g45.cell (c6 4 _ rfl) fun h => h) (ld1K_i (g45.cell (c7 4 _ rfl) fun h => h) ?_)
        refine callK_mono (rsame_pat (x3.grow g45 (by decide) fun _ _ h => h) (y3.grow g45 (by decide) fun _ _ h => h)) ?_
        rintro _ w6 ⟨rfl, g6⟩
        rw [notK_i]
        refine condK_neg (fun e5 => ⟨(g13.trans g45).trans g6, ?_⟩) fun hne => no2 _ ((g13.trans g45).trans g6) fun e => hne (by rw [e])
        have eta : ∀ o : Dop, o = ⟨o.kind, o.n, o.runes, o.set, o.patch⟩ := fun _ => rfl
        rw [eta x[i], eta y[i], e1, e2, e3, e4, e5]
      · refine drawC_i (fun k y => (k = 10 ∨ k = 11) ∧ w1.heap.size ≤ y) ?_
        have gd : Grow w1 w1.drew := Mod.drew _ _
        have one := RDop.one hx
        have one' := RDop.one hy
        have zd := gd.size
        refine ixK_n hlt' (sldn_i hr (fun j u hu => ⟨by rw [Addr.add_add]; exact gd.cell (hc j u hu) fun h => h, fun k hk e => ?_⟩) ?_)
        · rcases e with ⟨rfl | rfl, _⟩ <;> exact absurd hk (by decide)
        refine ixK_n hlt2 (sldn_i hr' (fun j u hu => ⟨by rw [Addr.add_add]; exact gd.cell (hc' j u hu) fun h => h, fun k hk e => ?_⟩) ?_)
        · have := World.block_lt_of_cell? w1 _ (hc' j u hu)
          rw [add_block] at this
          rw [add_block, add_block] at e
          omega
        refine ⟨?_, ?_⟩
        · refine newz_i fun b6 w17 hb6 hz6 g6 _ hl6 => ⟨g6.mono fun _ _ h => h.elim, ?_⟩
          refine newz_i fun b7 w18 hb7 hz7 g7 _ hl7 => ⟨g7.mono fun _ _ h => h.elim, ?_⟩
          refine stn_over hr one (fun j hj => (hl6 j hj).mod g7 fun h => h) fun w19 m19 hc6 _ => ⟨m19.mono fun y _ e => ⟨.inl rfl, by omega⟩, ?_⟩
          refine stn_over hr' one' (fun j hj => (hl7 j hj).mod m19 fun e => absurd (show b7 = b6 by rw [addr0] at e; exact e) (by omega)) fun w20 m20 hc7 _ => ⟨m20.mono fun y _ e => ⟨.inr rfl, by omega⟩, b6, b7, rfl, ?_, fun j u hu => m20.cell (hc6 j u hu) fun e => absurd (show b6 = b7 by rw [addr0] at e; exact e) (by omega), hc7⟩
          exact (((gd.trans g6).trans g7).next m19 fun x hx e => by omega).next m20 fun x hx e => by omega
        · refine newz_i fun b7 w17 hb7 hz7 g7 _ hl7 => ⟨g7.mono fun _ _ h => h.elim, ?_⟩
          refine newz_i fun b6 w18 hb6 hz6 g6 _ hl6 => ⟨g6.mono fun _ _ h => h.elim, ?_⟩
          refine stn_over hr one hl6 fun w19 m19 hc6 _ => ⟨m19.mono fun y _ e => ⟨.inl rfl, by omega⟩, ?_⟩
          refine stn_over hr' one' (fun j hj => ((hl7 j hj).mod g6 fun h => h).mod m19 fun e => absurd (show b7 = b6 by rw [addr0] at e; exact e) (by omega)) fun w20 m20 hc7 _ => ⟨m20.mono fun y _ e => ⟨.inr rfl, by omega⟩, b6, b7, rfl, ?_, fun j u hu => m20.cell (hc6 j u hu) fun e => absurd (show b6 = b7 by rw [addr0] at e; exact e) (by omega), hc7⟩
          exact (((gd.trans g7).trans g6).next m19 fun x hx e => by omega).next m20 fun x hx e => by omega
  · have : i = x.length := by omega
    subst this
    rw [List.take_length, hlen', List.take_length] at ht
    exact ⟨by rw [decide_eq_true ht], g1⟩
end Go.Proofs.Ytmfplfaeibehiaa

namespace Go.K
open Go
theorem SlR.rows {α : Type} {S : Nat → Prop} {k : Nat} {R : World → List Value → α → Prop} {w : World} {a : Option Addr} {c n : Nat} {m : List α} (hx : SlR S k R w (.slice a n c) m) (hone : ∀ r y, R w r y → ∀ u ∈ r, u.oneCell' = true) :
    ∃ rows' : List (List Value), rows'.length = m.length ∧ (∀ (i : Nat) (r : List Value), rows'[i]? = some r → r.length = k ∧ (∀ u ∈ r, u.oneCell' = true) ∧ (∃ p, a = some p ∧ ∀ j u, r[j]? = some u → w.cell? (p.add (i * k + j)) = some u) ∧ ∃ y, m[i]? = some y ∧ R w r y) := by
  obtain ⟨a', c', e, _, _, hel⟩ := hx
  cases e
  have gen : ∀ q, q ≤ m.length → ∃ rows' : List (List Value), rows'.length = q ∧ (∀ (i : Nat) (r : List Value), rows'[i]? = some r → r.length = k ∧ (∀ u ∈ r, u.oneCell' = true) ∧ (∃ p, a = some p ∧ ∀ j u, r[j]? = some u → w.cell? (p.add (i * k + j)) = some u) ∧ ∃ y, m[i]? = some y ∧ R w r y) := by
    intro q
    induction q with
    | zero => exact fun _ => ⟨[], rfl, fun i r h => by simp at h⟩
    | succ q ih =>
      intro hq
      obtain ⟨rs, e1, e2⟩ := ih (by omega)
      obtain ⟨p, r, f1, f2, f3, f4, f5⟩ := hel q m[q] (by simp [show q < m.length by omega])
      refine ⟨rs ++ [r], by simp [e1], fun i r' hr' => ?_⟩
      by_cases hi : i < q
      · rw [List.getElem?_append_left (by omega)] at hr'; exact e2 i r' hr'
      · have : i = q := by have := (List.getElem?_eq_some_iff.1 hr').1; simp [e1] at this; omega
        subst this
        rw [List.getElem?_append_right (by omega)] at hr'
        simp [e1] at hr'
        subst hr'
        exact ⟨f3, hone _ _ f5, ⟨p, f1, f4⟩, m[i], by simp [show i < m.length by omega], f5⟩
  exact gen m.length (Nat.le_refl _)
theorem append_new {α : Type} {P : Program} {t ty e k bytes b : Nat} {R : World → List Value → α → Prop} {S : Nat → Prop} {w : World} {x : Value} {m : List α} (hE : ElemOK P t e k bytes) (hb : w.heap[b]? = some (.cells #[] e (0, 0))) (hx : SlR S k R w x m)
    (hone : ∀ w r y, R w r y → ∀ u ∈ r, u.oneCell' = true) (h63 : m.length * bytes ≤ 140737488355328) (hR : ∀ w', w.grownBy w' (some b) → ∀ r y, R w r y → R w' r y) :
    ∃ v' w', (Builtin.append_ #[t, t] ty [.slice (some ⟨b, 0, none⟩) 0 0, x].toArray).run P w = .ok v' w' ∧ OwnR b e k R w' v' m ∧ Grow w w' ∧ ∀ g, v'.ownBlock = some g → g = b ∨ w.heap.size ≤ g := by
  obtain ⟨a, c, rfl, hm⟩ := hx.shape
  have hlt : b < w.heap.size := (Array.getElem?_eq_some_iff.1 hb).1
  have ho : OwnR b e k R w (.slice (some ⟨b, 0, none⟩) 0 0) ([] : List α) := ⟨[], ⟨by simp, .inr ⟨b, 0, #[], rfl, Nat.le_refl _, hb, Nat.le_refl _, by simp [maxLen], by simp, by simp⟩⟩, rfl, by simp, by simp⟩
  obtain ⟨v', w', hrun, r2, r3, r4⟩ := OwnR.append (ty := ty) hE ho hx (fun _ _ => hone _ _ _) (by simpa using h63) (by omega) (by simpa using hm) (fun w' hg r y hy => hR w' hg r y hy)
  refine ⟨v', w', hrun, by simpa using r2, ?_, fun g hg => ?_⟩
  · obtain ⟨i, z, ht, hi, hz, hs, hbt, hzs, hk⟩ := hE
    obtain ⟨rows', g1, g2⟩ := SlR.rows hx (fun _ _ => hone _ _ _)
    have hlen : ∀ r ∈ rows', r.length = k := fun r hr => by obtain ⟨j, hj⟩ := List.mem_iff_getElem?.1 hr; exact (g2 j r hj).1
    simp only [maxLen] at hm
    by_cases hm0 : m.length = 0
    · have h0 : (Builtin.append_ #[t, t] ty [.slice (some ⟨b, 0, none⟩) 0 0, .slice a m.length c].toArray).run P w = .ok (.slice (some ⟨b, 0, none⟩) 0 0) w := by
        rw [hm0]
        cases a <;> simp [Builtin.append_, run_underlying ht, sizeOf, typeInfo, hi, Builtin.lenOf, Builtin.firstCells, storeCells, loadCells, loadCellsFrom]
      rw [h0] at hrun
      cases hrun
      exact Mod.refl _ _
    · obtain ⟨p, r, f1, _⟩ := hx.get (i := 0) (by omega)
      subst f1
      have hr := run_append_grow (P := P) w t ty e i z ht hi hz ⟨b, 0, none⟩ 0 0 [] (by simp) (by simp) p m.length c rows'.flatten (by rw [flat_len rows' hlen, g1, hs]) (fun q u hu => by
        obtain ⟨r, hr, hru⟩ := flat_of_get hk rows' hlen q u hu
        obtain ⟨_, _, ⟨p', hp', hc'⟩, _⟩ := g2 _ r hr
        cases hp'
        have := hc' _ u hru
        rwa [Nat.div_add_mod'] at this) (by omega) (by omega) (growslice_fits (by omega) (by rw [hbt]; simpa using h63))
      have hr' : (Builtin.append_ #[t, t] ty [.slice (some ⟨b, 0, none⟩) 0 0, .slice (some p) m.length c].toArray).run P w = _ := hr
      rw [hr'] at hrun
      cases hrun
      exact (Mod.drew _ _).trans (Mod.alloc _ _ _)
  · rcases r4 g hg with h | h
    · exact .inl (by simpa [Value.ownBlock] using h.symm)
    · exact .inr h
end Go.K

namespace Go.Proofs.Ytmfplfaeibehiaa
open Go Go.K

theorem rcopy_dops {S D : Nat → Prop} {v : Value} {x : List Dop} {w : World} (h : RDops S D w v x) (hb : mDops x ≤ 1099511627776) :
    callK Try.prog 33 [v] (fun v' w' => ODops w.heap.size w' v' x ∧ Grow w w') w := by
  apply S33_ok
  unfold S33
  have hxl := mDops_len x
  obtain ⟨a, c, rfl, hmx⟩ := h.shape
  have hsz : ∀ o ∈ x, o.runes.length * 4 ≤ 140737488355328 ∧ o.set.length * 48 ≤ 140737488355328 ∧ o.patch.length * 56 ≤ 140737488355328 := by
    intro o ho
    have := mDops_mem ho
    simp only [mDop, mSet_eq, mPat_eq] at this
    omega
  refine LoopK_i (fun vs W => ∃ (i : Nat) (ov : Value), i ≤ x.length ∧ vs = [ov, .int .i64 i] ∧ ODops w.heap.size W ov (x.take i) ∧ Grow w W) (fun vs _ => x.length - iOf vs 1) ⟨0, _, Nat.zero_le _, rfl, OwnR.nil, Mod.refl _ _⟩ ?_
  rintro vs W ⟨i, ov, hi, rfl, ho, gW⟩ _
  rw [lenK_i]
  show ltK .i64 (.int .i64 i) _ _
  rw [ltK_i]
  refine condK_p (fun hlt => ?_) fun hge => ?_
  · have hlt' : i < x.length := by omega
    obtain ⟨p, r, rfl, _, hr, hc0, hx⟩ := h.get hlt'
    have hc : ∀ j u, r[j]? = some u → W.cell? (p.add (i * 5 + j)) = some u := fun j u hu => gW.cell (hc0 j u hu) fun h => h
    refine ixK_n hlt' (ldnK_i hr (fun j u hu => by rw [Addr.add_add]; exact hc j u hu) ?_)
    refine newst_n hr rfl (RDop.one hx) fun b5 W4 hb5 hz5 g5 hc5 _ => ?_
    have hx4 := hx.mod (D' := fun b => b < w.heap.size) (gW.trans g5) (fun _ _ _ h => h) fun _ hb _ => hb
    have gd : Grow W4 W4.drew := Mod.drew _ _
    have hzd : W4.drew.heap.size = W4.heap.size := rfl
    obtain ⟨rv, sv, pv, rfl, q1, q2, q3⟩ := hx4
    have hov : ∀ y, ov.ownBlock = some y → y < W.heap.size ∧ w.heap.size ≤ y := fun y hy => ⟨(OwnR.ownB ho y hy).2, (OwnR.ownB ho y hy).1⟩
    obtain ⟨z1, z2, z3⟩ := hsz x[i] (by simp)
    generalize hz : W4.heap.size = z at *
    have zW : W.heap.size < z := by omega
    have zw : w.heap.size ≤ W.heap.size := gW.size
    let M : Nat → Nat → Prop := fun k y => k = 19 ∧ ov.ownBlock = some y
    let E : Nat → Value → World → Prop := fun e t W' => ∃ b, t = .slice (some ⟨b, 0, none⟩) 0 0 ∧ z ≤ b ∧ W'.heap[b]? = some (.cells #[] e (0, 0))
    let A : Nat → Value → World → Prop := fun k t W' => match k with
      | 5 => E 21 t W' | 9 => E 46 t W' | 13 => E 61 t W'
      | 8 => OwnR z 21 1 RRune W' t x[i].runes
      | 12 => OwnR z 46 5 RAttr W' t x[i].set
      | 16 => OwnR z 61 6 RChg W' t x[i].patch
      | 18 => SlR (fun b => z ≤ b) 5 (ODop fun b => z ≤ b) W' t [x[i]]
      | 19 => ODops w.heap.size W' t (x.take (i + 1))
      | _ => True
    have low : ∀ k y, M k y → y < z := fun k y hy => by have := hov y hy.2; omega
    have Est : ∀ {e t W1 W2}, E e t W1 → Mod (fun y => y < z) W1 W2 → E e t W2 := fun ⟨b, e1, e2, e3⟩ hm => ⟨b, e1, e2, (hm.same b (Array.getElem?_eq_some_iff.1 e3).1 (by omega)).trans e3⟩
    have stab : Stab [5, 8, 9, 12, 13, 16, 18, 19] A M W4.drew := by
      intro j hj k hk hjk t W1 W2 _ hA hm
      have hm' : Mod (fun y => y < z) W1 W2 := hm.mono fun y _ e => low k y e
      have own : ∀ {β : Type} {e q : Nat} {R : World → List Value → β → Prop} {l : List β}, (∀ r y, R W1 r y → R W2 r y) → OwnR z e q R W1 t l → OwnR z e q R W2 t l := fun hR h => OwnR.mod h hm' (fun g hg e => by have := (OwnR.ownB h g hg).1; omega) fun r y _ hy => hR r y hy
      simp only [List.mem_cons, List.not_mem_nil, or_false] at hj
      rcases hj with rfl | rfl | rfl | rfl | rfl | rfl | rfl | rfl
      · exact Est hA hm'
      · exact own (fun _ _ h => h) hA
      · exact Est hA hm'
      · exact own (fun _ _ h => h) hA
      · exact Est hA hm'
      · exact own (fun _ _ h => h) hA
      · exact SlR.mod hA hm' (fun b _ hb e => by omega) (by decide) fun r y hy => ODop.mod hy hm' (fun b _ hb e => by omega) fun _ _ h => h
      · have hg : Grow W1 W2 := hm.mono fun y _ e => hjk e.1.symm
        exact ODops.grow hA hg fun _ _ _ h => h
    refine ⟨A, M, stab, ?_⟩
    have ld : ∀ {q : Nat} {u : Value} (l : List Nat), [Value.int .u8 x[i].kind, .int .i64 x[i].n, rv, sv, pv][q]? = some u → W4.drew.cell? ((⟨b5, 0, none⟩ : Addr).add q) = some u ∧ ∀ j ∈ l, ¬ M j ((⟨b5, 0, none⟩ : Addr).add q).block := fun l hu =>
      ⟨gd.cell (hc5 _ _ hu) fun h => h, fun j _ e => by
        have e2 : ov.ownBlock = some b5 := by have := e.2; rwa [add_block] at this
        have := hov _ e2; omega⟩
    have qm : ∀ {MM : Nat → Prop} {W' : World}, Mod MM W4.drew W' → (∀ y, MM y → ov.ownBlock = some y) → z ≤ W'.heap.size ∧ RRun (fun b => b < w.heap.size) W' rv x[i].runes ∧ RSet (fun b => b < w.heap.size) W' sv x[i].set ∧ RPat (fun b => b < w.heap.size) W' pv x[i].patch := by
      intro MM W' hm hMM
      have hno : ∀ b, b < w.heap.size → ¬ MM b := fun b hb e => by have := hov b (hMM b e); omega
      have zz : z ≤ W'.heap.size := by have := hm.size; omega
      exact ⟨zz, (q1.grow gd (by decide) fun _ _ h => h).mod hm (fun b _ hb => hno b hb) (by decide) fun _ _ h => h, (q2.grow gd (by decide) fun _ _ h => h).mod hm (fun b _ hb => hno b hb) (by decide) fun _ _ h => h, (q3.grow gd (by decide) fun _ _ h => h).mod hm (fun b _ hb => hno b hb) (by decide) fun _ _ h => h⟩
    have row0 : ∀ {e k : Nat} {W' : World}, z ≤ W'.heap.size → ∀ j, A j = E e → rowK e k 0 [] [] (fun t W'' => Mod (M j) W' W'' ∧ A j t W'') W' := fun {e k W'} hz j hj => rowK_empty ⟨Mod.alloc _ _ _, by rw [hj]; exact ⟨_, rfl, hz, (MapKept.heap_alloc W' _).1⟩⟩
    have own1 : ∀ {β : Type} {t e q bytes : Nat} {R : World → List Value → β → Prop} {l : List β} {S' : Nat → Prop} {W' : World} {t0 v : Value} (j : Nat), ElemOK Try.prog t e q bytes → E e t0 W' → SlR S' q R W' v l → (∀ w r y, R w r y → ∀ u ∈ r, u.oneCell' = true) → l.length * bytes ≤ 140737488355328 → (∀ (w1 w2 : World) r y, R w1 r y → R w2 r y) → z ≤ W'.heap.size →
        A j = (fun v' w' => OwnR z e q R w' v' l) → runK Try.prog (Builtin.append_ #[t, t] t [t0, v].toArray) (fun v' w' => Mod (M j) W' w' ∧ A j v' w') W' := by
      intro β t e q bytes R l S' W' t0 v j hE ⟨b, e1, e2, e3⟩ hv hone hlen hR hzz hA
      subst e1
      obtain ⟨v', w', r1, r2, r3, r4⟩ := append_new (ty := t) hE e3 hv hone hlen fun w' _ r y hy => hR _ _ r y hy
      refine runK_i r1 ⟨r3.mono fun _ _ h => h.elim, ?_⟩
      rw [hA]
      exact r2.base fun g hg => by rcases r4 g hg with h | h <;> omega
    have bm : ∀ {k : Nat} {l : List Nat} y, ButM l M k y → ov.ownBlock = some y := fun y ⟨_, _, _, e⟩ => e.2
    have am : ∀ {l : List Nat} y, AllM l M y → ov.ownBlock = some y := fun y ⟨_, _, e⟩ => e.2
    have sh : ∀ {e k : Nat} {β : Type} {R : World → List Value → β → Prop} {W' : World} {v : Value} {l : List β}, OwnR z e k R W' v l → ∃ a n c, v = .slice a n c := fun h => by obtain ⟨a, c, rfl, _⟩ := h.shape; exact ⟨_, _, _, rfl⟩
    refine ⟨?_, ?_, ?_, ?_, ?_, ?_, ?_, ?_, ?_, ?_⟩
    · intro W5 hm
      obtain ⟨zz, _⟩ := qm hm bm
      rw [faK_i]; refine sld1_i (ld _ rfl) ?_
      rw [faK_i]; refine sld1_i (ld _ rfl) ?_
      rw [faK_i]; refine sld1_i (ld _ rfl) ?_
      rw [faK_i]; refine sld1_i (ld _ rfl) ?_
      rw [faK_i]; refine sld1_i (ld _ rfl) ?_
      exact row0 zz 5 rfl
    · intro W5 hm
      obtain ⟨zz, p1, p2, p3⟩ := qm hm bm
      rw [faK_i]; refine sld1_i (ld _ rfl) ?_
      rw [faK_i]; refine sld1_i (ld _ rfl) ?_
      intro t5 h5
      rw [faK_i]; refine sld1_i (ld _ rfl) ?_
      rw [faK_i]; refine sld1_i (ld _ rfl) ?_
      rw [faK_i]; refine sld1_i (ld _ rfl) ?_
      exact own1 8 elem_rune h5 p1 (fun _ _ _ => RRune.one) z1 (fun _ _ _ _ h => h) zz rfl
    · intro W5 hm
      obtain ⟨zz, _⟩ := qm hm bm
      rw [faK_i]; refine sld1_i (ld _ rfl) ?_
      rw [faK_i]; refine sld1_i (ld _ rfl) ?_
      rw [faK_i]; refine sld1_i (ld _ rfl) ?_
      rw [faK_i]; refine sld1_i (ld _ rfl) ?_
      rw [faK_i]; refine sld1_i (ld _ rfl) ?_
      exact row0 zz 9 rfl
    · intro W5 hm
      obtain ⟨zz, p1, p2, p3⟩ := qm hm bm
      rw [faK_i]; refine sld1_i (ld _ rfl) ?_
      rw [faK_i]; refine sld1_i (ld _ rfl) ?_
      intro t5 h5
      rw [faK_i]; refine sld1_i (ld _ rfl) ?_
      intro t8 h8 t9 h9
      rw [faK_i]; refine sld1_i (ld _ rfl) ?_
      rw [faK_i]; refine sld1_i (ld _ rfl) ?_
      exact own1 12 elem_attr h9 p2 (fun _ _ _ => RAttr.one) z2 (fun _ _ _ _ h => h) zz rfl
    · intro W5 hm
      obtain ⟨zz, _⟩ := qm hm bm
      rw [faK_i]; refine sld1_i (ld _ rfl) ?_
      rw [faK_i]; refine sld1_i (ld _ rfl) ?_
      rw [faK_i]; refine sld1_i (ld _ rfl) ?_
      rw [faK_i]; refine sld1_i (ld _ rfl) ?_
      rw [faK_i]; refine sld1_i (ld _ rfl) ?_
      exact row0 zz 13 rfl
    · intro W5 hm
      obtain ⟨zz, p1, p2, p3⟩ := qm hm bm
      rw [faK_i]; refine sld1_i (ld _ rfl) ?_
      rw [faK_i]; refine sld1_i (ld _ rfl) ?_
      intro t5 h5
      rw [faK_i]; refine sld1_i (ld _ rfl) ?_
      intro t8 h8 t9 h9
      rw [faK_i]; refine sld1_i (ld _ rfl) ?_
      intro t12 h12 t13 h13
      rw [faK_i]; refine sld1_i (ld _ rfl) ?_
      exact own1 16 elem_chg h13 p3 (fun _ _ _ => RChg.one) z3 (fun _ _ _ _ h => h) zz rfl
    · intro W5 hm
      obtain ⟨zz, p1, p2, p3⟩ := qm hm bm
      rw [faK_i]; refine sld1_i (ld _ rfl) ?_
      rw [faK_i]; refine sld1_i (ld _ rfl) ?_
      intro t5 h5
      rw [faK_i]; refine sld1_i (ld _ rfl) ?_
      intro t8 h8 t9 h9
      rw [faK_i]; refine sld1_i (ld _ rfl) ?_
      intro t12 h12 t13 h13
      rw [faK_i]; refine sld1_i (ld _ rfl) ?_
      intro t16 h16
      obtain ⟨a8, n8, c8, rfl⟩ := sh h8
      obtain ⟨a12, n12, c12, rfl⟩ := sh h12
      obtain ⟨a16, n16, c16, rfl⟩ := sh h16
      refine ⟨(row5 x[i] (.slice a8 n8 c8) (.slice a12 n12 c12) (.slice a16 n16 c16)).toArray, by kernel_rfl, ?_⟩
      refine rowK_i (cs := ([row5 x[i] (.slice a8 n8 c8) (.slice a12 n12 c12) (.slice a16 n16 c16)] : List (List Value)).flatten) (by kernel_rfl) ⟨Mod.alloc _ _ _, ?_⟩
      have ga : Grow W5 (W5.alloc (.cells ([row5 x[i] (.slice a8 n8 c8) (.slice a12 n12 c12) (.slice a16 n16 c16)] : List (List Value)).flatten.toArray TOp)) := Mod.alloc _ _ _
      have up : ∀ {e k : Nat} {β : Type} {R : World → List Value → β → Prop} {v : Value} {l : List β}, (∀ (w1 w2 : World) r y, R w1 r y → R w2 r y) → OwnR z e k R W5 v l → OwnR 0 e k R (W5.alloc (.cells ([row5 x[i] (.slice a8 n8 c8) (.slice a12 n12 c12) (.slice a16 n16 c16)] : List (List Value)).flatten.toArray TOp)) v l ∧ ∀ g, v.ownBlock = some g → z ≤ g := fun hR h =>
        ⟨(OwnR.mod h ga (fun _ _ h => h) fun r y _ hy => hR _ _ r y hy).base fun _ _ => Nat.zero_le _, fun g hg => (OwnR.ownB h g hg).1⟩
      show SlR (fun b => z ≤ b) 5 (ODop fun b => z ≤ b) _ _ [x[i]]
      refine SlR.sub (SlR.made (l := [x[i]]) (t := TOp) [row5 x[i] (.slice a8 n8 c8) (.slice a12 n12 c12) (.slice a16 n16 c16)] (by simp) rfl (by simp [maxLen]) fun j r y hr hy => ?_) (fun b _ e => by omega) (by decide) fun _ _ h => h
      match j with
      | 0 => cases hr; cases hy; exact ⟨_, _, _, rfl, up (fun _ _ _ _ h => h) h8, up (fun _ _ _ _ h => h) h12, up (fun _ _ _ _ h => h) h16⟩
      | j + 1 => simp at hr
    · intro W5 hm
      obtain ⟨zz, p1, p2, p3⟩ := qm hm bm
      rw [faK_i]; refine sld1_i (ld _ rfl) ?_
      rw [faK_i]; refine sld1_i (ld _ rfl) ?_
      intro t5 h5
      rw [faK_i]; refine sld1_i (ld _ rfl) ?_
      intro t8 h8 t9 h9
      rw [faK_i]; refine sld1_i (ld _ rfl) ?_
      intro t12 h12 t13 h13
      rw [faK_i]; refine sld1_i (ld _ rfl) ?_
      intro t16 h16
      obtain ⟨a8, n8, c8, rfl⟩ := sh h8
      obtain ⟨a12, n12, c12, rfl⟩ := sh h12
      obtain ⟨a16, n16, c16, rfl⟩ := sh h16
      refine ⟨(row5 x[i] (.slice a8 n8 c8) (.slice a12 n12 c12) (.slice a16 n16 c16)).toArray, by kernel_rfl, ?_⟩
      intro t18 h18
      have gm : Grow W4.drew W5 := hm.mono fun y _ ⟨j, _, hj, e⟩ => hj e.1
      have g05 : Grow W W5 := (g5.trans gd).trans gm
      have oz : OwnR w.heap.size 59 5 (ODop fun b => w.heap.size ≤ b ∧ b < W5.heap.size ∧ ov.ownBlock ≠ some b) W5 ov (x.take i) := OwnR.mod ho g05 (fun _ _ h => h) fun r y _ hy => ODop.mod hy g05 (fun _ _ _ h => h) fun b hb hd => ⟨hd.1, by have := g05.size; omega, hd.2⟩
      have sz : SlR (fun b => z ≤ b) 5 (ODop fun b => w.heap.size ≤ b ∧ b < W5.heap.size ∧ ov.ownBlock ≠ some b) W5 t18 [x[i]] := SlR.mono h18 (fun _ _ h => h) (fun _ _ _ => rfl) (by decide) fun r y hy => ODop.mod hy (Mod.refl (fun _ => False) _) (fun _ _ _ h => h) fun b hb hd => ⟨by omega, hb, fun e => by have := hov b e; omega⟩
      have hl : (x.take i).length = i := by rw [List.length_take]; omega
      obtain ⟨v', w', r1, r2, r3, r4⟩ := OwnR.append (ty := 50) elem_dop oz sz (fun _ _ => ODop.one) (by rw [hl]; simp only [List.length_cons, List.length_nil]; omega) (by omega) (by rw [hl]; simp only [List.length_cons, List.length_nil, maxLen]; omega) fun w' hg r y hy => ODop.mod hy (Mod.of_grownBy hg) (fun b _ hd e => hd.2.2 e) fun _ _ h => h
      refine runK_i r1 ⟨(Mod.of_grownBy r3).mono fun y _ e => ⟨rfl, e⟩, ?_⟩
      show ODops w.heap.size w' v' (x.take (i + 1))
      rw [List.take_add_one, List.getElem?_eq_getElem hlt']
      exact OwnR.mod r2 (Mod.refl (fun _ => False) _) (fun _ _ h => h) fun r y _ hy => ODop.mod hy (Mod.refl (fun _ => False) _) (fun _ _ _ h => h) fun b hb hd => ⟨hd.1, fun e => by
        rcases r4 b e with h | h
        · exact hd.2.2 h
        · have := hd.2.1; omega⟩
    · intro W5 hm
      rw [faK_i]; refine sld1_i (ld _ rfl) ?_
      rw [faK_i]; refine sld1_i (ld _ rfl) ?_
      intro t5 h5
      rw [faK_i]; refine sld1_i (ld _ rfl) ?_
      intro t8 h8 t9 h9
      rw [faK_i]; refine sld1_i (ld _ rfl) ?_
      intro t12 h12 t13 h13
      rw [faK_i]; refine sld1_i (ld _ rfl) ?_
      intro t16 h16
      obtain ⟨a8, n8, c8, rfl⟩ := sh h8
      obtain ⟨a12, n12, c12, rfl⟩ := sh h12
      obtain ⟨a16, n16, c16, rfl⟩ := sh h16
      exact ⟨(row5 x[i] (.slice a8 n8 c8) (.slice a12 n12 c12) (.slice a16 n16 c16)).toArray, by kernel_rfl, trivial⟩
    · intro W5 hm
      rw [faK_i]; refine sld1_i (ld _ rfl) ?_
      rw [faK_i]; refine sld1_i (ld _ rfl) ?_
      intro t5 h5
      rw [faK_i]; refine sld1_i (ld _ rfl) ?_
      intro t8 h8 t9 h9
      rw [faK_i]; refine sld1_i (ld _ rfl) ?_
      intro t12 h12 t13 h13
      rw [faK_i]; refine sld1_i (ld _ rfl) ?_
      intro t16 h16
      obtain ⟨a8, n8, c8, rfl⟩ := sh h8
      obtain ⟨a12, n12, c12, rfl⟩ := sh h12
      obtain ⟨a16, n16, c16, rfl⟩ := sh h16
      refine ⟨(row5 x[i] (.slice a8 n8 c8) (.slice a12 n12 c12) (.slice a16 n16 c16)).toArray, by kernel_rfl, ?_⟩
      intro t18 _ t19 h19
      show addK .i64 (.int .i64 i) _ _
      rw [addK_i, loop_step (by omega)]
      refine ⟨⟨i + 1, t19, hlt', rfl, h19, (gW.trans (g5.trans gd)).next hm fun b hb e => by have := hov b (am b e); omega⟩, by rw [iOf1, iOf1]; omega⟩
  · have : i = x.length := by omega
    subst this
    rw [List.take_length] at ho
    exact ⟨ho, gW⟩
end Go.Proofs.Ytmfplfaeibehiaa

namespace Go.Proofs.Ytmfplfaeibehiaa
open Go Go.K

/-- an op that reads so, its lists in other blocks than the row's own -/
abbrev RApart (E : Nat → Prop) (ov : Value) : World → List Value → Dop → Prop := RDop fun b => ov.ownBlock ≠ some b ∧ E b
theorem rgapF_m (a : List Dop × Int) (o : Dop) : mDops (rgapF a o).1 ≤ mDops a.1 + mDop o ∧ (rgapF a o).1.length ≤ a.1.length + 1 := by
  unfold rgapF
  split
  · exact ⟨Nat.le_add_right _ _, by simp⟩
  · cases hl : a.1.getLast? with
    | none => simp only [mDops_app, mDops_one, List.length_append, List.length_singleton]; omega
    | some q =>
      simp only
      split
      · obtain ⟨ys, hys⟩ := List.getLast?_eq_some_iff.1 hl
        rw [hys]
        have e : ∀ m : Dop, (ys ++ [q]).set ((ys ++ [q]).length - 1) m = ys ++ [m] := fun m => by
          rw [List.length_append, List.length_singleton, Nat.add_sub_cancel, List.set_append_right _ _ (Nat.le_refl _)]; simp
        rw [e]
        simp only [mDops_app, mDops_one, List.length_append, List.length_singleton, mDop]
        omega
      · simp only [mDops_app, mDops_one, List.length_append, List.length_singleton]; omega
/-- rows of one's own whose lists lie elsewhere, behind adding -/
theorem apart_push {E : Nat → Prop} {B : Nat} {w0 w' : World} {ov ov' : Value} {l' : List Dop} (h : OwnR B 59 5 (RDop fun b => b < w0.heap.size ∧ ov.ownBlock ≠ some b ∧ E b) w' ov' l') (hs : ∀ g, ov'.ownBlock = some g → ov.ownBlock = some g ∨ w0.heap.size ≤ g) :
    OwnR B 59 5 (RApart E ov') w' ov' l' :=
  OwnR.mod h (Mod.refl (fun _ => False) _) (fun _ _ h => h) fun r y _ hy => RDop.mod hy (Mod.refl (fun _ => False) _) (fun _ _ _ h => h) fun b hb hd => ⟨fun e => by
    rcases hs b e with h | h
    · exact hd.2.1 h
    · have := hd.1; omega, hd.2.2⟩

theorem rgap_len (l : List Dop) : mDops (l.foldl rgapF ([], 0)).1 ≤ mDops l ∧ (l.foldl rgapF ([], 0)).1.length ≤ l.length := by
  induction l using rev_ind with
  | h0 => exact ⟨Nat.le_refl _, Nat.le_refl _⟩
  | h1 x o ih =>
    rw [List.foldl_append, List.foldl_cons, List.foldl_nil, mDops_app, mDops_one, List.length_append, List.length_singleton]
    have := rgapF_m (x.foldl rgapF ([], 0)) o
    omega
theorem rgap_ok {S D : Nat → Prop} {xv : Value} {x : List Dop} {w : World} (h : RDops S D w xv x) (hb : mDops x ≤ 1099511627776) :
    callK Try.prog 60 [xv] (fun v' w' => OwnR w.heap.size 59 5 (RApart (fun b => D b ∨ w.heap.size ≤ b) v') w' v' (rgap x) ∧ Grow w w') w := by
  apply S60_ok
  unfold S60
  obtain ⟨pa, ca, rfl, hmx⟩ := h.shape
  have hxl := mDops_len x
  refine LoopK_i (fun vs W => ∃ (i : Nat) (ov : Value), i ≤ x.length ∧ vs = [ov, .int .i64 ((x.take i).foldl rgapF ([], 0)).2, .int .i64 i] ∧ OwnR w.heap.size 59 5 (RApart (fun b => D b ∨ w.heap.size ≤ b) ov) W ov ((x.take i).foldl rgapF ([], 0)).1 ∧ Grow w W) (fun vs _ => x.length - iOf vs 2) ⟨0, _, Nat.zero_le _, rfl, OwnR.nil, Mod.refl _ _⟩ ?_
  rintro vs W ⟨i, ov, hi, rfl, ho, gW⟩ _
  rw [lenK_i]
  show ltK .i64 (.int .i64 i) _ _
  rw [ltK_i]
  have hgl := rgap_len (x.take i)
  have htk : (x.take i).length = i := by rw [List.length_take]; omega
  rw [htk] at hgl
  refine condK_p (fun hlt => ?_) fun hge => ?_
  · have hlt' : i < x.length := by omega
    have est : (x.take (i + 1)).foldl rgapF ([], 0) = rgapF ((x.take i).foldl rgapF ([], 0)) x[i] := by
      rw [List.take_add_one, List.getElem?_eq_getElem hlt', Option.toList_some, List.foldl_append]; rfl
    have hmi : mDops (x.take i) + mDop x[i] ≤ mDops x := by
      have e : x = x.take i ++ x[i] :: x.drop (i + 1) := by rw [← List.drop_eq_getElem_cons hlt', List.take_append_drop]
      have e2 : mDops x = mDops (x.take i) + mDops (x[i] :: x.drop (i + 1)) := by
        conv => lhs; rw [e]
        exact mDops_app _ _
      rw [e2]; simp only [mDops, List.map_cons, List.sum_cons]; omega
    generalize hst : (x.take i).foldl rgapF ([], 0) = st at *
    obtain ⟨l, gone⟩ := st
    simp only at ho hgl ⊢
    refine JoinK_i (fun vs W2 => ∃ ov' g', vs = [ov', .int .i64 g'] ∧ (rgapF (l, gone) x[i]).2 = g' ∧ OwnR w.heap.size 59 5 (RApart (fun b => D b ∨ w.heap.size ≤ b) ov') W2 ov' (rgapF (l, gone) x[i]).1 ∧ Grow w W2) ?_ ?_
    · rintro _ W2 ⟨ov', g', rfl, rfl, ho', g2⟩ _
      show addK .i64 (.int .i64 i) _ _
      rw [addK_i, loop_step (by omega)]
      refine ⟨⟨i + 1, ov', hlt', by rw [est]; rfl, by rw [est]; exact ho', g2⟩, by rw [iOf2, iOf2]; omega⟩
    · obtain ⟨p, r, rfl, _, hr, hc0, hx⟩ := h.get hlt'
      have hc : ∀ j u, r[j]? = some u → W.cell? (p.add (i * 5 + j)) = some u := fun j u hu => gW.cell (hc0 j u hu) fun h => h
      refine ixK_n hlt' (ldnK_i hr (fun j u hu => by rw [Addr.add_add]; exact hc j u hu) ?_)
      refine newst_n hr rfl (RDop.one hx) fun b6 W1 hb6 hz6 g6 hc6 _ => ?_
      have hx1 := hx.mod (D' := fun b => D b ∧ b < w.heap.size) (gW.trans g6) (fun _ _ _ h => h) fun _ hb h => ⟨h, hb⟩
      have zw := gW.size
      have gW1 := gW.trans g6
      have ho1 : OwnR w.heap.size 59 5 (RApart (fun b => D b ∨ w.heap.size ≤ b) ov) W1 ov l := OwnR.mod ho g6 (fun _ _ h => h) fun r y _ hy => hy.mod g6 (fun _ _ _ h => h) fun _ _ h => h
      obtain ⟨rv, sv, pv, rfl, q1, q2, q3⟩ := hx1
      simp only [faK_i]
      refine ld1K_i (hc6 0 _ rfl) ?_
      rw [eqK_i]
      refine condK_p (fun hk3 => ?_) fun hk3 => ?_
      · refine ld1K_i (hc6 1 _ rfl) ?_
        show addK .i64 (.int .i64 gone) _ _
        rw [addK_i]
        refine ⟨ov, _, rfl, ?_, ?_, gW1⟩
        · unfold rgapF; rw [if_pos hk3]
        · unfold rgapF; rw [if_pos hk3]; exact ho1
      · obtain ⟨oa, oc, rfl, hoc, hom, hop, hon⟩ := ho1.shape
        simp only [maxLen] at hom
        show lenK (.slice oa l.length oc) _
        rw [lenK_i, subK_i, wrap64 (by omega) (by omega)]
        have nk : rgapF (l, gone) x[i] = (match l.getLast? with
            | some q => if q.set = x[i].set then (l.set (l.length - 1) ⟨q.kind, q.n, q.runes ++ x[i].runes, q.set, q.patch⟩, gone) else (l ++ [x[i]], gone)
            | none => (l ++ [x[i]], gone)) := by unfold rgapF; rw [if_neg hk3]; rfl
        have l6 : ∀ {W' : World}, Grow W1 W' → ∀ j u, [Value.int .u8 x[i].kind, .int .i64 x[i].n, rv, sv, pv][j]? = some u → W'.cell? ((⟨b6, 0, none⟩ : Addr).add j) = some u := fun g j u hu => g.cell (hc6 j u hu) fun h => h
        refine JoinK_i (fun vs W2 => vs = [.bool (lastSet l x[i].set)] ∧ Grow W1 W2) ?_ ?_
        · rintro _ W2 ⟨rfl, g2⟩ _
          rw [nth_z, List.headD_cons]
          have z2 := g2.size
          have sh : ∃ a1 c1 a2 c2 a3 c3 n1 n2 n3, rv = .slice a1 n1 c1 ∧ sv = .slice a2 n2 c2 ∧ pv = .slice a3 n3 c3 := by
            obtain ⟨a1, c1, e1, _⟩ := q1.shape
            obtain ⟨a2, c2, e2, _⟩ := q2.shape
            obtain ⟨a3, c3, e3, _⟩ := q3.shape
            exact ⟨a1, c1, a2, c2, a3, c3, _, _, _, e1, e2, e3⟩
          cases hls : lastSet l x[i].set with
          | false =>
            rw [condK_b, if_neg (by simp)]
            refine ldnK_i hr (l6 g2) ?_
            have oz : OwnR w.heap.size 59 5 (RDop fun b => b < W2.heap.size ∧ (Value.slice oa l.length oc).ownBlock ≠ some b ∧ (D b ∨ w.heap.size ≤ b)) W2 (.slice oa l.length oc) l := OwnR.mod ho1 g2 (fun _ _ h => h) fun r y _ hy => RDop.mod hy g2 (fun _ _ _ h => h) fun b hb hd => ⟨by omega, hd⟩
            have hxk : RDop (fun b => b < W2.heap.size ∧ (Value.slice oa l.length oc).ownBlock ≠ some b ∧ (D b ∨ w.heap.size ≤ b)) W2 [.int .u8 x[i].kind, .int .i64 x[i].n, rv, sv, pv] x[i] := RDop.mod (D := fun b => D b ∧ b < w.heap.size) ⟨_, _, _, rfl, q1, q2, q3⟩ g2 (fun _ _ _ h => h) fun b hb hd => ⟨by have := hd.2; omega, fun e => by have := (OwnR.ownB ho1 b e).1; have := hd.2; omega, .inl hd.1⟩
            refine push_g elem_dop oz (by omega) (cs := [.int .u8 x[i].kind, .int .i64 x[i].n, rv, sv, pv]) (x := x[i]) (by obtain ⟨a1, c1, a2, c2, a3, c3, n1, n2, n3, rfl, rfl, rfl⟩ := sh; kernel_rfl) rfl hxk (fun _ _ _ => RDop.one) (fun w1 w2 r z hz hm hy => RDop.mod hy hm (fun b _ hd e => ?_) fun _ _ h => h) (by omega) (by simp only [maxLen]; omega) fun v' w' o' m' hw' => ⟨v', gone, rfl, ?_, ?_, (gW1.trans g2).next m' fun b hb e => by have := (OwnR.ownB ho1 b e).1; omega⟩
            · rcases e with e | e
              · exact hd.2.1 e
              · have := hd.1; omega
            · rw [nk]
              unfold lastSet at hls
              cases hg : l.getLast? with
              | none => rfl
              | some q => rw [hg] at hls; simp only [decide_eq_false_iff_not] at hls; simp only [if_neg hls]
            · have e1 : (rgapF (l, gone) x[i]).1 = l ++ [x[i]] := by
                rw [nk]
                unfold lastSet at hls
                cases hg : l.getLast? with
                | none => rfl
                | some q => rw [hg] at hls; simp only [decide_eq_false_iff_not] at hls; simp only [if_neg hls]
              rw [e1]
              exact apart_push o' hw'
          | true =>
            rw [condK_b, if_pos rfl]
            have hip : 0 < l.length := by
              cases hn : l with
              | nil => rw [lastSet, hn] at hls; cases hls
              | cons a l => simp
            have hl1 : l.length - 1 < l.length := by omega
            have hset : l[l.length - 1].set = x[i].set := by
              rw [lastSet, getLast_get hip] at hls
              simpa using hls
            have er : rgapF (l, gone) x[i] = (l.set (l.length - 1) ⟨l[l.length - 1].kind, l[l.length - 1].n, l[l.length - 1].runes ++ x[i].runes, l[l.length - 1].set, l[l.length - 1].patch⟩, gone) := by
              rw [nk, getLast_get hip]; exact if_pos hset
            have hrl : (l[l.length - 1].runes.length + x[i].runes.length) * 4 ≤ 140737488355328 := by
              have h1 := mDops_mem (List.getElem_mem hl1)
              simp only [mDop, mSet_eq, mPat_eq] at h1 hmi
              omega
            rw [er]
            have hoa : ∃ g, oa = some ⟨g, 0, none⟩ := by
              cases oa with
              | none => have := hon rfl; rw [this] at hip; simp at hip
              | some p => obtain ⟨g, rfl, _⟩ := hop p rfl; exact ⟨g, rfl⟩
            obtain ⟨g, rfl⟩ := hoa
            have hgo : (Value.slice (some ⟨g, 0, none⟩) l.length oc).ownBlock = some g := rfl
            obtain ⟨hgw, hg1⟩ := OwnR.ownB ho1 g hgo
            rw [show ((l.length : Int) - 1) = ((l.length - 1 : Nat) : Int) by omega]
            have gd : Grow W1 W2.drew := g2.trans (Mod.drew _ _)
            have zd : W2.drew.heap.size = W2.heap.size := rfl
            have od : OwnR w.heap.size 59 5 (RDop fun b => b < W2.heap.size ∧ b ≠ g ∧ (D b ∨ w.heap.size ≤ b)) W2.drew (.slice (some ⟨g, 0, none⟩) l.length oc) l := OwnR.mod ho1 gd (fun _ _ h => h) fun r y _ hy => RDop.mod hy gd (fun _ _ _ h => h) fun b hb hd => ⟨by omega, fun e => hd.1 (by rw [hgo, e]), hd.2⟩
            have q1d : RRun (fun b => D b ∧ b < w.heap.size) W2.drew rv x[i].runes := q1.grow gd (by decide) fun _ _ h => h
            have l6d := l6 gd
            generalize W2.drew = Wd at gd zd od q1d l6d ⊢
            have hb6l : b6 < W2.heap.size := by omega
            refine drawC_i (fun k y => ((k = 2 ∨ k = 8 ∨ k = 11) ∧ W2.heap.size ≤ y) ∨ (k = 14 ∧ y = g)) ?_
            refine rowK_empty ⟨Mod.alloc _ _ _, ?_⟩
            have om : OwnR Wd.heap.size 21 1 RRune (Wd.alloc (.cells #[] 21)) (.slice (some ⟨Wd.heap.size, 0, none⟩) 0 0) ([] : List Int) := OwnR.made (Nat.le_refl _)
            have ga : Grow Wd (Wd.alloc (.cells #[] 21)) := Mod.alloc _ _ _
            have hza : (Wd.alloc (.cells #[] 21)).heap.size = Wd.heap.size + 1 := by simp
            generalize Wd.alloc (.cells #[] 21) = Wa at om ga hza ⊢
            obtain ⟨r, hr2, hcl, hy, hlv⟩ := OwnR.cellsOf od hl1
            obtain ⟨rv2, sv2, pv2, rfl, y1, y2, y3⟩ := hy
            refine ixK_n hl1 ?_
            rw [faK_i, Addr.add_add]
            refine sld1_i ⟨by rw [addr0]; exact hcl 2 _ rfl, fun j hj e => ?_⟩ ?_
            · rw [addr0] at e
              rcases e with ⟨_, e⟩ | ⟨rfl, _⟩
              · have e : W2.heap.size ≤ g := e
                omega
              · exact absurd hj (by decide)
            obtain ⟨v8, W8, r1, r2, r3, r4⟩ := OwnR.append (ty := 56) elem_rune om (y1.grow ga (by decide) fun _ _ h => h) (fun _ _ => RRune.one) (by simp only [List.length_nil]; omega) (by omega) (by simp only [List.length_nil, maxLen]; omega) fun _ _ _ _ h => h
            have m8 : Mod (fun y => W2.heap.size ≤ y) Wa W8 := (Mod.of_grownBy r3).mono fun y _ e => by simp only [Value.ownBlock, Option.some.injEq] at e; omega
            refine runK_i r1 ⟨m8.mono fun y _ e => .inl ⟨.inr (.inl rfl), e⟩, ?_⟩
            refine sld1_i ⟨l6d 2 _ rfl, fun j hj e => ?_⟩ ?_
            · rw [addr0] at e
              rcases e with ⟨_, e⟩ | ⟨rfl, _⟩
              · have e : W2.heap.size ≤ b6 := e
                omega
              · exact absurd hj (by decide)
            have z8 := m8.size
            obtain ⟨v9, W9, s1, s2, s3, s4⟩ := OwnR.append (ty := 56) elem_rune r2 ((q1d.grow ga (by decide) fun _ _ h => h).mod m8 (fun b _ hb e => by have := hb.2; omega) (by decide) fun _ _ h => h) (fun _ _ => RRune.one) (by simpa using hrl) (by omega) (by simp only [List.nil_append, maxLen]; omega) fun _ _ _ _ h => h
            have o8 : ∀ y, v8.ownBlock = some y → W2.heap.size ≤ y := fun y hy => by
              rcases r4 y hy with e | e
              · simp only [Value.ownBlock, Option.some.injEq] at e; omega
              · omega
            have m9 : Mod (fun y => W2.heap.size ≤ y) W8 W9 := (Mod.of_grownBy s3).mono fun y _ e => o8 y e
            refine runK_i s1 ⟨m9.mono fun y _ e => .inl ⟨.inr (.inr rfl), e⟩, ?_⟩
            have o9 : ∀ y, v9.ownBlock = some y → W2.heap.size ≤ y := fun y hy => by
              rcases s4 y hy with e | e
              · exact o8 y e
              · omega
            have mall : Mod (fun y => W2.heap.size ≤ y) Wd W9 := (ga.mono fun _ _ h => h.elim).trans (m8.trans m9)
            have o9r : OwnR w.heap.size 59 5 (RDop fun b => b < W2.heap.size ∧ b ≠ g ∧ (D b ∨ w.heap.size ≤ b)) W9 (.slice (some ⟨g, 0, none⟩) l.length oc) l := OwnR.mod od mall (fun y hy e => absurd (show W2.heap.size ≤ y from e) (by have hy' : g = y := (by simpa [Value.ownBlock] using hy); omega)) fun r y _ hy => RDop.mod hy mall (fun b _ hd e => by have := hd.1; omega) fun _ _ h => h
            refine ixK_n hl1 ?_
            rw [faK_i, Addr.add_add, addr0]
            have hv9 := OwnR.one s2
            have live := (hlv 2 (by decide)).mod mall fun e => by
              have e : W2.heap.size ≤ g := e
              omega
            refine live.st hv9.1 hv9.2 ⟨Mod.setCell _ _ _ (.inr ⟨rfl, rfl⟩), ?_⟩
            have mS := setA W9 g ((l.length - 1) * 5 + 2) v9
            have z9 := mall.size
            refine ⟨_, _, rfl, rfl, ?_, ?_⟩
            · have hst2 := (OwnR.store (R' := RApart (fun b => D b ∨ w.heap.size ≤ b) (.slice (some ⟨g, 0, none⟩) l.length oc)) (u := v9) (x' := ⟨l[l.length - 1].kind, l[l.length - 1].n, l[l.length - 1].runes ++ x[i].runes, l[l.length - 1].set, l[l.length - 1].patch⟩) o9r hl1 (show 2 < 5 by decide) hv9.1 (fun r y _ hy => by
                rw [addr0]
                exact RDop.mod hy mS (fun b _ hd e => hd.2.1 e) fun b _ hd => ⟨fun e => hd.2.1 (by cases e; rfl), hd.2.2⟩) fun r hy => by
                rw [addr0]
                obtain ⟨rv3, sv3, pv3, rfl, t1, t2, t3⟩ := RDop.mod (D' := fun b => (Value.slice (some ⟨g, 0, none⟩) l.length oc).ownBlock ≠ some b ∧ (D b ∨ w.heap.size ≤ b)) hy mS (fun b _ hd e => hd.2.1 e) fun b _ hd => ⟨fun e => hd.2.1 (by cases e; rfl), hd.2.2⟩
                refine ⟨v9, sv3, pv3, rfl, ?_, t2, t3⟩
                exact SlR.sub (SlR.mod (OwnR.sl s2) mS (fun b _ hb e => by have := o9 b hb.2; omega) (by decide) fun _ _ h => h) (fun b _ hb => ⟨fun e => absurd (o9 b hb.2) (by have e' : g = b := (by simpa [Value.ownBlock] using e); omega), .inr (by have := o9 b hb.2; omega)⟩) (by decide) fun _ _ h => by simpa using h).2.2.1
              rw [addr0] at hst2
              exact hst2
            · exact ((gW1.trans gd).next mall fun b hb e => by omega).next mS fun b hb e => by omega
        · refine drawK_i (fun W' => Grow W1 W') (Mod.drew _ _) ?_
          rw [geK_i]
          refine condK_p (fun hge => ?_) fun hge => ?_
          · have hip : 0 < l.length := by omega
            have hl1 : l.length - 1 < l.length := by omega
            rw [show ((l.length : Int) - 1) = ((l.length - 1 : Nat) : Int) by omega]
            obtain ⟨p2, r2, rfl, _, hr2, hc2, rv2, sv2, pv2, rfl, y1, y2, y3⟩ := (OwnR.sl ho1).get hl1
            refine ixK_n hl1 ?_
            rw [faK_i, Addr.add_add]
            refine qld1K_i (fun W' g' => g'.cell (hc2 3 _ rfl) fun h => h) ?_
            refine qld1K_i (fun W' g' => l6 g' 3 _ rfl) ?_
            refine ⟨.bool (decide (l[l.length - 1].set = x[i].set)), fun W' g' => ?_, ?_⟩
            · refine callK_mono (rsame_set (y2.grow g' (by decide) fun _ _ h => h) (q2.grow g' (by decide) fun _ _ h => h)) ?_
              rintro _ W'' ⟨rfl, g''⟩
              exact ⟨rfl, g'.trans g''⟩
            · intro W' g'
              exact ⟨by rw [lastSet, getLast_get hip], g'⟩
          · intro W' g'
            have : l = [] := List.eq_nil_of_length_eq_zero (by omega)
            exact ⟨by rw [lastSet, this]; rfl, g'⟩
  · have : i = x.length := by omega
    subst this
    rw [List.take_length] at ho hgl ⊢
    show gtK .i64 (.int .i64 _) _ _
    generalize hst : x.foldl rgapF ([], 0) = st at *
    obtain ⟨l, gone⟩ := st
    simp only at ho hgl ⊢
    have er : rgap x = gapL l gone := by unfold rgap; rw [hst]
    rw [er, gtK_i]
    refine condK_p (fun hg => ?_) fun hg => ?_
    · rw [gapL, if_pos hg]
      refine ⟨#[.int .u8 3, .int .i64 gone, .slice none 0 0, .slice none 0 0, .slice none 0 0], by kernel_rfl, ?_⟩
      have zw := gW.size
      have oz : OwnR w.heap.size 59 5 (RDop fun b => b < W.heap.size ∧ ov.ownBlock ≠ some b ∧ (D b ∨ w.heap.size ≤ b)) W ov l := OwnR.mod ho (Mod.refl (fun _ => False) _) (fun _ _ h => h) fun r y _ hy => RDop.mod hy (Mod.refl (fun _ => False) _) (fun _ _ _ h => h) fun b hb hd => ⟨hb, hd⟩
      refine push_g elem_dop oz zw (cs := row5 ⟨3, gone, [], [], []⟩ (.slice none 0 0) (.slice none 0 0) (.slice none 0 0)) (x := ⟨3, gone, [], [], []⟩) (by kernel_rfl) rfl ⟨_, _, _, rfl, SlR.nil, SlR.nil, SlR.nil⟩ (fun _ _ _ => RDop.one) (fun w1 w2 r z hz hm hy => RDop.mod hy hm (fun b _ hd e => ?_) fun _ _ h => h) (by omega) (by simp only [maxLen]; omega) fun v' w' o' m' hw' => ⟨apart_push o' hw', gW.next m' fun b hb e => by have := (OwnR.ownB ho b e).1; omega⟩
      rcases e with e | e
      · exact hd.2.1 e
      · have := hd.1; omega
    · rw [gapL, if_neg hg]
      exact ⟨ho, gW⟩
end Go.Proofs.Ytmfplfaeibehiaa

namespace Go.K
open Go
theorem slice_lh {α : Type} {P : Program} {t e k : Nat} {i : TypeInfo} {R : World → List Value → α → Prop} {S : Nat → Prop} {w : World} {a : Option Addr} {n c : Nat} {l : List α} {j q : Nat} {K : Cont} (ht : P.underlying t = some (.slice e)) (hi : P.info? e = some i) (hk : i.size = k)
    (h : SlR S k R w (.slice a n c) l) (hjq : j ≤ q) (hq : q ≤ l.length) (hK : ∀ v', SlR S k R w v' ((l.take q).drop j) → K v' w) : runK P (Instr.sliceAt t (.slice a n c) (some (.int .i64 j)) (some (.int .i64 q)) none) K w := by
  obtain ⟨a', c', e1, h1, h2, h3⟩ := h
  cases e1
  have hel : P.elem t = e := by simp [Program.elem, ht]
  refine ⟨sliced a j q c k, w, ?_, hK _ ?_⟩
  · rw [run_sliceAt_slice _ _ _ _ _ _ (by rw [hel]; exact ht), run_slice_lh _ _ _ _ _ (by rw [hel]; exact ht) _ _ _ _ (by omega) (by omega) (by omega), hel]
    simp [sizeOf, typeInfo, hi, hk]
  · unfold sliced
    have hl : ((l.take q).drop j).length = q - j := by simp; omega
    refine ⟨_, _, by rw [hl], by rw [hl]; omega, by omega, fun m x hx => ?_⟩
    rw [List.getElem?_drop, List.getElem?_take] at hx
    split at hx
    · obtain ⟨p, r, rfl, hS, hr, hc, hR⟩ := h3 _ x hx
      rw [if_neg (by omega)]
      refine ⟨p.add (j * k), r, rfl, by rw [add_block]; exact hS, hr, fun y u hu => ?_, hR⟩
      rw [Addr.add_add, ← Nat.add_assoc, ← Nat.add_mul]
      exact hc y u hu
    · cases hx
end Go.K

namespace Go.Proofs.Ytmfplfaeibehiaa
open Go Go.K

theorem rput_m (d : List Dop) (o : Dop) : mDops (rput d o) ≤ mDops d + mDop o ∧ (rput d o).length ≤ d.length + 1 := by
  unfold rput
  cases hl : d.getLast? with
  | none => simp only [mDops_app, mDops_one, List.length_append, List.length_singleton]; omega
  | some q =>
    simp only
    split
    · obtain ⟨ys, hys⟩ := List.getLast?_eq_some_iff.1 hl
      rw [hys]
      have e : ∀ m : Dop, (ys ++ [q]).set ((ys ++ [q]).length - 1) m = ys ++ [m] := fun m => by
        rw [List.length_append, List.length_singleton, Nat.add_sub_cancel, List.set_append_right _ _ (Nat.le_refl _)]; simp
      rw [e]
      simp only [mDops_app, mDops_one, List.length_append, List.length_singleton, mDop]
      omega
    · simp only [mDops_app, mDops_one, List.length_append, List.length_singleton]; omega
theorem gapL_ml (l : List Dop) (g : Int) : mDops (gapL l g) ≤ mDops l + 1 ∧ (gapL l g).length ≤ l.length + 1 := by
  unfold gapL
  split
  · have e : mDop ⟨3, g, [], [], []⟩ = 1 := by simp [mDop, mSet, mPat]
    simp only [mDops_app, mDops_one, e, List.length_append, List.length_singleton]; omega
  · omega
theorem rgap_m (l : List Dop) : mDops (rgap l) ≤ mDops l + 1 ∧ (rgap l).length ≤ l.length + 1 := by
  have h1 := rgap_len l
  have h2 := gapL_ml (l.foldl rgapF ([], 0)).1 (l.foldl rgapF ([], 0)).2
  unfold rgap
  omega
/-- how much there is at most, i ops read -/
theorem rof_m (l : List Dop) : mDops (l.foldl rofF ([], [])).1 + mDops (l.foldl rofF ([], [])).2 ≤ 2 * mDops l ∧ (l.foldl rofF ([], [])).1.length + (l.foldl rofF ([], [])).2.length ≤ 2 * l.length := by
  induction l using rev_ind with
  | h0 => exact ⟨Nat.le_refl _, Nat.le_refl _⟩
  | h1 x o ih =>
    have h0 : 1 ≤ mDop o := by simp [mDop]; omega
    rw [List.foldl_append, List.foldl_cons, List.foldl_nil, mDops_app, mDops_one, List.length_append, List.length_singleton]
    generalize x.foldl rofF ([], []) = st at ih ⊢
    unfold rofF
    split
    · have h1 := rput_m (st.1 ++ rgap st.2) o
      have h2 := rgap_m st.2
      rw [mDops_app, List.length_append] at h1
      have h3 : mDops ([] : List Dop) = 0 := rfl
      simp only [h3, List.length_nil]
      omega
    · simp only [mDops_app, mDops_one, List.length_append, List.length_singleton]; omega

theorem rof_ok {S D : Nat → Prop} {xv : Value} {x : List Dop} {w : World} (h : RDops S D w xv x) (hb : mDops x ≤ 274877906944) :
    callK Try.prog 37 [xv] (fun v' w' => ODops w.heap.size w' v' (rof x) ∧ Grow w w') w := by
  apply S37_ok
  unfold S37
  obtain ⟨pa, ca, rfl, hmx⟩ := h.shape
  simp only [maxLen] at hmx
  have hxl := mDops_len x
  have hrm := rof_m x
  let E : Nat → Prop := fun b => D b ∨ w.heap.size ≤ b
  refine JoinK_i (fun vs W => ∃ ov, vs = [ov] ∧ OwnR w.heap.size 59 5 (RApart E ov) W ov ((x.foldl rofF ([], [])).1 ++ rgap (x.foldl rofF ([], [])).2) ∧ Grow w W) ?_ ?_
  · rintro _ W ⟨ov, rfl, ho, gW⟩ _
    rw [nth_z, List.headD_cons]
    have hm : mDops ((x.foldl rofF ([], [])).1 ++ rgap (x.foldl rofF ([], [])).2) ≤ 1099511627776 := by
      have := rgap_m (x.foldl rofF ([], [])).2
      rw [mDops_app]; omega
    have hrof : rof x = trimL ((x.foldl rofF ([], [])).1 ++ rgap (x.foldl rofF ([], [])).2) := rfl
    rw [hrof]
    generalize (x.foldl rofF ([], [])).1 ++ rgap (x.foldl rofF ([], [])).2 = l at ho hm ⊢
    have hll := mDops_len l
    obtain ⟨oa, oc, rfl, hoc, hom, _, _⟩ := ho.shape
    simp only [maxLen] at hom
    have hs := OwnR.sl ho
    rw [lenK_i, subK_i, wrap64 (by omega) (by omega)]
    have hmt : mDops (trimL l) ≤ mDops l := by
      unfold trimL
      cases hl : l.getLast? with
      | none => exact Nat.le_refl _
      | some o =>
        simp only
        split
        · obtain ⟨ys, rfl⟩ := List.getLast?_eq_some_iff.1 hl
          rw [List.dropLast_concat, mDops_app]; omega
        · exact Nat.le_refl _
    refine JoinK_i (fun vs W' => ∃ tv, vs = [tv] ∧ W' = W ∧ RDops (fun _ => True) (fun _ => True) W tv (trimL l)) ?_ ?_
    · rintro _ _ ⟨tv, rfl, rfl, ht⟩ _
      rename World => W
      refine callK_mono (rcopy_dops ht (by omega)) ?_
      rintro v' W' ⟨o', g'⟩
      refine ⟨(OwnR.mod o' (Mod.refl (fun _ => False) _) (fun _ _ h => h) fun r y _ hy => ODop.mod hy (Mod.refl (fun _ => False) _) (fun _ _ _ h => h) fun b hb hd => ⟨Nat.le_trans gW.size hd.1, hd.2⟩).base fun g hg => Nat.le_trans gW.size (OwnR.ownB o' g hg).1, gW.trans g'⟩
    · have hA : RDops (fun _ => True) (fun _ => True) W (.slice oa l.length oc) l := SlR.mono hs (fun _ _ _ => trivial) (fun _ _ _ => rfl) (by decide) fun r y hy => RDop.mod hy (Mod.refl (fun _ => False) _) (fun _ _ _ h => h) fun _ _ _ => trivial
      have stay : trimL l = l → ∃ tv, [Value.slice oa l.length oc] = [tv] ∧ W = W ∧ RDops (fun _ => True) (fun _ => True) W tv (trimL l) := fun e => ⟨_, rfl, rfl, by rw [e]; exact hA⟩
      rw [geK_i]
      refine condK_p (fun hge => ?_) fun hge => stay ?_
      · have hip : 0 < l.length := by omega
        have hl1 : l.length - 1 < l.length := by omega
        have tr : trimL l = if l[l.length - 1].kind = 1 ∧ l[l.length - 1].patch = [] then l.dropLast else l := by unfold trimL; rw [getLast_get hip]
        rw [show ((l.length : Int) - 1) = ((l.length - 1 : Nat) : Int) by omega]
        obtain ⟨p, r, rfl, _, hr, hc, rv, sv, pv, rfl, y1, y2, y3⟩ := hA.get hl1
        refine ixK_n hl1 ?_
        rw [faK_i, Addr.add_add]
        refine ld1K_i (hc 0 _ rfl) ?_
        rw [eqK_i]
        refine condK_p (fun hk => ?_) fun hk => stay (by rw [tr, if_neg fun h => hk h.1])
        refine ixK_n hl1 ?_
        rw [faK_i, Addr.add_add]
        refine ld1K_i (hc 4 _ rfl) ?_
        obtain ⟨pa2, pc2, rfl, _⟩ := y3.shape
        rw [lenK_i, eqK_i]
        refine condK_p (fun hp => ?_) fun hp => stay (by rw [tr, if_neg fun h => hp (len0.2 h.2)])
        refine slice_hi (t := 50) (e := 59) (k := 5) (i := Try.t59) (by kernel_rfl) (by kernel_rfl) (by kernel_rfl) hA (Nat.le_of_lt hl1) fun v' hv => ⟨v', rfl, rfl, ?_⟩
        rw [tr, if_pos ⟨hk, len0.1 hp⟩, List.dropLast_eq_take]
        exact hv
      · have : l = [] := List.eq_nil_of_length_eq_zero (by omega)
        rw [this]; rfl
  · refine LoopK_i (fun vs W => ∃ (i f : Nat) (ov : Value), i ≤ x.length ∧ f ≤ i ∧ vs = [ov, .int .i64 f, .int .i64 i] ∧ OwnR w.heap.size 59 5 (RApart E ov) W ov ((x.take i).foldl rofF ([], [])).1 ∧ ((x.take i).foldl rofF ([], [])).2 = (x.take i).drop f ∧ Grow w W) (fun vs _ => x.length - iOf vs 2) ⟨0, 0, _, Nat.zero_le _, Nat.le_refl _, rfl, OwnR.nil, rfl, Mod.refl _ _⟩ ?_
    rintro vs W ⟨i, f, ov, hi, hf, rfl, ho, hgp, gW⟩ _
    rw [lenK_i]
    show leK .i64 (.int .i64 i) _ _
    rw [leK_i]
    refine condK_p (fun _ => ?_) fun hn => (hn (by omega)).elim
    have hri := rof_m (x.take i)
    have htk : (x.take i).length = i := by rw [List.length_take]; omega
    rw [htk] at hri
    have htm : mDops (x.take i) ≤ mDops x := by
      have e2 : mDops x = mDops (x.take i) + mDops (x.drop i) := by
        conv => lhs; rw [← List.take_append_drop i x]
        exact mDops_app _ _
      omega
    generalize hst : (x.take i).foldl rofF ([], []) = st at *
    obtain ⟨d, gp⟩ := st
    simp only at ho hgp hri
    refine JoinK_i (fun vs W2 => i < x.length ∧ ∃ ov' f', vs = [ov', .int .i64 ((f' : Nat) : Int)] ∧ f' ≤ i + 1 ∧ OwnR w.heap.size 59 5 (RApart E ov') W2 ov' ((x.take (i + 1)).foldl rofF ([], [])).1 ∧ ((x.take (i + 1)).foldl rofF ([], [])).2 = (x.take (i + 1)).drop f' ∧ Grow w W2) ?_ ?_
    · rintro _ W2 ⟨hlt, ov', f', rfl, hf', ho', hg', g2⟩ _
      show addK .i64 (.int .i64 i) _ _
      rw [addK_i, loop_step (by omega)]
      exact ⟨⟨i + 1, f', ov', hlt, hf', rfl, ho', hg', g2⟩, by rw [iOf2, iOf2]; omega⟩
    · refine JoinK_i (fun _ W2 => W2 = W ∧ ∀ hlt : i < x.length, x[i].kind = 1) ?_ ?_
      · rintro _ _ ⟨rfl, hk1⟩ _
        rename World => W
        refine slice_lh (t := 50) (e := 59) (k := 5) (i := Try.t59) (by kernel_rfl) (by kernel_rfl) (by kernel_rfl) (RDops.grow (RDops.old h) gW) hf hi fun v' hv => ?_
        rw [← hgp] at hv
        refine callK_mono (rgap_ok hv (by omega)) ?_
        rintro gv W3 ⟨og, g3⟩
        have zw := gW.size
        have z3 := g3.size
        have hgm := rgap_m gp
        have oz : OwnR w.heap.size 59 5 (RDop fun b => b < W3.heap.size ∧ ov.ownBlock ≠ some b ∧ E b) W3 ov d := OwnR.mod ho g3 (fun _ _ h => h) fun r y _ hy => RDop.mod hy g3 (fun _ _ _ h => h) fun b hb hd => ⟨by omega, hd⟩
        have hg3 : SlR (fun _ => True) 5 (RDop fun b => b < W3.heap.size ∧ ov.ownBlock ≠ some b ∧ E b) W3 gv (rgap gp) := SlR.mono (OwnR.sl og) (fun _ _ _ => trivial) (fun _ _ _ => rfl) (by decide) fun r y hy => RDop.mod hy (Mod.refl (fun _ => False) _) (fun _ _ _ h => h) fun b hb hd => ⟨hb, fun e => by
          have := OwnR.ownB ho b e
          rcases hd.2 with h | h
          · have := h.2; omega
          · omega, by
          rcases hd.2 with h | h
          · exact .inl h.1
          · exact .inr (by omega)⟩
        obtain ⟨t32, W4, r1, r2, r3, r4⟩ := OwnR.append (ty := 50) elem_dop oz hg3 (fun _ _ => RDop.one) (by omega) (by omega) (by simp only [maxLen]; omega) fun w' hg r y hy => RDop.mod hy (Mod.of_grownBy hg) (fun b _ hd e => hd.2.1 e) fun _ _ h => h
        refine runK_i r1 ?_
        have o4 := apart_push r2 r4
        have g4 : Grow w W4 := (gW.trans g3).next (Mod.of_grownBy r3) fun b hb e => by have := (OwnR.ownB ho b e).1; omega
        show addK .i64 (.int .i64 i) _ _
        rw [addK_i, loop_step (by omega), lenK_i]
        show eqK .i64 (.int .i64 i) _ _
        rw [eqK_i]
        refine condK_p (fun he => ?_) fun he => ?_
        · have : i = x.length := by omega
          subst this
          rw [List.take_length] at hst
          rw [hst]
          exact ⟨t32, rfl, o4, g4⟩
        · have hlt' : i < x.length := by omega
          have hk := hk1 hlt'
          have est : (x.take (i + 1)).foldl rofF ([], []) = (rput (d ++ rgap gp) x[i], []) := by
            rw [List.take_add_one, List.getElem?_eq_getElem hlt', Option.toList_some, List.foldl_append, hst]
            show rofF (d, gp) x[i] = _
            unfold rofF; rw [if_pos hk]
          have hml : mDops (d ++ rgap gp) ≤ 1099511627776 := by rw [mDops_app]; omega
          have hdrop : (x.take (i + 1)).drop (i + 1) = [] := List.drop_eq_nil_of_le (by rw [List.length_take]; omega)
          generalize d ++ rgap gp = l at o4 est hml
          have hll := mDops_len l
          obtain ⟨oa, oc, rfl, hoc, hom, hop, hon⟩ := o4.shape
          simp only [maxLen] at hom
          obtain ⟨p, r, rfl, _, hr, hc, hx⟩ := (RDops.grow (RDops.old h) g4).get hlt'
          have hx0 := hx
          obtain ⟨rv, sv, pv, rfl, y1, y2, y3⟩ := hx
          rw [lenK_i, subK_i, wrap64 (by omega) (by omega)]
          refine JoinK_i (fun vs W5 => vs = [.bool (match l.getLast? with | some q => decide (q.kind = 1 ∧ q.patch = x[i].patch) | none => false)] ∧ Grow W4 W5) ?_ ?_
          · rintro _ W5 ⟨rfl, g5⟩ _
            rw [nth_z, List.headD_cons]
            have z5 := g5.size
            have z4 := g4.size
            cases hls : (match l.getLast? with | some q => decide (q.kind = 1 ∧ q.patch = x[i].patch) | none => false) with
            | false =>
              rw [condK_b, if_neg (by simp)]
              refine ixK_n hlt' (ldnK_i hr (fun j u hu => by rw [Addr.add_add]; exact g5.cell (hc j u hu) fun h => h) ?_)
              have oz5 : OwnR w.heap.size 59 5 (RDop fun b => b < W5.heap.size ∧ (Value.slice oa l.length oc).ownBlock ≠ some b ∧ E b) W5 (.slice oa l.length oc) l := OwnR.mod o4 g5 (fun _ _ h => h) fun r y _ hy => RDop.mod hy g5 (fun _ _ _ h => h) fun b hb hd => ⟨by omega, hd⟩
              have hxk : RDop (fun b => b < W5.heap.size ∧ (Value.slice oa l.length oc).ownBlock ≠ some b ∧ E b) W5 [.int .u8 x[i].kind, .int .i64 x[i].n, rv, sv, pv] x[i] := RDop.mod hx0 g5 (fun _ _ _ h => h) fun b hb hd => ⟨by have := hd.2; omega, fun e => by have := (OwnR.ownB o4 b e).1; have := hd.2; omega, .inl hd.1⟩
              have sh : ∃ a1 c1 a2 c2 a3 c3 n1 n2 n3, rv = .slice a1 n1 c1 ∧ sv = .slice a2 n2 c2 ∧ pv = .slice a3 n3 c3 := by
                obtain ⟨a1, c1, e1, _⟩ := y1.shape
                obtain ⟨a2, c2, e2, _⟩ := y2.shape
                obtain ⟨a3, c3, e3, _⟩ := y3.shape
                exact ⟨a1, c1, a2, c2, a3, c3, _, _, _, e1, e2, e3⟩
              refine push_g elem_dop oz5 (by omega) (cs := [.int .u8 x[i].kind, .int .i64 x[i].n, rv, sv, pv]) (x := x[i]) (by obtain ⟨a1, c1, a2, c2, a3, c3, n1, n2, n3, rfl, rfl, rfl⟩ := sh; kernel_rfl) rfl hxk (fun _ _ _ => RDop.one) (fun w1 w2 r z hz hm hy => RDop.mod hy hm (fun b _ hd e => ?_) fun _ _ h => h) (by omega) (by simp only [maxLen]; omega) fun v' w' o' m' hw' => ⟨hlt', v', i + 1, rfl, Nat.le_refl _, ?_, by rw [est, hdrop], (g4.trans g5).next m' fun b hb e => by have := (OwnR.ownB o4 b e).1; omega⟩
              · rcases e with e | e
                · exact hd.2.1 e
                · have := hd.1; omega
              · rw [est]
                have e1 : rput l x[i] = l ++ [x[i]] := by
                  unfold rput
                  cases hg : l.getLast? with
                  | none => rfl
                  | some q => rw [hg] at hls; simp only [decide_eq_false_iff_not] at hls; simp only [if_neg hls]
                rw [e1]
                exact apart_push o' hw'
            | true =>
              rw [condK_b, if_pos rfl]
              have hip : 0 < l.length := by
                cases hn : l with
                | nil => rw [hn] at hls; cases hls
                | cons a l => simp
              have hl1 : l.length - 1 < l.length := by omega
              rw [getLast_get hip] at hls
              have hq : l[l.length - 1].kind = 1 ∧ l[l.length - 1].patch = x[i].patch := by simpa using hls
              have er : rput l x[i] = l.set (l.length - 1) ⟨l[l.length - 1].kind, IntKind.i64.wrap (l[l.length - 1].n + x[i].n), l[l.length - 1].runes, l[l.length - 1].set, l[l.length - 1].patch⟩ := by
                unfold rput; rw [getLast_get hip]; exact if_pos hq
              have hoa : ∃ g, oa = some ⟨g, 0, none⟩ := by
                cases oa with
                | none => have := hon rfl; rw [this] at hip; simp at hip
                | some p => obtain ⟨g, rfl, _⟩ := hop p rfl; exact ⟨g, rfl⟩
              obtain ⟨g, rfl⟩ := hoa
              obtain ⟨hgw, hg1⟩ := OwnR.ownB o4 g rfl
              rw [show ((l.length : Int) - 1) = ((l.length - 1 : Nat) : Int) by omega]
              have gd : Grow W4 W5.drew := g5.trans (Mod.drew _ _)
              have od : OwnR w.heap.size 59 5 (RDop fun b => b ≠ g ∧ E b) W5.drew (.slice (some ⟨g, 0, none⟩) l.length oc) l := OwnR.mod o4 gd (fun _ _ h => h) fun r y _ hy => RDop.mod hy gd (fun _ _ _ h => h) fun b hb hd => ⟨fun e => hd.1 (by rw [e]; rfl), hd.2⟩
              refine drawC_i (fun k y => k = 15 ∧ y = g) ?_
              obtain ⟨r3, hr3, hcl, hy3, hlv⟩ := OwnR.cellsOf od hl1
              obtain ⟨rv3, sv3, pv3, rfl, _, _, _⟩ := hy3
              refine ixK_n hl1 ?_
              rw [faK_i, Addr.add_add]
              refine sld1_i ⟨by rw [addr0]; exact hcl 1 _ rfl, fun j hj e => by obtain ⟨rfl, _⟩ := e; exact absurd hj (by decide)⟩ ?_
              refine ixK_n hlt' ?_
              rw [faK_i, Addr.add_add]
              refine sld1_i ⟨gd.cell (hc 1 _ rfl) fun h => h, fun j hj e => by obtain ⟨rfl, _⟩ := e; exact absurd hj (by decide)⟩ ?_
              rw [addK_i]
              refine ixK_n hl1 ?_
              rw [faK_i, Addr.add_add, addr0]
              refine (hlv 1 (by decide)).st rfl rfl ⟨Mod.setCell _ _ _ ⟨rfl, rfl⟩, ?_⟩
              have mS := setA W5.drew g ((l.length - 1) * 5 + 1) (.int .i64 (IntKind.i64.wrap (l[l.length - 1].n + x[i].n)))
              refine ⟨hlt', _, i + 1, rfl, Nat.le_refl _, ?_, by rw [est, hdrop], (g4.trans gd).next mS fun b hb e => by omega⟩
              rw [est, er]
              have hst2 := (OwnR.store (R' := RApart E (.slice (some ⟨g, 0, none⟩) l.length oc)) (u := .int .i64 (IntKind.i64.wrap (l[l.length - 1].n + x[i].n))) (x' := ⟨l[l.length - 1].kind, IntKind.i64.wrap (l[l.length - 1].n + x[i].n), l[l.length - 1].runes, l[l.length - 1].set, l[l.length - 1].patch⟩) od hl1 (show 1 < 5 by decide) rfl (fun r y _ hy => by
                  rw [addr0]
                  exact RDop.mod hy mS (fun b _ hd e => hd.1 e) fun b _ hd => ⟨fun e => hd.1 (by cases e; rfl), hd.2⟩) fun r hy => by
                  rw [addr0]
                  obtain ⟨rv4, sv4, pv4, rfl, t1, t2, t3⟩ := RDop.mod (D' := fun b => (Value.slice (some ⟨g, 0, none⟩) l.length oc).ownBlock ≠ some b ∧ E b) hy mS (fun b _ hd e => hd.1 e) fun b _ hd => ⟨fun e => hd.1 (by cases e; rfl), hd.2⟩
                  exact ⟨rv4, sv4, pv4, rfl, t1, t2, t3⟩).2.2.1
              rw [addr0] at hst2
              exact hst2
          · refine drawK_i (fun W' => Grow W4 W') (Mod.drew _ _) ?_
            rw [geK_i]
            refine condK_p (fun hge => ?_) fun hge => ?_
            · have hip : 0 < l.length := by omega
              have hl1 : l.length - 1 < l.length := by omega
              rw [show ((l.length : Int) - 1) = ((l.length - 1 : Nat) : Int) by omega, getLast_get hip]
              obtain ⟨p2, r2, rfl, _, hr2, hc2, rv2, sv2, pv2, rfl, z1, z2, z3⟩ := (OwnR.sl o4).get hl1
              refine ixK_n hl1 ?_
              rw [faK_i, Addr.add_add]
              refine qld1K_i (fun W' g' => g'.cell (hc2 0 _ rfl) fun h => h) ?_
              rw [eqK_i]
              refine condK_p (fun hk1 => ?_) fun hk1 W' g' => ⟨by simp [hk1], g'⟩
              refine ixK_n hl1 ?_
              rw [faK_i, Addr.add_add]
              refine qld1K_i (fun W' g' => g'.cell (hc2 4 _ rfl) fun h => h) ?_
              refine ixK_n hlt' ?_
              rw [faK_i, Addr.add_add]
              refine qld1K_i (fun W' g' => g'.cell (hc 4 _ rfl) fun h => h) ?_
              refine ⟨.bool (decide (l[l.length - 1].patch = x[i].patch)), fun W' g' => ?_, fun W' g' => ⟨?_, g'⟩⟩
              · refine callK_mono (rsame_pat (z3.grow g' (by decide) fun _ _ h => h) (y3.grow g' (by decide) fun _ _ h => h)) ?_
                rintro _ W'' ⟨rfl, g''⟩
                exact ⟨rfl, g'.trans g''⟩
              · simp only [hk1, true_and]
            · intro W' g'
              have : l = [] := List.eq_nil_of_length_eq_zero (by omega)
              exact ⟨by rw [this]; rfl, g'⟩
      · rw [lenK_i]
        show ltK .i64 (.int .i64 i) _ _
        rw [ltK_i]
        refine condK_p (fun hlt => ?_) fun hge => ⟨rfl, fun h => by omega⟩
        have hlt' : i < x.length := by omega
        obtain ⟨p, r, rfl, _, hr, hc, rv, sv, pv, rfl, y1, y2, y3⟩ := (RDops.grow h gW).get hlt'
        refine ixK_n hlt' ?_
        rw [faK_i, Addr.add_add]
        refine ld1K_i (hc 0 _ rfl) ?_
        rw [neK_i]
        refine condK_neg (fun hk => ⟨rfl, fun _ => hk⟩) fun hk => ?_
        have est : (x.take (i + 1)).foldl rofF ([], []) = rofF (d, gp) x[i] := by
          rw [List.take_add_one, List.getElem?_eq_getElem hlt', Option.toList_some, List.foldl_append, hst]; rfl
        have e2 : rofF (d, gp) x[i] = (d, gp ++ [x[i]]) := by unfold rofF; rw [if_neg hk]
        refine ⟨hlt', ov, f, rfl, by omega, by rw [est, e2]; exact ho, ?_, gW⟩
        rw [est, e2]
        show gp ++ [x[i]] = _
        rw [hgp, List.take_add_one, List.getElem?_eq_getElem hlt', Option.toList_some, List.drop_append_of_le_length (by omega)]
theorem ris_ok {S D : Nat → Prop} {xv : Value} {x : List Dop} {w : World} (h : RDops S D w xv x) (hb : mDops x ≤ 274877906944) :
    callK Try.prog 38 [xv] (fun v' w' => v' = .bool (decide (rof x = x)) ∧ Grow w w') w := by
  apply S38_ok
  unfold S38
  refine callK_mono (rof_ok h hb) ?_
  rintro v1 w1 ⟨o1, g1⟩
  exact callK_mono (rsame_dops (ODops.sl o1) (RDops.grow h g1)) fun _ _ h => ⟨h.1, g1.trans h.2⟩
end Go.Proofs.Ytmfplfaeibehiaa

namespace Go.K
open Go
/-- a block of cells of one type, none of it frozen -/
def Ty (W : World) (g ty : Nat) : Prop := ∃ cur, W.heap[g]? = some (.cells cur ty (0, 0))
theorem Ty.set {W : World} {g ty : Nat} (h : Ty W g ty) (A : Addr) (u : Value) : Ty (W.setCell A u) g ty := by
  obtain ⟨cur, h⟩ := h
  by_cases e : A.block = g
  · subst e
    refine ⟨if A.spot.isSome then cur else cur.setIfInBounds A.off u, ?_⟩
    unfold World.setCell
    simp [Array.getElem?_modify, h]
  · exact ⟨cur, by rw [RowKit.Below.heap_setCell W A u g (Ne.symm e)]; exact h⟩
theorem Ty.mod {M : Nat → Prop} {W W' : World} {g ty : Nat} (h : Ty W g ty) (hm : Mod M W W') (hn : ¬ M g) : Ty W' g ty := by
  obtain ⟨cur, h⟩ := h
  exact ⟨cur, (hm.same g (Array.getElem?_eq_some_iff.1 h).1 hn).trans h⟩
theorem Ty.uniq {W : World} {g ty ty' : Nat} (h : Ty W g ty) (h' : Ty W g ty') : ty = ty' := by
  obtain ⟨c, h⟩ := h
  obtain ⟨c', h'⟩ := h'
  rw [h] at h'
  cases h'; rfl
theorem Ty.live {W : World} {g ty o : Nat} {v : Value} (h : Ty W g ty) (hc : W.cell? ⟨g, o, none⟩ = some v) : Live W ⟨g, o, none⟩ := by
  obtain ⟨c, h⟩ := h
  exact ⟨by rw [hc]; rfl, by simp [World.frozen?, h]⟩
/-- n numbers, sz cells from one to the next, in a block of one type that is another one than gB and lies between B and E -/
def WL (B E gB ty sz : Nat) (q : IntKind) (W : World) (v : Value) (n : Nat) : Prop :=
  ∃ a c, v = .slice a n c ∧ ∀ k, k < n → ∃ g', a = some ⟨g', 0, none⟩ ∧ g' ≠ gB ∧ B ≤ g' ∧ g' < E ∧ Ty W g' ty ∧ ∃ x, W.cell? ⟨g', k * sz, none⟩ = some (.int q x)
theorem WL.set {B E gB ty sz ty' g o n : Nat} {q : IntKind} {W : World} {v u : Value} (h : WL B E gB ty sz q W v n) (hg : Ty W g ty') (hu : ty' = ty → ∃ x, u = .int q x) : WL B E gB ty sz q (W.setCell ⟨g, o, none⟩ u) v n := by
  obtain ⟨a, c, rfl, h⟩ := h
  refine ⟨a, c, rfl, fun k hk => ?_⟩
  obtain ⟨g', h1, h2, h3, h4, h5, x, h6⟩ := h k hk
  refine ⟨g', h1, h2, h3, h4, h5.set _ _, ?_⟩
  by_cases e : (⟨g, o, none⟩ : Addr) = ⟨g', k * sz, none⟩
  · simp only [Addr.mk.injEq, and_true] at e
    obtain ⟨rfl, rfl⟩ := e
    obtain ⟨y, rfl⟩ := hu (hg.uniq h5)
    exact ⟨y, World.cell?_setCell_same _ _ _ h6⟩
  · exact ⟨x, by rw [World.cell?_setCell_other _ _ _ _ e]; exact h6⟩
theorem WL.mod {B E gB ty sz n : Nat} {q : IntKind} {M : Nat → Prop} {W W' : World} {v : Value} (h : WL B E gB ty sz q W v n) (hm : Mod M W W') (hM : ∀ b, B ≤ b → b < E → ¬ M b) : WL B E gB ty sz q W' v n := by
  obtain ⟨a, c, rfl, h⟩ := h
  refine ⟨a, c, rfl, fun k hk => ?_⟩
  obtain ⟨g', h1, h2, h3, h4, h5, x, h6⟩ := h k hk
  exact ⟨g', h1, h2, h3, h4, h5.mod hm (hM g' h3 h4), x, hm.cell h6 (hM g' h3 h4)⟩
theorem OwnR.wl {α : Type} {B B' gB e k : Nat} {q : IntKind} {R : World → List Value → α → Prop} {w : World} {v : Value} {l : List α} (h : OwnR B e k R w v l) (hk : 0 < k) (hR : ∀ r x, R w r x → ∃ y, r[0]? = some (.int q y))
    (hg : ∀ g, v.ownBlock = some g → g ≠ gB ∧ B' ≤ g) : WL B' w.heap.size gB e k q w v l.length := by
  obtain ⟨rows, h1, h2, h3, h4⟩ := id h
  rcases h1.2 with ⟨rfl, hn⟩ | ⟨g, cap, cur, rfl, hb, hh, hn, hm, _⟩
  · exact ⟨none, 0, by rw [hn], fun k hk => by omega⟩
  · obtain ⟨e1, e2⟩ := hg g rfl
    refine ⟨_, cap, rfl, fun i hi => ⟨g, rfl, e1, e2, (Array.getElem?_eq_some_iff.1 hh).1, ⟨cur, hh⟩, ?_⟩⟩
    obtain ⟨r, hr, hc, hx, _⟩ := OwnR.cellsOf h hi
    obtain ⟨y, hy⟩ := hR r _ hx
    exact ⟨y, hc 0 _ hy⟩
end Go.K
namespace Go.Proofs.Ytmfplfaeibehiaa
open Go Go.K

/-- an op's three lists may be written -/
structure WOp (B E gB : Nat) (W : World) (o : Dop) (rv sv pv : Value) : Prop where
  r : WL B E gB 21 1 .i32 W rv o.runes.length
  s : WL B E gB 46 5 .i64 W sv o.set.length
  p : WL B E gB 61 6 .i64 W pv o.patch.length
theorem ODop.wop {B gB : Nat} {D : Nat → Prop} {w : World} {r : List Value} {o : Dop} (h : ODop D w r o) (hD : ∀ b, D b → b ≠ gB ∧ B ≤ b) : ∃ rv sv pv, r = [.int .u8 o.kind, .int .i64 o.n, rv, sv, pv] ∧ WOp B w.heap.size gB w o rv sv pv := by
  obtain ⟨rv, sv, pv, rfl, ⟨h1, d1⟩, ⟨h2, d2⟩, ⟨h3, d3⟩⟩ := h
  exact ⟨rv, sv, pv, rfl, OwnR.wl h1 (by decide) (fun r x e => ⟨x, by rw [e]; rfl⟩) fun g hg => hD g (d1 g hg), OwnR.wl h2 (by decide) (fun r x e => ⟨x.key, by rw [e]; rfl⟩) fun g hg => hD g (d2 g hg), OwnR.wl h3 (by decide) (fun r x e => ⟨x.key, by rw [e]; rfl⟩) fun g hg => hD g (d3 g hg)⟩
/-- a delta whose numbers may be written: its row in block gB, and where the ops' lists stand -/
structure WOps (B E gB : Nat) (W : World) (l : List Dop) (rs ss ps : Nat → Value) : Prop where
  lo : B ≤ gB
  hi : gB < E
  ty : Ty W gB 59
  n : ∀ i, i < l.length → ∃ x, W.cell? ⟨gB, i * 5 + 1, none⟩ = some (.int .i64 x)
  cr : ∀ i, i < l.length → W.cell? ⟨gB, i * 5 + 2, none⟩ = some (rs i)
  cs : ∀ i, i < l.length → W.cell? ⟨gB, i * 5 + 3, none⟩ = some (ss i)
  cp : ∀ i, i < l.length → W.cell? ⟨gB, i * 5 + 4, none⟩ = some (ps i)
  op : ∀ i (hi : i < l.length), WOp B E gB W l[i] (rs i) (ss i) (ps i)
theorem WOp.set {B E gB ty' g o : Nat} {W : World} {op : Dop} {rv sv pv u : Value} (h : WOp B E gB W op rv sv pv) (hg : Ty W g ty') (h1 : ty' = 21 → ∃ x, u = .int .i32 x) (h2 : ty' = 46 → ∃ x, u = .int .i64 x) (h3 : ty' = 61 → ∃ x, u = .int .i64 x) :
    WOp B E gB (W.setCell ⟨g, o, none⟩ u) op rv sv pv := ⟨h.r.set hg h1, h.s.set hg h2, h.p.set hg h3⟩
theorem WOps.mod {B E gB : Nat} {M : Nat → Prop} {W W' : World} {l : List Dop} {rs ss ps : Nat → Value} (h : WOps B E gB W l rs ss ps) (hm : Mod M W W') (hM : ∀ b, B ≤ b → b < E → ¬ M b) : WOps B E gB W' l rs ss ps where
  lo := h.lo
  hi := h.hi
  ty := h.ty.mod hm (hM gB h.lo h.hi)
  n i hi := by obtain ⟨x, hx⟩ := h.n i hi; exact ⟨x, hm.cell hx (hM gB h.lo h.hi)⟩
  cr i hi := hm.cell (h.cr i hi) (hM gB h.lo h.hi)
  cs i hi := hm.cell (h.cs i hi) (hM gB h.lo h.hi)
  cp i hi := hm.cell (h.cp i hi) (hM gB h.lo h.hi)
  op i hi := ⟨(h.op i hi).r.mod hm hM, (h.op i hi).s.mod hm hM, (h.op i hi).p.mod hm hM⟩
/-- a store into a list -/
theorem WOps.setL {B E gB ty' g o : Nat} {W : World} {l : List Dop} {rs ss ps : Nat → Value} {u : Value} (h : WOps B E gB W l rs ss ps) (hne : g ≠ gB) (hg : Ty W g ty') (h1 : ty' = 21 → ∃ x, u = .int .i32 x) (h2 : ty' = 46 → ∃ x, u = .int .i64 x) (h3 : ty' = 61 → ∃ x, u = .int .i64 x) :
    WOps B E gB (W.setCell ⟨g, o, none⟩ u) l rs ss ps := by
  have k : ∀ {j : Nat} {v : Value}, W.cell? ⟨gB, j, none⟩ = some v → (W.setCell ⟨g, o, none⟩ u).cell? ⟨gB, j, none⟩ = some v := fun hv => by rw [World.cell?_setCell_other _ _ _ _ (fun e => hne (by simp only [Addr.mk.injEq] at e; exact e.1))]; exact hv
  exact ⟨h.lo, h.hi, h.ty.set _ _, fun i hi => by obtain ⟨x, hx⟩ := h.n i hi; exact ⟨x, k hx⟩, fun i hi => k (h.cr i hi), fun i hi => k (h.cs i hi), fun i hi => k (h.cp i hi), fun i hi => (h.op i hi).set hg h1 h2 h3⟩
/-- a store into an op's number -/
theorem WOps.setN {B E gB i : Nat} {W : World} {l : List Dop} {rs ss ps : Nat → Value} (h : WOps B E gB W l rs ss ps) (x : Int) : WOps B E gB (W.setCell ⟨gB, i * 5 + 1, none⟩ (.int .i64 x)) l rs ss ps := by
  have k : ∀ {j q : Nat} {v : Value}, q < 5 → q ≠ 1 → W.cell? ⟨gB, j * 5 + q, none⟩ = some v → (W.setCell ⟨gB, i * 5 + 1, none⟩ (.int .i64 x)).cell? ⟨gB, j * 5 + q, none⟩ = some v := fun h5 hq hv => by rw [World.cell?_setCell_other _ _ _ _ (fun e => by simp only [Addr.mk.injEq] at e; omega)]; exact hv
  refine ⟨h.lo, h.hi, h.ty.set _ _, fun j hj => ?_, fun i hi => k (by decide) (by decide) (h.cr i hi), fun i hi => k (by decide) (by decide) (h.cs i hi), fun i hi => k (by decide) (by decide) (h.cp i hi), fun i hi => (h.op i hi).set h.ty (fun e => absurd e (by decide)) (fun e => absurd e (by decide)) fun e => absurd e (by decide)⟩
  obtain ⟨y, hy⟩ := h.n j hj
  by_cases e : j = i
  · subst e; exact ⟨x, World.cell?_setCell_same _ _ _ hy⟩
  · exact ⟨y, by rw [World.cell?_setCell_other _ _ _ _ (fun e => by simp only [Addr.mk.injEq] at e; omega)]; exact hy⟩
theorem ODops.wr {B : Nat} {W : World} {m : Value} {l : List Dop} (h : ODops B W m l) : ∃ a c, m = .slice a l.length c ∧ (0 < l.length → ∃ gB rs ss ps, a = some ⟨gB, 0, none⟩ ∧ WOps B W.heap.size gB W l rs ss ps) := by
  obtain ⟨a, c, rfl, _⟩ := OwnR.shape h
  refine ⟨a, c, rfl, fun h0 => ?_⟩
  obtain ⟨rows, h1, _⟩ := id h
  rcases h1.2 with ⟨_, hn⟩ | ⟨gB, cap, cur, e, hb, hh, hn, hm, _⟩
  · omega
  · cases e
    have one : ∀ i (hi : i < l.length), ∃ rv sv pv, (∀ j u, [Value.int .u8 l[i].kind, .int .i64 l[i].n, rv, sv, pv][j]? = some u → W.cell? ⟨gB, i * 5 + j, none⟩ = some u) ∧ WOp B W.heap.size gB W l[i] rv sv pv := by
      intro i hi
      obtain ⟨r, hr, hc, hx, _⟩ := OwnR.cellsOf h hi
      obtain ⟨rv, sv, pv, rfl, hw⟩ := hx.wop (B := B) (gB := gB) fun b hb => ⟨fun e => hb.2 (by rw [e]; rfl), hb.1⟩
      exact ⟨rv, sv, pv, hc, hw⟩
    let rs : Nat → Value := fun i => if hi : i < l.length then (one i hi).choose else .slice none 0 0
    let ss : Nat → Value := fun i => if hi : i < l.length then (one i hi).choose_spec.choose else .slice none 0 0
    let ps : Nat → Value := fun i => if hi : i < l.length then (one i hi).choose_spec.choose_spec.choose else .slice none 0 0
    have spec : ∀ i (hi : i < l.length), (∀ j u, [Value.int .u8 l[i].kind, .int .i64 l[i].n, rs i, ss i, ps i][j]? = some u → W.cell? ⟨gB, i * 5 + j, none⟩ = some u) ∧ WOp B W.heap.size gB W l[i] (rs i) (ss i) (ps i) := by
      intro i hi
      simp only [rs, ss, ps, hi, dif_pos]
      exact (one i hi).choose_spec.choose_spec.choose_spec
    exact ⟨gB, rs, ss, ps, rfl, hb, (Array.getElem?_eq_some_iff.1 hh).1, ⟨cur, hh⟩, fun i hi => ⟨_, (spec i hi).1 1 _ rfl⟩, fun i hi => (spec i hi).1 2 _ rfl, fun i hi => (spec i hi).1 3 _ rfl, fun i hi => (spec i hi).1 4 _ rfl, fun i hi => (spec i hi).2⟩
end Go.Proofs.Ytmfplfaeibehiaa
namespace Go.K
open Go
/-- the loop that counts up one number of each element of a list that stands in a row's cell -/
theorem inc_loop0 {sz off n i m c gB : Nat} {q : IntKind} {v : Value} {W : World} {Rest : World → Prop} (J : World → Prop) (hJ : J W) (hi : i < m) (hn : (n : Int) ≤ 9223372036854775806) (hsh : ∃ a cc, v = .slice a n cc) (hc : ∀ W, J W → W.cell? ⟨gB, i * 5 + off, none⟩ = some v)
    (hv : ∀ W, J W → ∀ k, k < n → ∃ g cc x, v = .slice (some ⟨g, 0, none⟩) n cc ∧ W.cell? ⟨g, k * sz, none⟩ = some (.int q x) ∧ Live W ⟨g, k * sz, none⟩ ∧ ∀ y, J (W.setCell ⟨g, k * sz, none⟩ (.int q y))) (hR : ∀ W, J W → Rest W) :
    LoopK [.int .i64 0] (fun vs again w13 => ∀ _ : Env, ltK .i64 (nth vs 0) (.int .i64 n) fun t57 => condK t57 (ixK 5 (.slice (some ⟨gB, 0, none⟩) m c) (.int .i64 i) fun t61 => faK off t61 fun t62 => ld1K t62 (fun t63 w14 => ixK sz t63 (nth vs 0) fun t65 => ld1K t65 (fun t66 w15 => addK q t66 (.int q 1) fun t67 => ixK sz t63 (nth vs 0) fun t68 => st1K t68 t67 (fun w16 => addK .i64 (nth vs 0) (.int .i64 1) fun t69 => again [t69] w16) w15) w14) w13) (Rest w13)) W := by
  refine LoopK_i (fun vs w1 => ∃ k : Nat, k ≤ n ∧ vs = [.int .i64 k] ∧ J w1) (fun vs _ => n - iOf vs 0) ⟨0, Nat.zero_le _, rfl, hJ⟩ ?_
  rintro vs w1 ⟨k, hk, rfl, hj⟩ _
  rw [nth_z, List.headD_cons, ltK_i]
  refine condK_p (fun hlt => ?_) fun _ => hR w1 hj
  have hlt' : k < n := by omega
  refine ixK_n hi ?_
  rw [faK_i, Addr.add_add, addr0]
  refine ld1K_i (hc w1 hj) ?_
  obtain ⟨g, cc, x, rfl, h1, h2, h3⟩ := hv w1 hj k hlt'
  refine ixK_n hlt' ?_
  rw [addr0]
  refine ld1K_i h1 ?_
  rw [addK_i]
  refine ixK_n hlt' ?_
  rw [addr0]
  refine h2.st rfl rfl ?_
  rw [addK_i, loop_step (by omega)]
  exact ⟨⟨k + 1, hlt', rfl, h3 _⟩, by rw [iOf0, iOf0]; omega⟩
theorem inc_loop1 {sz off n i m c gB : Nat} {q : IntKind} {v : Value} {W : World} {Rest : World → Prop} (J : World → Prop) (hJ : J W) (hi : i < m) (hn : (n : Int) ≤ 9223372036854775806) (hsh : ∃ a cc, v = .slice a n cc) (hc : ∀ W, J W → W.cell? ⟨gB, i * 5 + off, none⟩ = some v)
    (hv : ∀ W, J W → ∀ k, k < n → ∃ g cc x, v = .slice (some ⟨g, 0, none⟩) n cc ∧ W.cell? ⟨g, k * sz, none⟩ = some (.int q x) ∧ Live W ⟨g, k * sz, none⟩ ∧ ∀ y, J (W.setCell ⟨g, k * sz, none⟩ (.int q y))) (hR : ∀ W, J W → Rest W) :
    LoopK [.int .i64 0] (fun vs again w13 => ∀ _ : Env, ltK .i64 (nth vs 0) (.int .i64 n) fun t57 => condK t57 (ixK 5 (.slice (some ⟨gB, 0, none⟩) m c) (.int .i64 i) fun t61 => faK off t61 fun t62 => ld1K t62 (fun t63 w14 => ixK sz t63 (nth vs 0) fun t65 => faK 0 t65 fun t64 => ld1K t64 (fun t66 w15 => addK q t66 (.int q 1) fun t67 => ixK sz t63 (nth vs 0) fun t68 => faK 0 t68 fun t70 => st1K t70 t67 (fun w16 => addK .i64 (nth vs 0) (.int .i64 1) fun t69 => again [t69] w16) w15) w14) w13) (Rest w13)) W := by
  refine LoopK_i (fun vs w1 => ∃ k : Nat, k ≤ n ∧ vs = [.int .i64 k] ∧ J w1) (fun vs _ => n - iOf vs 0) ⟨0, Nat.zero_le _, rfl, hJ⟩ ?_
  rintro vs w1 ⟨k, hk, rfl, hj⟩ _
  rw [nth_z, List.headD_cons, ltK_i]
  refine condK_p (fun hlt => ?_) fun _ => hR w1 hj
  have hlt' : k < n := by omega
  refine ixK_n hi ?_
  rw [faK_i, Addr.add_add, addr0]
  refine ld1K_i (hc w1 hj) ?_
  obtain ⟨g, cc, x, rfl, h1, h2, h3⟩ := hv w1 hj k hlt'
  refine ixK_n hlt' ?_
  rw [faK_i, Addr.add_add, Nat.add_zero, addr0]
  refine ld1K_i h1 ?_
  rw [addK_i]
  refine ixK_n hlt' ?_
  rw [faK_i, Addr.add_add, Nat.add_zero, addr0]
  refine h2.st rfl rfl ?_
  rw [addK_i, loop_step (by omega)]
  exact ⟨⟨k + 1, hlt', rfl, h3 _⟩, by rw [iOf0, iOf0]; omega⟩
end Go.K
namespace Go.Proofs.Ytmfplfaeibehiaa
open Go Go.K
/-- what may be written stays so, and nothing else turns -/
def WJ (B E gB : Nat) (W0 : World) (l : List Dop) (rs ss ps : Nat → Value) (W : World) : Prop := WOps B E gB W l rs ss ps ∧ Mod (fun b => B ≤ b ∧ b < E) W0 W
theorem WJ.lr {B E gB : Nat} {W0 W : World} {l : List Dop} {rs ss ps : Nat → Value} (h : WJ B E gB W0 l rs ss ps W) {i k : Nat} (hi : i < l.length) (hk : k < l[i].runes.length) :
    ∃ g cc x, rs i = .slice (some ⟨g, 0, none⟩) l[i].runes.length cc ∧ W.cell? ⟨g, k * 1, none⟩ = some (.int .i32 x) ∧ Live W ⟨g, k * 1, none⟩ ∧ ∀ y, WJ B E gB W0 l rs ss ps (W.setCell ⟨g, k * 1, none⟩ (.int .i32 y)) := by
  obtain ⟨a, c, e, hh⟩ := (h.1.op i hi).r
  obtain ⟨g, rfl, h2, h3, h4, h5, x, h6⟩ := hh k hk
  exact ⟨g, c, x, e, h6, h5.live h6, fun y => ⟨h.1.setL h2 h5 (fun _ => ⟨y, rfl⟩) (fun e => absurd e (by decide)) (fun e => absurd e (by decide)), h.2.trans (Mod.setCell _ _ _ ⟨h3, h4⟩)⟩⟩
theorem WJ.ls {B E gB : Nat} {W0 W : World} {l : List Dop} {rs ss ps : Nat → Value} (h : WJ B E gB W0 l rs ss ps W) {i k : Nat} (hi : i < l.length) (hk : k < l[i].set.length) :
    ∃ g cc x, ss i = .slice (some ⟨g, 0, none⟩) l[i].set.length cc ∧ W.cell? ⟨g, k * 5, none⟩ = some (.int .i64 x) ∧ Live W ⟨g, k * 5, none⟩ ∧ ∀ y, WJ B E gB W0 l rs ss ps (W.setCell ⟨g, k * 5, none⟩ (.int .i64 y)) := by
  obtain ⟨a, c, e, hh⟩ := (h.1.op i hi).s
  obtain ⟨g, rfl, h2, h3, h4, h5, x, h6⟩ := hh k hk
  exact ⟨g, c, x, e, h6, h5.live h6, fun y => ⟨h.1.setL h2 h5 (fun e => absurd e (by decide)) (fun _ => ⟨y, rfl⟩) (fun e => absurd e (by decide)), h.2.trans (Mod.setCell _ _ _ ⟨h3, h4⟩)⟩⟩
theorem WJ.lp {B E gB : Nat} {W0 W : World} {l : List Dop} {rs ss ps : Nat → Value} (h : WJ B E gB W0 l rs ss ps W) {i k : Nat} (hi : i < l.length) (hk : k < l[i].patch.length) :
    ∃ g cc x, ps i = .slice (some ⟨g, 0, none⟩) l[i].patch.length cc ∧ W.cell? ⟨g, k * 6, none⟩ = some (.int .i64 x) ∧ Live W ⟨g, k * 6, none⟩ ∧ ∀ y, WJ B E gB W0 l rs ss ps (W.setCell ⟨g, k * 6, none⟩ (.int .i64 y)) := by
  obtain ⟨a, c, e, hh⟩ := (h.1.op i hi).p
  obtain ⟨g, rfl, h2, h3, h4, h5, x, h6⟩ := hh k hk
  exact ⟨g, c, x, e, h6, h5.live h6, fun y => ⟨h.1.setL h2 h5 (fun e => absurd e (by decide)) (fun e => absurd e (by decide)) (fun _ => ⟨y, rfl⟩), h.2.trans (Mod.setCell _ _ _ ⟨h3, h4⟩)⟩⟩
end Go.Proofs.Ytmfplfaeibehiaa

namespace Go.Proofs.Ytmfplfaeibehiaa
open Go Go.K

abbrev dz3 : List Value := [.slice none 0 0, .slice none 0 0]
theorem run1 {w w' : World} {q : Int} {g : Nat} (hc : ∀ j v, [Value.int .i32 q][j]? = some v → w'.cell? ((⟨g, 0, none⟩ : Addr).add j) = some v) : RRun (fun _ => True) w' (.slice (some ⟨g, 0, none⟩) 1 1) [q] := by
  refine ⟨_, _, rfl, Nat.le_refl _, by simp [maxLen], fun i x hx => ⟨_, [.int .i32 x], rfl, trivial, rfl, fun j u hu => ?_, rfl⟩⟩
  have hi : i = 0 := by have := (List.getElem?_eq_some_iff.1 hx).1; simp at this; exact this
  subst hi
  simp at hx; subst hx
  rw [Nat.zero_mul, Nat.zero_add]; exact hc j u hu
theorem known16_ok {w : World} : callK Try.prog 35 [] (fun v w' => v = .bool true ∧ Grow w w') w := by
  apply S35_ok
  unfold S35
  refine ⟨#[.int .u8 3, .int .i64 2, .slice none 0 0, .slice none 0 0, .slice none 0 0], by kernel_rfl, ?_⟩
  refine row1_i fun w1 g1 z1 c1 => ?_
  have r1 := run1 (w := w) c1
  generalize Value.slice (some ⟨w.heap.size, 0, none⟩) 1 1 = v1 at r1 ⊢
  obtain ⟨p1, q1, rfl, _⟩ := r1.shape
  refine ⟨#[.int .u8 2, .int .i64 0, .slice p1 1 q1, .slice none 0 0, .slice none 0 0], by kernel_rfl, ?_⟩
  refine row1_i fun w2 g2 z2 c2 => ?_
  have r2 := run1 (w := w) c2
  generalize Value.slice (some ⟨w1.heap.size, 0, none⟩) 1 1 = v2 at r2 ⊢
  obtain ⟨p2, q2, rfl, _⟩ := r2.shape
  refine ⟨#[.int .u8 2, .int .i64 0, .slice p2 1 q2, .slice none 0 0, .slice none 0 0], by kernel_rfl, ?_⟩
  refine ⟨#[.int .u8 1, .int .i64 4, .slice none 0 0, .slice none 0 0, .slice none 0 0], by kernel_rfl, ?_⟩
  let rows : List (List Value) := [row5 ⟨3, 2, [], [], []⟩ (.slice none 0 0) (.slice none 0 0) (.slice none 0 0), row5 ⟨2, 0, [97], [], []⟩ (.slice p1 1 q1) (.slice none 0 0) (.slice none 0 0), row5 ⟨2, 0, [98], [], []⟩ (.slice p2 1 q2) (.slice none 0 0) (.slice none 0 0), row5 ⟨1, 4, [], [], []⟩ (.slice none 0 0) (.slice none 0 0) (.slice none 0 0)]
  refine rowK_i (cs := rows.flatten) (by kernel_rfl) ?_
  have g3 : Grow w2 (w2.alloc (.cells rows.flatten.toArray TOp)) := Mod.alloc _ _ _
  have hL : RDops (fun b => b = w2.heap.size) (fun _ => True) (w2.alloc (.cells rows.flatten.toArray TOp)) (.slice (some ⟨w2.heap.size, 0, none⟩) 4 4) [⟨3, 2, [], [], []⟩, ⟨2, 0, [97], [], []⟩, ⟨2, 0, [98], [], []⟩, ⟨1, 4, [], [], []⟩] := by
    refine SlR.made (l := [(⟨3, 2, [], [], []⟩ : Dop), ⟨2, 0, [97], [], []⟩, ⟨2, 0, [98], [], []⟩, ⟨1, 4, [], [], []⟩]) (t := TOp) rows (by simp [rows]) rfl (by simp [maxLen]) fun i r x hr hx => ?_
    match i with
    | 0 => cases hr; cases hx; exact ⟨_, _, _, rfl, SlR.nil, SlR.nil, SlR.nil⟩
    | 1 => cases hr; cases hx; exact ⟨_, _, _, rfl, (r1.grow g2 (by decide) fun _ _ h => h).grow g3 (by decide) fun _ _ h => h, SlR.nil, SlR.nil⟩
    | 2 => cases hr; cases hx; exact ⟨_, _, _, rfl, r2.grow g3 (by decide) fun _ _ h => h, SlR.nil, SlR.nil⟩
    | 3 => cases hr; cases hx; exact ⟨_, _, _, rfl, SlR.nil, SlR.nil, SlR.nil⟩
    | i + 4 => simp [rows] at hr
  generalize w2.alloc (.cells rows.flatten.toArray TOp) = w3 at hL g3 ⊢
  have g03 := (g1.trans g2).trans g3
  refine callK_mono (of_dops hL (by decide)) ?_
  rintro v4 w4 ⟨o4, g4⟩
  have e4 : normB [⟨3, 2, [], [], []⟩, ⟨2, 0, [97], [], []⟩, ⟨2, 0, [98], [], []⟩, ⟨1, 4, [], [], []⟩] = [⟨2, 0, [97, 98], [], []⟩, ⟨3, 2, [], [], []⟩] := by decide
  rw [e4] at o4
  refine row2_i fun w5 g5 z5 c5 => ?_
  have r5 : RRun (fun _ => True) w5 (.slice (some ⟨w4.heap.size, 0, none⟩) 2 2) [97, 98] := by
    refine ⟨_, _, rfl, Nat.le_refl _, by simp [maxLen], fun i x hx => ⟨_, [.int .i32 x], rfl, trivial, rfl, fun j u hu => ?_, rfl⟩⟩
    have hj : j = 0 := by have := (List.getElem?_eq_some_iff.1 hu).1; simp at this; exact this
    subst hj
    simp at hu; subst hu
    match i with
    | 0 => cases hx; exact c5 0 _ rfl
    | 1 => cases hx; exact c5 1 _ rfl
    | i + 2 => simp at hx
  generalize Value.slice (some ⟨w4.heap.size, 0, none⟩) 2 2 = v5 at r5 ⊢
  obtain ⟨p5, q5, rfl, _⟩ := r5.shape
  refine ⟨#[.int .u8 2, .int .i64 0, .slice p5 2 q5, .slice none 0 0, .slice none 0 0], by kernel_rfl, ?_⟩
  refine ⟨#[.int .u8 3, .int .i64 2, .slice none 0 0, .slice none 0 0, .slice none 0 0], by kernel_rfl, ?_⟩
  let rows2 : List (List Value) := [row5 ⟨2, 0, [97, 98], [], []⟩ (.slice p5 2 q5) (.slice none 0 0) (.slice none 0 0), row5 ⟨3, 2, [], [], []⟩ (.slice none 0 0) (.slice none 0 0) (.slice none 0 0)]
  refine rowK_i (cs := rows2.flatten) (by kernel_rfl) ?_
  have g6 : Grow w5 (w5.alloc (.cells rows2.flatten.toArray TOp)) := Mod.alloc _ _ _
  have hM : RDops (fun b => b = w5.heap.size) (fun _ => True) (w5.alloc (.cells rows2.flatten.toArray TOp)) (.slice (some ⟨w5.heap.size, 0, none⟩) 2 2) [⟨2, 0, [97, 98], [], []⟩, ⟨3, 2, [], [], []⟩] := by
    refine SlR.made (l := [(⟨2, 0, [97, 98], [], []⟩ : Dop), ⟨3, 2, [], [], []⟩]) (t := TOp) rows2 (by simp [rows2]) rfl (by simp [maxLen]) fun i r x hr hx => ?_
    match i with
    | 0 => cases hr; cases hx; exact ⟨_, _, _, rfl, r5.grow g6 (by decide) fun _ _ h => h, SlR.nil, SlR.nil⟩
    | 1 => cases hr; cases hx; exact ⟨_, _, _, rfl, SlR.nil, SlR.nil, SlR.nil⟩
    | i + 2 => simp [rows2] at hr
  generalize w5.alloc (.cells rows2.flatten.toArray TOp) = w6 at hM g6 ⊢
  have g46 := g5.trans g6
  have s4 := RDops.grow (ODops.reads o4) g46
  refine callK_mono (same_dops s4 hM) ?_
  rintro v7 w7 ⟨rfl, g7⟩
  rw [decide_eq_true rfl, condK_b, if_pos rfl]
  refine callK_mono (is_dops (RDops.grow s4 g7) (by decide)) ?_
  rintro v8 w8 ⟨rfl, g8⟩
  have e8 : normB [⟨2, 0, [97, 98], [], []⟩, ⟨3, 2, [], [], []⟩] = [⟨2, 0, [97, 98], [], []⟩, ⟨3, 2, [], [], []⟩] := by decide
  exact ⟨by rw [e8, decide_eq_true rfl], (((g03.trans g4).trans g46).trans g7).trans g8⟩
theorem TameX.len {keys : List DKey} {x : List Dop} (h : TameX keys x) : x.length ≤ 8589934592 := by
  have := h.2.1
  have := mDops_len x
  omega
open Classical in
theorem NormalTwice_ok {S S' D : Nat → Prop} {kv v : Value} {keys : List DKey} {x : List Dop} {w : World} (hk : RKeys S w kv keys) (h : RDops S' D w v x) (hb : mDops x ≤ 1048576) :
    callK Try.prog 10 [kv, v] (fun v w' => v = .bool true ∧ Grow w w') w := by
  apply S10_ok
  unfold S10
  have kn : ∀ {w1}, Grow w w1 → callK Try.prog 35 [] (fun v w' => v = .bool true ∧ Grow w w') w1 := fun hg => callK_mono known16_ok fun v w' ⟨e, h⟩ => ⟨e, hg.trans h⟩
  refine callK_mono (tamex_ok hk h (by omega)) ?_
  rintro v1 w1 ⟨rfl, g1⟩
  rw [notK_i]
  refine condK_neg (fun ht => ?_) fun ht => kn g1
  have hf := ht.form1
  have hl := ht.len
  refine callK_mono (of_dops (RDops.grow h g1) (by omega)) ?_
  rintro v2 w2 ⟨o2, g2⟩
  have g02 := g1.trans g2
  have hgap := norm_gaps x hf hl
  have hlast := norm_last x hf hl
  have htw := norm_twice x hf hl
  have hmn : mDops (normB x) ≤ 8388608 := by
    have h1 := runS_m x
    have h2 := gapL_m (runS x).ins (runS x).gone
    have h3 := mDops_sub (l := (runS x).done ++ gapL (runS x).ins (runS x).gone)
    rw [mDops_app] at h3
    unfold normB opsS
    omega
  generalize normB x = y at o2 hgap hlast htw hmn
  have r2 := ODops.reads o2
  obtain ⟨a, c, rfl, hm⟩ := r2.shape
  have hyl := mDops_len y
  rw [lenK_i]
  refine LoopK_i (fun vs w3 => ∃ k : Nat, k ≤ y.length ∧ vs = [.int .i64 k] ∧ w3 = w2) (fun vs _ => y.length - iOf vs 0) ⟨0, Nat.zero_le _, rfl, rfl⟩ ?_
  rintro vs _ ⟨k, hk, rfl, rfl⟩ _
  rename World => w2
  rw [nth_z, List.headD_cons, ltK_i]
  refine condK_p (fun hlt => ?_) fun hge => ?_
  · have hlt' : k < y.length := by omega
    refine JoinK_i (fun vs w3 => w3 = w2) ?_ ?_
    · rintro vs _ rfl _
      rw [addK_i, loop_step (by omega)]
      exact ⟨⟨k + 1, hlt', rfl, rfl⟩, by rw [iOf0, iOf0]; omega⟩
    · rw [gtK_i]
      refine condK_p (fun hpos => ?_) fun _ => rfl
      have hk1 : k - 1 < y.length := by omega
      obtain ⟨p, r, rfl, _, hr, hc, rv, sv, pv, rfl, _⟩ := r2.get hk1
      obtain ⟨_, r', e, _, hr', hc', rv', sv', pv', rfl, _⟩ := r2.get hlt'
      cases e
      have hg := hgap (k - 1) y[k - 1] y[k] (List.getElem?_eq_getElem hk1) (by rw [show k - 1 + 1 = k by omega]; exact List.getElem?_eq_getElem hlt')
      rw [subK_i, wrap64 (by omega) (by omega), show ((k : Int) - 1) = ((k - 1 : Nat) : Int) by omega]
      have second : subK .i64 (.int .i64 k) (.int .i64 1) (fun t41 => ixK 5 (.slice (some p) y.length c) t41 fun t42 => faK 0 t42 fun t43 => ld1K t43 (fun t44 w8 => eqK .u8 t44 (.int .u8 3) fun t45 => condK t45 (ixK 5 (.slice (some p) y.length c) (.int .i64 k) fun t49 => faK 0 t49 fun t50 => ld1K t50 (fun t51 w9 => eqK .u8 t51 (.int .u8 3) fun t52 => condK t52 (Value.bool false = .bool true ∧ Grow w w9) (w9 = w2)) w8) (w8 = w2)) w2) := by
        rw [subK_i, wrap64 (by omega) (by omega), show ((k : Int) - 1) = ((k - 1 : Nat) : Int) by omega]
        refine ixK_n hk1 ?_
        rw [faK_i, Addr.add_add]
        refine ld1K_i (hc 0 _ rfl) ?_
        rw [eqK_i]
        refine condK_p (fun h3 => ?_) fun _ => rfl
        refine ixK_n hlt' ?_
        rw [faK_i, Addr.add_add]
        refine ld1K_i (hc' 0 _ rfl) ?_
        rw [eqK_i]
        exact condK_p (fun h4 => by have := hg h3; omega) fun _ => rfl
      refine ixK_n hk1 ?_
      rw [faK_i, Addr.add_add]
      refine ld1K_i (hc 0 _ rfl) ?_
      rw [eqK_i]
      refine condK_p (fun h3 => ?_) fun _ => second
      refine ixK_n hlt' ?_
      rw [faK_i, Addr.add_add]
      refine ld1K_i (hc' 0 _ rfl) ?_
      rw [neK_i]
      exact condK_neg (fun _ => second) fun h4 => (h4 (hg h3)).elim
  · refine JoinK_i (fun vs w3 => w3 = w2) ?_ ?_
    · rintro vs _ rfl _
      rename World => w2
      refine callK_mono (of_dops r2 (by omega)) ?_
      rintro v3 w3 ⟨o3, g3⟩
      refine callK_mono (same_dops (ODops.reads o3) (RDops.grow r2 g3)) ?_
      rintro v4 w4 ⟨rfl, g4⟩
      rw [decide_eq_true htw, condK_b, if_pos rfl]
      exact kn ((g02.trans g3).trans g4)
    · rw [lenK_i, subK_i, wrap64 (by omega) (by omega), geK_i]
      refine condK_p (fun hge => ?_) fun _ => rfl
      have hip : 0 < y.length := by omega
      have hlt : y.length - 1 < y.length := by omega
      rw [show ((y.length : Int) - 1) = ((y.length - 1 : Nat) : Int) by omega]
      obtain ⟨p, r, rfl, _, hr, hc, rv, sv, pv, rfl, q1, q2, q3⟩ := r2.get hlt
      refine ixK_n hlt ?_
      rw [faK_i, Addr.add_add]
      refine ld1K_i (hc 0 _ rfl) ?_
      rw [eqK_i]
      refine condK_p (fun h1 => ?_) fun _ => rfl
      refine ixK_n hlt ?_
      rw [faK_i, Addr.add_add]
      refine ld1K_i (hc 4 _ rfl) ?_
      obtain ⟨pa, pc, rfl, _⟩ := q3.shape
      rw [lenK_i, eqK_i]
      exact condK_p (fun h2 => (hlast _ (getLast_get hip) ⟨h1, len0.1 h2⟩).elim) fun _ => rfl
end Go.Proofs.Ytmfplfaeibehiaa

namespace Go.Proofs.Ytmfplfaeibehiaa
open Go Go.K

/-- the loop that counts up all runes and keys of a delta of one's own -/
theorem inc_all {B E gB c : Nat} {a : Option Addr} {W : World} {l : List Dop} {rs ss ps : Nat → Value} {Rest : World → Prop} (h : 0 < l.length → a = some ⟨gB, 0, none⟩ ∧ WOps B E gB W l rs ss ps) (hl : mDops l ≤ 1099511627776) (hR : ∀ W', Mod (fun b => B ≤ b ∧ b < E) W W' → Rest W') :
    LoopK [(.int .i64 0)] (fun vs_1 again w11 => ∀ _h_1 : Env,
      ltK .i64 (nth vs_1 0) (.int .i64 l.length) fun t48 => condK t48
      (ixK 5 (.slice a l.length c) (nth vs_1 0) fun t52 => faK 2 t52 fun t53 => ld1K t53 (fun t54 w12 => lenK t54 fun t55 =>
      LoopK [(.int .i64 0)] (fun vs_2 again_1 w13 => ∀ _h_2 : Env, ltK .i64 (nth vs_2 0) t55 fun t57 => condK t57
      (ixK 5 (.slice a l.length c) (nth vs_1 0) fun t61 => faK 2 t61 fun t62 => ld1K t62 (fun t63 w14 => ixK 1 t63 (nth vs_2 0) fun t65 => ld1K t65 (fun t66 w15 => addK .i32 t66 (.int .i32 1) fun t67 => ixK 1 t63 (nth vs_2 0) fun t68 => st1K t68 t67 (fun w16 => addK .i64 (nth vs_2 0) (.int .i64 1) fun t69 => again_1 [t69] w16) w15) w14) w13)
      (ixK 5 (.slice a l.length c) (nth vs_1 0) fun t72 => faK 3 t72 fun t73 => ld1K t73 (fun t74 w17 => lenK t74 fun t75 =>
      LoopK [(.int .i64 0)] (fun vs_3 again_2 w18 => ∀ _h_3 : Env, ltK .i64 (nth vs_3 0) t75 fun t77 => condK t77
      (ixK 5 (.slice a l.length c) (nth vs_1 0) fun t81 => faK 3 t81 fun t82 => ld1K t82 (fun t83 w19 => ixK 5 t83 (nth vs_3 0) fun t85 => faK 0 t85 fun t86 => ld1K t86 (fun t87 w20 => addK .i64 t87 (.int .i64 1) fun t88 => ixK 5 t83 (nth vs_3 0) fun t89 => faK 0 t89 fun t90 => st1K t90 t88 (fun w21 => addK .i64 (nth vs_3 0) (.int .i64 1) fun t91 => again_2 [t91] w21) w20) w19) w18)
      (ixK 5 (.slice a l.length c) (nth vs_1 0) fun t94 => faK 4 t94 fun t95 => ld1K t95 (fun t96 w22 => lenK t96 fun t97 =>
      LoopK [(.int .i64 0)] (fun vs_4 again_3 w23 => ∀ _h_4 : Env, ltK .i64 (nth vs_4 0) t97 fun t99 => condK t99
      (ixK 5 (.slice a l.length c) (nth vs_1 0) fun t103 => faK 4 t103 fun t104 => ld1K t104 (fun t105 w24 => ixK 6 t105 (nth vs_4 0) fun t107 => faK 0 t107 fun t108 => ld1K t108 (fun t109 w25 => addK .i64 t109 (.int .i64 1) fun t110 => ixK 6 t105 (nth vs_4 0) fun t111 => faK 0 t111 fun t112 => st1K t112 t110 (fun w26 => addK .i64 (nth vs_4 0) (.int .i64 1) fun t113 => again_3 [t113] w26) w25) w24) w23)
      (addK .i64 (nth vs_1 0) (.int .i64 1) fun t114 => again [t114] w23)) w22) w18)) w17) w13)) w12) w11)
      (Rest w11)) W := by
  have hll := mDops_len l
  refine LoopK_i (fun vs w1 => ∃ i : Nat, i ≤ l.length ∧ vs = [.int .i64 i] ∧ (0 < l.length → a = some ⟨gB, 0, none⟩ ∧ WOps B E gB w1 l rs ss ps) ∧ Mod (fun b => B ≤ b ∧ b < E) W w1) (fun vs _ => l.length - iOf vs 0) ⟨0, Nat.zero_le _, rfl, h, Mod.refl _ _⟩ ?_
  rintro vs w1 ⟨i, hi, rfl, hw, hm⟩ _
  rw [nth_z, List.headD_cons, ltK_i]
  refine condK_p (fun hlt => ?_) fun _ => hR w1 hm
  have hlt' : i < l.length := by omega
  obtain ⟨ea, hwo⟩ := hw (by omega)
  subst ea
  clear hw h
  have ho : mDop l[i] ≤ mDops l := mDops_mem (by simp)
  simp only [mDop, mSet_eq, mPat_eq] at ho
  have hJ : WJ B E gB W l rs ss ps w1 := ⟨hwo, hm⟩
  refine ixK_n hlt' ?_
  rw [faK_i, Addr.add_add, addr0]
  refine ld1K_i (hwo.cr i hlt') ?_
  obtain ⟨a1, c1, e1, _⟩ := (hwo.op i hlt').r
  rw [e1, lenK_i]
  refine inc_loop0 (J := WJ B E gB W l rs ss ps) hJ hlt' (by omega) ⟨_, _, e1⟩ (fun W' h => h.1.cr i hlt') (fun W' h k hk => h.lr hlt' hk) fun w2 hJ2 => ?_
  refine ixK_n hlt' ?_
  rw [faK_i, Addr.add_add, addr0]
  refine ld1K_i (hJ2.1.cs i hlt') ?_
  obtain ⟨a2, c2, e2, _⟩ := (hwo.op i hlt').s
  rw [e2, lenK_i]
  refine inc_loop1 (J := WJ B E gB W l rs ss ps) hJ2 hlt' (by omega) ⟨_, _, e2⟩ (fun W' h => h.1.cs i hlt') (fun W' h k hk => h.ls hlt' hk) fun w3 hJ3 => ?_
  refine ixK_n hlt' ?_
  rw [faK_i, Addr.add_add, addr0]
  refine ld1K_i (hJ3.1.cp i hlt') ?_
  obtain ⟨a3, c3, e3, _⟩ := (hwo.op i hlt').p
  rw [e3, lenK_i]
  refine inc_loop1 (J := WJ B E gB W l rs ss ps) hJ3 hlt' (by omega) ⟨_, _, e3⟩ (fun W' h => h.1.cp i hlt') (fun W' h k hk => h.lp hlt' hk) fun w4 hJ4 => ?_
  rw [addK_i, loop_step (by omega)]
  exact ⟨⟨i + 1, hlt', rfl, fun _ => ⟨rfl, hJ4.1⟩, hJ4.2⟩, by rw [iOf0, iOf0]; omega⟩
theorem normB_mm (x : List Dop) : mDops (normB x) ≤ 2 * mDops x + 1 := by
  have h1 := runS_m x
  have h2 := gapL_m (runS x).ins (runS x).gone
  have h3 := mDops_sub (l := (runS x).done ++ gapL (runS x).ins (runS x).gone)
  rw [mDops_app] at h3
  unfold normB opsS
  omega
open Classical in
theorem NormalForms_ok {S S' D : Nat → Prop} {kv v : Value} {keys : List DKey} {x : List Dop} {w : World} (hk : RKeys S w kv keys) (h : RDops S' D w v x) (hb : mDops x ≤ 1048576) :
    callK Try.prog 8 [kv, v] (fun v w' => v = .bool true ∧ Grow w w') w := by
  apply S8_ok
  unfold S8
  have kn : ∀ {w1}, Grow w w1 → callK Try.prog 35 [] (fun v w' => v = .bool true ∧ Grow w w') w1 := fun hg => callK_mono known16_ok fun v w' ⟨e, h⟩ => ⟨e, hg.trans h⟩
  refine callK_mono (tamex_ok hk h (by omega)) ?_
  rintro v1 w1 ⟨rfl, g1⟩
  rw [notK_i]
  refine condK_neg (fun ht => ?_) fun ht => ?_
  rotate_left
  · refine callK_mono (size_ok (RDops.grow h g1) (by omega)) ?_
    rintro v2 w2 ⟨rfl, g2⟩
    have g02 := g1.trans g2
    rw [leK_i]
    refine condK_p (fun _ => ?_) fun _ => kn g02
    refine callK_mono (rcopy_dops (RDops.grow h g02) (by omega)) ?_
    rintro v3 w3 ⟨o3, g3⟩
    refine callK_mono (of_dops (ODops.reads o3) (by omega)) ?_
    rintro v4 w4 ⟨_, g4⟩
    have g04 := (g02.trans g3).trans g4
    refine callK_mono (is_dops (RDops.grow h g04) (by omega)) ?_
    rintro v5 w5 ⟨_, g5⟩
    exact kn (g04.trans g5)
  have hf := ht.form1
  have hl := ht.len
  have hmn := normB_mm x
  have heq := norm_eq x hf
  refine callK_mono (rcopy_dops (RDops.grow h g1) (by omega)) ?_
  rintro v2 w2 ⟨o2, g2⟩
  have g02 := g1.trans g2
  have r2 := ODops.reads o2
  refine callK_mono (of_dops r2 (by omega)) ?_
  rintro v3 w3 ⟨o3, g3⟩
  have g03 := g02.trans g3
  have r3 := ODops.reads o3
  obtain ⟨a, c, rfl, hwr⟩ := o3.wr
  refine JoinK_i (fun vs w4 => Grow w3 w4) ?_ ?_
  · rintro vs w4 g4 _
    rw [lenK_i]
    have hJ : ∃ gB rs ss ps, 0 < (normB x).length → a = some ⟨gB, 0, none⟩ ∧ WOps w2.heap.size w3.heap.size gB w4 (normB x) rs ss ps := by
      by_cases h0 : 0 < (normB x).length
      · obtain ⟨gB, rs, ss, ps, e, hw⟩ := hwr h0
        exact ⟨gB, rs, ss, ps, fun _ => ⟨e, hw.mod g4 fun _ _ _ h => h⟩⟩
      · exact ⟨0, fun _ => .bool true, fun _ => .bool true, fun _ => .bool true, fun h => (h0 h).elim⟩
    obtain ⟨gB, rs, ss, ps, hw⟩ := hJ
    refine inc_all hw (by omega) fun w5 m5 => ?_
    have z1 := g1.size
    have z2 := g2.size
    have z3 := g3.size
    have g35 : Mod (fun b => w2.heap.size ≤ b) w2 w5 := (Grow.mod (g3.trans g4)).trans (m5.mono fun b _ h => h.1)
    have g05 : Grow w w5 := g02.next g35 fun b hb h => by omega
    refine callK_mono (rsame_dops (RDops.mod r2 g35 (fun b _ h1 h2 => by omega) fun b _ h1 h2 => by omega) (RDops.grow h g05)) ?_
    rintro v6 w6 ⟨rfl, g6⟩
    rw [decide_eq_true rfl, condK_b, if_pos rfl]
    exact kn (g05.trans g6)
  · refine callK_mono (rof_ok (RDops.grow h g03) (by omega)) ?_
    rintro v4 w4 ⟨o4, g4⟩
    refine callK_mono (rsame_dops (RDops.grow r3 g4) (ODops.reads o4)) ?_
    rintro v5 w5 ⟨rfl, g5⟩
    rw [decide_eq_true heq, notK_i, Bool.not_true, condK_b, if_neg (by decide)]
    have g35 := g4.trans g5
    refine callK_mono (is_dops (RDops.grow (RDops.grow r2 g3) g35) (by omega)) ?_
    rintro v6 w6 ⟨rfl, g6⟩
    have g36 := g35.trans g6
    refine callK_mono (ris_ok (RDops.grow h (g03.trans g36)) (by omega)) ?_
    rintro v7 w7 ⟨rfl, g7⟩
    rw [bneK_i, show (decide (normB x = x) == decide (rof x = x)) = true by rw [heq]; exact beq_self_eq_true _, Bool.not_true, condK_b, if_neg (by decide)]
    have g37 := g36.trans g7
    refine callK_mono (is_dops (x := normB x) (RDops.grow r3 g37) (by omega)) ?_
    rintro v8 w8 ⟨rfl, g8⟩
    rw [decide_eq_true (norm_twice x hf hl), notK_i, Bool.not_true, condK_b, if_neg (by decide)]
    exact g37.trans g8
end Go.Proofs.Ytmfplfaeibehiaa

namespace Go.Proofs.Ytmfplfaeibehiaa
open Go Go.K

theorem MkI.lt {F : Nat → Prop} {W : World} {b : Nat} {s : MkS} (h : MkI F W b s) : MkI (fun x => F x ∧ x < W.heap.size) W b s := by
  obtain ⟨dv, iv, C, hot, h⟩ := h
  have hb : b < W.heap.size := World.block_lt_of_cell? W _ h.c0
  refine ⟨dv, iv, C, hot, h.c0, h.c1, h.c2, h.lv, ⟨h.fb, hb⟩, h.nb, fun x hx => ⟨⟨(h.cf x hx).1, (h.cf x hx).2⟩, (h.cf x hx).2⟩, h.done, fun g hg => ⟨⟨(h.dF g hg).1, (OwnR.ownB h.done g hg).2⟩, (h.dF g hg).2⟩, ?_⟩
  rcases h.ins with h0 | ⟨g, c, hh, e1, e2, e3, e4, e5, e6, e7, e8, e9, e10, e11, e12, e13, e14⟩
  · exact .inl h0
  · exact .inr ⟨g, c, hh, e1, e2, e3, ⟨e4, (OwnR.ownB e3 g (by rw [e1]; rfl)).2⟩, e5, e6, e7, ⟨e8, e13⟩, e9, e10, e11, e12, e13, e14⟩
/-- two makers, of blocks of G, none of one in the other's -/
def Two (G : Nat → Prop) (W : World) (b z : Nat) (s t : MkS) : Prop := ∃ Fm Fz, MkI Fm W b s ∧ MkI Fz W z t ∧ (∀ x, Fm x → ¬ Fz x) ∧ (∀ x, Fm x → G x ∧ x < W.heap.size) ∧ ∀ x, Fz x → G x ∧ x < W.heap.size
theorem Two.symm {G : Nat → Prop} {W : World} {b z : Nat} {s t : MkS} (h : Two G W b z s t) : Two G W z b t s := by
  obtain ⟨Fm, Fz, h1, h2, h3, h4, h5⟩ := h
  exact ⟨Fz, Fm, h2, h1, fun x hz hm => h3 x hm hz, h5, h4⟩
theorem Two.mod {G M : Nat → Prop} {W W' : World} {b z : Nat} {s t : MkS} (h : Two G W b z s t) (hm : Mod M W W') (hG : ∀ x, x < W.heap.size → G x → ¬ M x) : Two G W' b z s t := by
  obtain ⟨Fm, Fz, h1, h2, h3, h4, h5⟩ := h
  have := hm.size
  exact ⟨Fm, Fz, h1.mod hm fun x hx => hG x (h4 x hx).2 (h4 x hx).1, h2.mod hm fun x hx => hG x (h5 x hx).2 (h5 x hx).1, h3, fun x hx => ⟨(h4 x hx).1, by have := (h4 x hx).2; omega⟩, fun x hx => ⟨(h5 x hx).1, by have := (h5 x hx).2; omega⟩⟩
theorem Two.sub {G G' : Nat → Prop} {W : World} {b z : Nat} {s t : MkS} (h : Two G W b z s t) (hG : ∀ x, x < W.heap.size → G x → G' x) : Two G' W b z s t := by
  obtain ⟨Fm, Fz, h1, h2, h3, h4, h5⟩ := h
  exact ⟨Fm, Fz, h1, h2, h3, fun x hx => ⟨hG x (h4 x hx).2 (h4 x hx).1, (h4 x hx).2⟩, fun x hx => ⟨hG x (h5 x hx).2 (h5 x hx).1, (h5 x hx).2⟩⟩
/-- a call on the one maker leaves the other one -/
theorem Two.call {G : Nat → Prop} {W : World} {b z : Nat} {s s' t : MkS} {f : Nat} {args : List Value} (h : Two G W b z s t) (hG : ∀ x, W.heap.size ≤ x → G x)
    (hc : ∀ F, MkI F W b s → (∀ x, F x → G x ∧ x < W.heap.size) → callK Try.prog f args (fun _ w' => MkI (fun x => F x ∨ W.heap.size ≤ x) w' b s' ∧ Mod F W w') W) :
    callK Try.prog f args (fun _ w' => Two G w' b z s' t ∧ Mod (fun x => G x ∧ x < W.heap.size) W w') W := by
  obtain ⟨Fm, Fz, h1, h2, h3, h4, h5⟩ := h
  refine callK_mono (hc Fm h1 h4) ?_
  rintro _ w' ⟨k1, m1⟩
  have := m1.size
  refine ⟨⟨_, Fz, k1.lt, h2.mod m1 fun x hz hm => h3 x hm hz, fun x hx hz => ?_, fun x hx => ⟨?_, hx.2⟩, fun x hx => ⟨(h5 x hx).1, by have := (h5 x hx).2; omega⟩⟩, m1.mono fun x _ hx => h4 x hx⟩
  · rcases hx.1 with e | e
    · exact h3 x e hz
    · have := (h5 x hz).2; omega
  · rcases hx.1 with e | e
    · exact (h4 x e).1
    · exact hG x e
theorem retain_nil {n : Int} {pv : Value} {w : World} : callK Try.prog 40 [.pointer none, .int .i64 n, pv] (fun _ w' => w' = w) w := by
  apply S40_ok
  unfold S40
  refine JoinK_i (fun _ _ => False) (fun _ _ h => h.elim) ?_
  rw [pnilK_i]
  rw [condK_b, if_pos (show (none : Option Addr).isNone = true from rfl)]
theorem insert_nil {rv sv : Value} {w : World} : callK Try.prog 41 [.pointer none, rv, sv] (fun _ w' => w' = w) w := by
  apply S41_ok
  unfold S41
  refine JoinK_i (fun _ _ => False) (fun _ _ h => h.elim) ?_
  rw [pnilK_i]
  rw [condK_b, if_pos (show (none : Option Addr).isNone = true from rfl)]
theorem delete_nil {n : Int} {w : World} : callK Try.prog 42 [.pointer none, .int .i64 n] (fun _ w' => w' = w) w := by
  apply S42_ok
  unfold S42
  rw [pnilK_i]
  rw [condK_b, if_neg (show ¬ (!(none : Option Addr).isNone) = true by decide)]
theorem ops_nil {w : World} : callK Try.prog 43 [.pointer none] (fun v w' => v = .slice none 0 0 ∧ w' = w) w := by
  apply S43_ok
  unfold S43
  rw [pnilK_i]
  rw [condK_b, if_pos (show (none : Option Addr).isNone = true from rfl)]; exact ⟨rfl, rfl⟩
theorem gone_wr (x : List Dop) : IntKind.i64.wrap (runS x).gone = (runS x).gone := by
  induction x using rev_ind with
  | h0 => rfl
  | h1 x o ih =>
    have e : runS (x ++ [o]) = stepS (runS x) o := by simp [runS]
    rw [e]
    unfold stepS retS insS delS
    split
    · split
      · exact ih
      · rfl
    · split
      · split
        · exact ih
        · exact ih
      · exact wrap64 (wrap_range _).1 (wrap_range _).2
/-- the loop that sets one number of each element of a list that stands in a box -/
theorem put_loop0 {sz off n b9 : Nat} {v u : Value} {W : World} {Rest : World → Prop} (J : World → Prop) (hJ : J W) (hn : (n : Int) ≤ 9223372036854775806) (h1 : u.oneCell' = true) (h2 : u.cells = #[u]) (hc : ∀ W, J W → W.cell? ⟨b9, off, none⟩ = some v)
    (hv : ∀ W, J W → ∀ k, k < n → ∃ g cc, v = .slice (some ⟨g, 0, none⟩) n cc ∧ Live W ⟨g, k * sz, none⟩ ∧ J (W.setCell ⟨g, k * sz, none⟩ u)) (hR : ∀ W, J W → Rest W) :
    LoopK [.int .i64 0] (fun vs again w51 => ∀ _ : Env, ltK .i64 (nth vs 0) (.int .i64 n) fun t78 => condK t78 (faK off (.pointer (some ⟨b9, 0, none⟩)) fun t80 => ld1K t80 (fun t81 w52 => ixK sz t81 (nth vs 0) fun t83 => st1K t83 u (fun w53 => addK .i64 (nth vs 0) (.int .i64 1) fun t85 => again [t85] w53) w52) w51) (Rest w51)) W := by
  refine LoopK_i (fun vs w1 => ∃ k : Nat, k ≤ n ∧ vs = [.int .i64 k] ∧ J w1) (fun vs _ => n - iOf vs 0) ⟨0, Nat.zero_le _, rfl, hJ⟩ ?_
  rintro vs w1 ⟨k, hk, rfl, hj⟩ _
  rw [nth_z, List.headD_cons, ltK_i]
  refine condK_p (fun hlt => ?_) fun _ => hR w1 hj
  have hlt' : k < n := by omega
  rw [faK_i, addr0]
  refine ld1K_i (hc w1 hj) ?_
  obtain ⟨g, cc, rfl, l1, l2⟩ := hv w1 hj k hlt'
  refine ixK_n hlt' ?_
  rw [addr0]
  refine l1.st h1 h2 ?_
  rw [addK_i, loop_step (by omega)]
  exact ⟨⟨k + 1, hlt', rfl, l2⟩, by rw [iOf0, iOf0]; omega⟩
theorem put_loop1 {sz off n b9 : Nat} {v u : Value} {W : World} {Rest : World → Prop} (J : World → Prop) (hJ : J W) (hn : (n : Int) ≤ 9223372036854775806) (h1 : u.oneCell' = true) (h2 : u.cells = #[u]) (hc : ∀ W, J W → W.cell? ⟨b9, off, none⟩ = some v)
    (hv : ∀ W, J W → ∀ k, k < n → ∃ g cc, v = .slice (some ⟨g, 0, none⟩) n cc ∧ Live W ⟨g, k * sz, none⟩ ∧ J (W.setCell ⟨g, k * sz, none⟩ u)) (hR : ∀ W, J W → Rest W) :
    LoopK [.int .i64 0] (fun vs again w51 => ∀ _ : Env, ltK .i64 (nth vs 0) (.int .i64 n) fun t78 => condK t78 (faK off (.pointer (some ⟨b9, 0, none⟩)) fun t80 => ld1K t80 (fun t81 w52 => ixK sz t81 (nth vs 0) fun t83 => faK 0 t83 fun t84 => st1K t84 u (fun w53 => addK .i64 (nth vs 0) (.int .i64 1) fun t85 => again [t85] w53) w52) w51) (Rest w51)) W := by
  refine LoopK_i (fun vs w1 => ∃ k : Nat, k ≤ n ∧ vs = [.int .i64 k] ∧ J w1) (fun vs _ => n - iOf vs 0) ⟨0, Nat.zero_le _, rfl, hJ⟩ ?_
  rintro vs w1 ⟨k, hk, rfl, hj⟩ _
  rw [nth_z, List.headD_cons, ltK_i]
  refine condK_p (fun hlt => ?_) fun _ => hR w1 hj
  have hlt' : k < n := by omega
  rw [faK_i, addr0]
  refine ld1K_i (hc w1 hj) ?_
  obtain ⟨g, cc, rfl, l1, l2⟩ := hv w1 hj k hlt'
  refine ixK_n hlt' ?_
  rw [faK_i, Addr.add_add, Nat.add_zero, addr0]
  refine l1.st h1 h2 ?_
  rw [addK_i, loop_step (by omega)]
  exact ⟨⟨k + 1, hlt', rfl, l2⟩, by rw [iOf0, iOf0]; omega⟩
end Go.Proofs.Ytmfplfaeibehiaa
