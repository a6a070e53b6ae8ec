/- The maker of normal forms in memory; contracts: New, gap, Delete. Conditions: the sizes. -/
import Derived.Test.YtmfplfaeibehiaaOK
namespace Go.Proofs.Ytmfplfaeibehiaa
open Go Go.K

abbrev TOp : Nat := 59
abbrev row5 (o : Dop) (rv sv pv : Value) : List Value := [.int .u8 o.kind, .int .i64 o.n, rv, sv, pv]
/-- the rows of the gap's inserts: the last one's runes lie in h, all else in C -/
def InsRows (C : Nat → Prop) (h : Nat) (W : World) (g : Nat) (ins : List Dop) : Prop := 0 < ins.length ∧ ∀ j (hj : j < ins.length), ∃ rv sv pv, OpAt W g j ins[j] rv sv pv ∧ RDop (fun x => C x ∨ x = h) W (row5 ins[j] rv sv pv) ins[j] ∧
  (j + 1 = ins.length → OwnR 0 21 1 RRune W rv ins[j].runes ∧ rv.ownBlock = some h ∧ RSet C W sv ins[j].set ∧ RPat C W pv ins[j].patch) ∧ (j + 1 < ins.length → RDop C W (row5 ins[j] rv sv pv) ins[j])
/-- a maker in memory: at block b, its ops, its gap's inserts; F: all blocks of its own; C: those that are only read -/
structure MkR (F : Nat → Prop) (W : World) (b : Nat) (s : MkS) (dv iv : Value) (C : Nat → Prop) (hot : Option Nat) : Prop where
  c0 : W.cell? ⟨b, 0, none⟩ = some dv
  c1 : W.cell? ⟨b, 1, none⟩ = some iv
  c2 : W.cell? ⟨b, 2, none⟩ = some (.int .i64 s.gone)
  lv : ∀ q, q < 3 → Live W ⟨b, q, none⟩
  fb : F b
  nb : ¬ C b
  cf : ∀ x, C x → F x ∧ x < W.heap.size
  done : OwnR 0 TOp 5 (RDop C) W dv s.done
  dF : ∀ g, dv.ownBlock = some g → F g ∧ ¬ C g ∧ g ≠ b
  ins : (s.ins = [] ∧ iv = .slice none 0 0 ∧ hot = none) ∨ ∃ g c h, iv = .slice (some ⟨g, 0, none⟩) s.ins.length c ∧ hot = some h ∧ OwnR 0 TOp 5 (fun _ _ _ => True) W iv s.ins ∧ F g ∧ ¬ C g ∧ g ≠ b ∧ dv.ownBlock ≠ some g ∧
    F h ∧ ¬ C h ∧ h ≠ b ∧ h ≠ g ∧ dv.ownBlock ≠ some h ∧ h < W.heap.size ∧ InsRows C h W g s.ins
def MkI (F : Nat → Prop) (W : World) (b : Nat) (s : MkS) : Prop := ∃ dv iv C hot, MkR F W b s dv iv C hot
theorem OpAt.mod {W W' : World} {M : Nat → Prop} {g j : Nat} {o : Dop} {rv sv pv : Value} (h : OpAt W g j o rv sv pv) (hm : Mod M W W') (hg : ¬ M g) : OpAt W' g j o rv sv pv := fun q u hu => hm.cell (h q u hu) hg
theorem InsRows.mod {C M : Nat → Prop} {h : Nat} {W W' : World} {g : Nat} {ins : List Dop} (hi : InsRows C h W g ins) (hm : Mod M W W') (hg : ¬ M g) (hh : ¬ M h) (hC : ∀ x, C x → ¬ M x) : InsRows C h W' g ins := by
  refine ⟨hi.1, fun j hj => ?_⟩
  obtain ⟨rv, sv, pv, q1, q2, q3, q4⟩ := hi.2 j hj
  refine ⟨rv, sv, pv, q1.mod hm hg, q2.mod hm (fun b _ hb => by rcases hb with hb | rfl; exact hC b hb; exact hh) fun _ _ h => h, fun e => ?_, fun e => (q4 e).mod hm (fun b _ hb => hC b hb) fun _ _ h => h⟩
  obtain ⟨p1, p2, p3, p4⟩ := q3 e
  exact ⟨OwnR.mod p1 hm (fun g hg => by rw [p2] at hg; cases hg; exact hh) fun _ _ _ h => h, p2, p3.mono (fun _ _ h => h) (fun b hb hc => hm.same b hb (hC b hc)) (by decide) fun _ _ h => h, p4.mono (fun _ _ h => h) (fun b hb hc => hm.same b hb (hC b hc)) (by decide) fun _ _ h => h⟩
theorem RDop.cmod {C M : Nat → Prop} {W W' : World} {r : List Value} {o : Dop} (h : RDop C W r o) (hm : Mod M W W') (hC : ∀ x, C x → ¬ M x) : RDop C W' r o := h.mod hm (fun b _ hb => hC b hb) fun _ _ h => h
theorem MkR.mod {F M C : Nat → Prop} {W W' : World} {b : Nat} {s : MkS} {dv iv : Value} {hot : Option Nat} (h : MkR F W b s dv iv C hot) (hm : Mod M W W') (hF : ∀ x, F x → ¬ M x) : MkR F W' b s dv iv C hot := by
  have hb := hF b h.fb
  have hC : ∀ x, C x → ¬ M x := fun x hx => hF x (h.cf x hx).1
  refine ⟨hm.cell h.c0 hb, hm.cell h.c1 hb, hm.cell h.c2 hb, fun q hq => (h.lv q hq).mod hm hb, h.fb, h.nb, fun x hx => ⟨(h.cf x hx).1, Nat.lt_of_lt_of_le (h.cf x hx).2 hm.size⟩, OwnR.mod h.done hm (fun g hg => hF g (h.dF g hg).1) fun r x _ hx => hx.cmod hm hC, h.dF, ?_⟩
  rcases h.ins with h0 | ⟨g, c, hh, e1, e2, e3, e4, e5, e6, e7, e8, e9, e10, e11, e12, e13, e14⟩
  · exact .inl h0
  · exact .inr ⟨g, c, hh, e1, e2, OwnR.mod e3 hm (fun g' hg' => by rw [e1] at hg'; simp only [Value.ownBlock, Option.some.injEq] at hg'; subst hg'; exact hF _ e4) fun _ _ _ _ => trivial, e4, e5, e6, e7, e8, e9, e10, e11, e12, Nat.lt_of_lt_of_le e13 hm.size, e14.mod hm (hF g e4) (hF hh e8) hC⟩
theorem MkR.grow {F C : Nat → Prop} {W W' : World} {b : Nat} {s : MkS} {dv iv : Value} {hot : Option Nat} (h : MkR F W b s dv iv C hot) (hm : Grow W W') : MkR F W' b s dv iv C hot := h.mod hm fun _ _ h => h
theorem MkI.mod {F M : Nat → Prop} {W W' : World} {b : Nat} {s : MkS} (h : MkI F W b s) (hm : Mod M W W') (hF : ∀ x, F x → ¬ M x) : MkI F W' b s := by
  obtain ⟨dv, iv, C, hot, h⟩ := h
  exact ⟨dv, iv, C, hot, h.mod hm hF⟩
theorem MkI.sub {F F' : Nat → Prop} {W : World} {b : Nat} {s : MkS} (h : MkI F W b s) (hF : ∀ x, F x → F' x) : MkI F' W b s := by
  obtain ⟨dv, iv, C, hot, h⟩ := h
  refine ⟨dv, iv, C, hot, h.c0, h.c1, h.c2, h.lv, hF _ h.fb, h.nb, fun x hx => ⟨hF _ (h.cf x hx).1, (h.cf x hx).2⟩, h.done, fun g hg => ⟨hF _ (h.dF g hg).1, (h.dF g hg).2⟩, ?_⟩
  rcases h.ins with h0 | ⟨g, c, hh, e1, e2, e3, e4, e5, e6, e7, e8, e9⟩
  · exact .inl h0
  · exact .inr ⟨g, c, hh, e1, e2, e3, hF _ e4, e5, e6, e7, hF _ e8, e9⟩
/-- New -/
theorem new_ok {w : World} : callK Try.prog 39 [] (fun v w' => Grow w w' ∧ ∃ b, w.heap.size ≤ b ∧ b < w'.heap.size ∧ v = .pointer (some ⟨b, 0, none⟩) ∧ MkI (fun x => x = b) w' b MkS.z) w := by
  apply S39_ok
  unfold S39
  refine ⟨#[.slice none 0 0, .slice none 0 0, .int .i64 0], by kernel_rfl, ?_⟩
  refine boxn_i (vs := [.slice none 0 0, .slice none 0 0, .int .i64 0]) fun b w1 hb hz g hc hl => ?_
  have a0 : ∀ j, (⟨b, 0, none⟩ : Addr).add j = ⟨b, j, none⟩ := fun j => addr0 b j
  refine ⟨g, b, by omega, by omega, rfl, _, _, fun _ => False, none, by rw [← a0]; exact hc 0 _ rfl, by rw [← a0]; exact hc 1 _ rfl, by rw [← a0]; exact hc 2 _ rfl, fun q hq => by rw [← a0]; exact hl q hq, rfl, fun h => h, fun _ h => h.elim, OwnR.nil, fun g hg => (nomatch hg), .inl ⟨rfl, rfl, rfl⟩⟩
/-- Delete -/
theorem delete_ok {F : Nat → Prop} {w : World} {b : Nat} {s : MkS} {n : Int} (h : MkI F w b s) : callK Try.prog 42 [.pointer (some ⟨b, 0, none⟩), .int .i64 n] (fun _ w' => MkI F w' b (delS s n) ∧ Mod F w w') w := by
  apply S42_ok
  unfold S42
  obtain ⟨dv, iv, C, hot, h⟩ := h
  rw [pnilK_i]
  simp only [Option.isNone_some, Bool.not_false]
  rw [condK_b, if_pos rfl, nilckK_i, faK_i, addr0]
  refine ld1K_i h.c2 ?_
  rw [maxK_i, addK_i, nilckK_i, faK_i, addr0]
  have e : (if (0 : Int) > n then (0 : Int) else n) = maxI n 0 := rfl
  rw [e]
  refine (h.lv 2 (by decide)).st rfl rfl ?_
  have hm := setA w b 2 (.int .i64 (IntKind.i64.wrap (s.gone + maxI n 0)))
  have ne : ∀ q, q < 2 → (⟨b, 2, none⟩ : Addr) ≠ ⟨b, q, none⟩ := fun q hq e => by simp only [Addr.mk.injEq] at e; omega
  obtain ⟨u, hu⟩ := Option.isSome_iff_exists.1 (h.lv 2 (by decide)).1
  have nC : ∀ x, C x → ¬ x = b := fun x hx e => h.nb (e ▸ hx)
  refine ⟨⟨dv, iv, C, hot, (World.cell?_setCell_other _ _ _ _ (ne 0 (by decide))).trans h.c0, (World.cell?_setCell_other _ _ _ _ (ne 1 (by decide))).trans h.c1, World.cell?_setCell_same _ _ _ hu, fun q hq => (h.lv q hq).set _ _, h.fb, h.nb, fun x hx => ⟨(h.cf x hx).1, Nat.lt_of_lt_of_le (h.cf x hx).2 hm.size⟩, OwnR.mod h.done hm (fun g hg => (h.dF g hg).2.2) fun r x _ hx => hx.cmod hm nC, h.dF, ?_⟩, hm.mono fun x _ e => by rw [e]; exact h.fb⟩
  rcases h.ins with h0 | ⟨g, c, hh, e1, e2, e3, e4, e5, e6, e7, e8, e9, e10, e11, e12, e13, e14⟩
  · exact .inl h0
  · exact .inr ⟨g, c, hh, e1, e2, OwnR.mod e3 hm (fun g' hg' => by rw [e1] at hg'; simp only [Value.ownBlock, Option.some.injEq] at hg'; subst hg'; exact e6) fun _ _ _ _ => trivial, e4, e5, e6, e7, e8, e9, e10, e11, e12, Nat.lt_of_lt_of_le e13 hm.size, e14.mod hm e6 e10 nC⟩
/-- what the gap's inserts read as -/
theorem MkR.insRd {F C : Nat → Prop} {W : World} {b : Nat} {s : MkS} {dv iv : Value} {hot : Option Nat} (h : MkR F W b s dv iv C hot) : RDops (fun _ => True) (fun x => (C x ∨ hot = some x) ∧ x < W.heap.size) W iv s.ins := by
  rcases h.ins with ⟨e1, e2, _⟩ | ⟨g, c, hh, e1, e2, e3, e4, e5, e6, e7, e8, e9, e10, e11, e12, e13, e14⟩
  · rw [e1, e2]; exact SlR.nil
  · subst e1; subst e2
    have o := OwnR.conv (R := RDop fun x => (C x ∨ some hh = some x) ∧ x < W.heap.size) e3 fun j hj r hr hone hcl => ?_
    · exact SlR.sub (OwnR.sl o) (fun _ _ _ => trivial) (by decide) fun _ _ h => h
    · obtain ⟨rv, sv, pv, q1, q2, _, _⟩ := e14.2 j hj
      have e : r = row5 s.ins[j] rv sv pv := by
        refine List.ext_getElem? fun q => ?_
        by_cases hq : q < 5
        · have h1 : r[q]? = some r[q] := List.getElem?_eq_getElem (by omega)
          have h2 : (row5 s.ins[j] rv sv pv)[q]? = some (row5 s.ins[j] rv sv pv)[q] := List.getElem?_eq_getElem (by simpa using hq)
          have h3 := hcl q _ h1
          rw [q1 q _ h2] at h3
          rw [h1, h2, h3]
        · rw [List.getElem?_eq_none (by omega), List.getElem?_eq_none (by simp; omega)]
      subst e
      exact q2.mod (Mod.refl (fun _ => False) _) (fun _ _ _ h => h) fun x hx hc => by
        refine ⟨?_, hx⟩
        rcases hc with hc | hc
        · exact .inl hc
        · exact .inr (by rw [hc])
/-- what is appended is a delete -/
theorem gap_ok {F C : Nat → Prop} {w : World} {b : Nat} {s : MkS} {dv iv : Value} {hot : Option Nat} (h : MkR F w b s dv iv C hot) (hl : (s.ins.length + 1) * 88 ≤ 140737488355328) :
    callK Try.prog 61 [.pointer (some ⟨b, 0, none⟩)] (fun v' w' => OwnR w.heap.size TOp 5 (RDop fun x => (C x ∨ hot = some x) ∧ x < w.heap.size) w' v' (gapL s.ins s.gone) ∧ Grow w w') w := by
  apply S61_ok
  unfold S61
  rw [nilckK_i, faK_i, addr0]
  refine ld1K_i h.c1 ?_
  refine callK_mono (clone_dops h.insRd (by omega)) ?_
  rintro v1 w1 ⟨o1, g1⟩
  have o1' : OwnR w.heap.size TOp 5 (RDop fun x => (C x ∨ hot = some x) ∧ x < w.heap.size) w1 v1 s.ins := OwnR.mod o1 (Mod.refl (fun _ => False) _) (fun _ _ h => h) fun r x _ hx => hx.mod (Mod.refl (fun _ => False) _) (fun _ _ _ h => h) fun _ _ h => h.1
  rw [nilckK_i, faK_i, addr0]
  refine ld1K_i (g1.cell h.c2 fun h => h) ?_
  rw [gtK_i]
  refine condK_p (fun hg => ?_) fun hg => ⟨by rw [gapL, if_neg hg]; exact o1', g1⟩
  rw [nilckK_i, faK_i, addr0]
  refine ld1K_i (g1.cell h.c2 fun h => h) ?_
  refine ⟨#[.int .u8 3, .int .i64 s.gone, .slice none 0 0, .slice none 0 0, .slice none 0 0], by kernel_rfl, ?_⟩
  refine push_n (w0 := w) elem_dop o1' g1 (cs := row5 ⟨3, s.gone, [], [], []⟩ (.slice none 0 0) (.slice none 0 0) (.slice none 0 0)) (x := ⟨3, s.gone, [], [], []⟩) (by kernel_rfl) rfl ⟨_, _, _, rfl, SlR.nil, SlR.nil, SlR.nil⟩ (fun _ _ _ => RDop.one) ?_ hl (by simp only [maxLen]; omega) fun v' w' h1 h2 => ⟨by rw [gapL, if_pos hg]; exact h1, h2⟩
  intro W1 W2 r y hz hm hy
  refine hy.mod hm (fun x _ hx e => ?_) fun _ _ h => h
  rcases e with e | e
  · have := (OwnR.ownB o1 x e).1; omega
  · have := g1.size; omega
end Go.Proofs.Ytmfplfaeibehiaa
