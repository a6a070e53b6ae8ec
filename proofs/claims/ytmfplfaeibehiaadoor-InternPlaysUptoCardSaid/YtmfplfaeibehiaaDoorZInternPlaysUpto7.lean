/- InternPlays: for every input of bulk at most 1048576 the law returns true, and each argument reads behind the call as it read before; the two tables tied. Condition: the bulk. -/
import Derived.Test.YtmfplfaeibehiaaDoorZInternPlaysUpto6
import Derived.Test.YtmfplfaeibehiaaDoorTie
import Derived.Test.YtmfplfaeibehiaaDoorCards
import Derived.WalkKit
import Derived.OpenShut
import Derived.ShutString
import Derived.ChangeOld
import Derived.ChangeVars
import Derived.JoinedOf
import Derived.JoinedCond
import Derived.Deep.DeepHandedRow
import Derived.SevenTiedAt
namespace Go.Proofs.YtmfplfaeibehiaaDoor
open Go Go.K

section
variable {F C M : Nat → Prop} {W W' : World} {b : Nat} {kv sv hv lv : Value} {t : Tab (List Attr)}
theorem alloc_get (w : World) (o : Obj) : (w.alloc o).heap[w.heap.size]? = some o := by show (w.heap.push o)[w.heap.size]? = some o; simp
theorem tput_free {l : List Attr} {i : Nat} (h : t.free.getLast? = some i) : t.put l = (i, { t with places := t.places.set i ⟨l, 1⟩, free := t.free.dropLast }) := by unfold Tab.put; rw [h]
theorem tput_new {l : List Attr} (h : t.free = []) : t.put l = (t.places.length, { t with places := t.places ++ [⟨l, 1⟩] }) := by unfold Tab.put; rw [h]; rfl
/-- what the document's table says when a place is chosen for the set l -/
def Chosen (t : Tab (List Attr)) (l : List Attr) (i : Nat) (ss : List (List Attr)) (hs ls : List Int) : Prop :=
  i < ss.length ∧ i < hs.length ∧ i ≤ t.places.length ∧ (t.put l).1 = i ∧ hs.set i 1 = heldL (t.put l).2 ∧ ls = looseL (t.put l).2 ∧ t.empty = (t.put l).2.empty ∧ SimS (t.put l).2 (ss.set i l)
theorem chosen_free {l : List Attr} {i : Nat} {ks : List DKey} {ss : List (List Attr)} (hinv : t.Inv (Held ks)) (hs : SimS t ss) (h : t.free.getLast? = some i) : Chosen t l i ss (heldL t) (t.free.dropLast.map fun i : Nat => (i : Int)) := by
  obtain ⟨p, hp, _⟩ := (hinv.fre i).1 (List.mem_of_getLast? h)
  have hi := (List.getElem?_eq_some_iff.1 hp).1
  refine ⟨by rw [hs.1]; exact hi, by rw [heldL, List.length_map]; exact hi, by omega, ?_⟩
  rw [tput_free h]
  refine ⟨rfl, ?_, rfl, rfl, by simp [hs.1], fun j q hj hq => ?_⟩
  · simp [heldL, List.map_set]
  · rw [List.getElem?_set] at hj ⊢
    split
    · rename_i e; subst e
      rw [if_pos rfl, if_pos hi] at hj
      cases hj
      rw [if_pos (by rw [hs.1]; exact hi)]
    · rename_i e
      rw [if_neg e] at hj
      exact hs.2 j q hj hq
theorem chosen_new {l : List Attr} {ss : List (List Attr)} (hs : SimS t ss) (h : t.free = []) : Chosen t l t.places.length (ss ++ [[]]) (heldL t ++ [0]) [] := by
  have hl : (heldL t).length = t.places.length := by rw [heldL, List.length_map]
  refine ⟨by simp [hs.1], by simp [hl], Nat.le_refl _, ?_⟩
  rw [tput_new h]
  refine ⟨rfl, ?_, by simp [looseL, h], rfl, by simp [hs.1], fun j q hj hq => ?_⟩
  · rw [List.set_append, if_neg (by omega), hl]
    simp [heldL]
  · dsimp only at hj
    rw [List.getElem?_append] at hj
    have hsl := hs.1
    rw [List.set_append, if_neg (by omega), List.getElem?_append, hs.1]
    split at hj
    · rename_i e
      rw [if_pos e]; exact hs.2 j q hj hq
    · rename_i e
      rw [if_neg e]
      have hj0 : j - t.places.length = 0 := by have := (List.getElem?_eq_some_iff.1 hj).1; simp at this; omega
      rw [hj0] at hj ⊢
      cases hj
      simp
set_option maxRecDepth 20000 in
theorem radd_ok {S1 S2 : Nat → Prop} {ks keys : List DKey} {v : Value} {l : List Attr} (h : RefT F W b kv t) (hs : t.Small 1099511627) (hinv : t.Inv (Held ks)) (hF : ∀ x, F x → x < W.heap.size) (hk : RKeys S1 W kv keys) (hv' : RSet S2 W v l) (hS2 : ∀ x, x < W.heap.size → S2 x → ¬ F x) (hb : ∀ a ∈ l, a.val.s.size * 4 ≤ 140737488355328) (hl : l.length ≤ 1099511627) :
    callK Tryd.prog 36 [.pointer (some ⟨b, 0, none⟩), v] (fun v' w' => (maySet keys l ≠ 0 ∧ v' = .tuple #[.int .i64 0, .int .i64 (maySet keys l)] ∧ Grow W w') ∨
      (maySet keys l = 0 ∧ ∃ id t', v' = .tuple #[.int .i64 id, .int .i64 0] ∧ t.Added [] l id t' ∧ RAfter F W w' b kv t')) W := by
  obtain ⟨C, sv, hv, lv, ss, hR, hsim⟩ := h
  have hfl := Tab.free_le hinv
  have hpl := hs.pl
  have hhl : (heldL t).length = t.places.length := by rw [heldL, List.length_map]
  apply S36_ok
  unfold S36
  refine nilckK_s ?_
  rw [faK_i, addr0]
  refine ld1K_i (hR.cells 0 _ rfl) ?_
  refine callK_mono (mayset_ok hk hv' hb) ?_
  rintro _ W1 ⟨rfl, g1⟩
  rw [neK_i]
  refine condK_neg (fun hm0 => ?_) fun hm0 => .inl ⟨hm0, rfl, g1⟩
  obtain ⟨va, vc, rfl, _⟩ := hv'.shape
  have hR1 := hR.grow g1
  have hv1 := (hv'.old (by decide)).grow g1 (by decide) fun _ _ h => h
  rw [lenK_i, eqK_i]
  refine condK_p (fun hl0 => ?_) fun hl0 => ?_
  · refine nilckK_s ?_
    rw [faK_i, addr0]
    refine ld1K_i (hR1.cells 4 _ rfl) ?_
    have := hs.em
    rw [addK_i, wrap64 (by omega) (by omega)]
    refine nilckK_s ?_
    rw [faK_i, addr0]
    refine hR1.setEm fun W' hR' hm => .inr ⟨hm0, 0, { t with empty := t.empty + 1 }, rfl, .inl ⟨List.eq_nil_of_length_eq_zero (by omega), rfl, rfl⟩, F, fun _ h => .inl h, ⟨C, sv, hv, lv, ss, hR', hsim⟩, (g1.mono fun _ _ h => h.elim).trans (hm.mono fun x _ e => by rw [e]; exact hR.fb.1)⟩
  have hne : l ≠ [] := fun e => hl0 (by rw [e]; rfl)
  refine callK_mono (rfind_ok hR1 (by rw [hsim.1]; omega) (by rw [hhl, hsim.1]) hv1) ?_
  rintro v5 W5 ⟨g5, hfind⟩
  have g15 := g1.trans g5
  have hR5 := hR1.grow g5
  have hv5 := hv1.grow g5 (by decide) fun _ _ h => h
  -- behind the place
  refine JoinK_i (fun vs W6 => ∃ (i : Nat) (x : Int) (F1 C1 : Nat → Prop) (sv1 hv1 lv1 : Value) (ss1 : List (List Attr)) (hs1 ls1 : List Int) (t' : Tab (List Attr)), vs = [.int .i64 i] ∧ RefR F1 C1 W6 b kv sv1 hv1 lv1 ss1 hs1 ls1 t.empty ∧ hs1[i]? = some x ∧ 0 ≤ x ∧ x ≤ 1099511627 ∧ i ≤ 1099511627 ∧ Mod F W W6 ∧ (∀ y, F1 y → F y ∨ W.heap.size ≤ y ∧ y < W6.heap.size) ∧
    t.Added [] l ((i : Int) + 1) t' ∧ hs1.set i (x + 1) = heldL t' ∧ ls1 = looseL t' ∧ t.empty = t'.empty ∧ SimS t' ss1) ?_ ?_
  · rintro _ W6 ⟨i, x, F1, C1, sv1, hv1, lv1, ss1, hs1, ls1, t', rfl, hR6, hx, hx0, hx1, hi1, hm6, hF6, ha, hhs, hls, hem, hsim'⟩ _
    have hlt := (List.getElem?_eq_some_iff.1 hx).1
    have hxe := (List.getElem?_eq_some_iff.1 hx).2
    rw [nth_z, List.headD_cons]
    refine nilckK_s ?_
    rw [faK_i, addr0]
    refine ld1K_i (hR6.cells 2 _ rfl) ?_
    obtain ⟨a, c, e, _⟩ := hR6.helds.shape
    have hsl := hR6.helds.sl
    rw [e] at hsl
    obtain ⟨q, r, rfl, _, hr, hcc, hre⟩ := hsl.get hlt
    rw [e]
    refine ixK_n hlt (ld1K_i (hcc 0 _ (by rw [show r = [.int .i64 hs1[i]] from hre]; rfl)) ?_)
    rw [hxe, addK_i, wrap64 (by omega) (by omega)]
    refine ixK_n hlt ?_
    refine hR6.setHeld e hlt fun W7 hR7 hm7 => ?_
    rw [addK_i, wrap64 (by omega) (by omega)]
    have z7 := hm7.size
    have z6 := hm6.size
    refine .inr ⟨hm0, (i : Int) + 1, t', rfl, ha, F1, fun y hy => ?_, ⟨C1, sv1, hv1, lv1, ss1, ?_, hsim'⟩, ?_⟩
    · rcases hF6 y hy with h | h
      · exact .inl h
      · exact .inr ⟨h.1, by omega⟩
    · rw [← hhs, ← hls, ← hem]; exact hR7
    · refine hm6.next hm7 fun y hy e => ?_
      rcases hF6 y e with h | h
      · exact h
      · omega
  rcases hfind with ⟨i, rfl, hsi, x, hhi, hx0⟩ | ⟨rfl, hno⟩
  · -- it is there
    rw [ltK_i]
    refine condK_p (fun e => by omega) fun _ => ?_
    rw [heldL_get] at hhi
    cases hp : t.places[i]? with
    | none => rw [hp] at hhi; cases hhi
    | some p =>
      rw [hp] at hhi
      simp only [Option.map_some, Option.some.injEq] at hhi
      subst hhi
      have hlt := (List.getElem?_eq_some_iff.1 hp).1
      have hle := hs.he p (List.mem_of_getElem? hp)
      have hset : p.set = l := by have := hsim.2 i p hp (by omega); rw [hsi] at this; exact (Option.some.inj this).symm
      refine ⟨i, p.held, F, C, sv, hv, lv, ss, heldL t, looseL t, t.setP i ⟨l, p.held + 1⟩, rfl, hR5, by rw [heldL_get, hp]; rfl, by omega, by omega, by omega, g15.mono fun _ _ h => h.elim, fun y hy => .inl hy, .inr (.inl ⟨hne, i, p.held, ?_, by omega, rfl, rfl⟩), ?_, rfl, rfl, ?_⟩
      · rw [hp, ← hset]
      · rw [heldL_set]; simp
      · refine ⟨by rw [hsim.1, Tab.setP, List.length_set], fun j q' hj hq => ?_⟩
        rw [Tab.setP, List.getElem?_set] at hj
        split at hj
        · rename_i e2; subst e2
          cases hj
          exact hsi
        · exact hsim.2 j q' hj hq
  · rw [ltK_i]
    refine condK_p (fun _ => ?_) fun e => absurd (by decide) e
    have hnone : ∀ (i : Nat) (p : Ent (List Attr)), t.places[i]? = some p → 0 < p.held → p.set ≠ l := fun i p hp h0 e => hno i p.held (by rw [hsim.2 i p hp h0, e]) (by rw [heldL_get, hp]; rfl) (by omega)
    refine JoinK_i (fun vs W6 => ∃ (i : Nat) (F1 : Nat → Prop) (sv1 hv1 lv1 : Value) (ss1 : List (List Attr)) (hs1 ls1 : List Int), vs = [.int .i64 i] ∧ RefR F1 C W6 b kv sv1 hv1 lv1 ss1 hs1 ls1 t.empty ∧ Mod F W W6 ∧ (∀ y, F1 y → F y ∨ W.heap.size ≤ y ∧ y < W6.heap.size) ∧ Chosen t l i ss1 hs1 ls1) ?_ ?_
    · rintro _ W6 ⟨i, F1, sv1, hv1, lv1, ss1, hs1, ls1, rfl, hR6, hm6, hF6, hi1, hi2, hi3, hput, hhs, hls, hem, hsim'⟩ _
      rw [nth_z, List.headD_cons]
      refine drawC_i (fun k y => k = 9 ∧ sv1.ownBlock = some y) ?_
      have gd : Grow W6 W6.drew := Mod.drew _ _
      refine nilckK_s ?_
      rw [faK_i, addr0]
      refine sld1_i ⟨gd.cell (hR6.cells 1 _ rfl) fun h => h, fun j hj e => by obtain ⟨rfl, _⟩ := e; exact absurd hj (by decide)⟩ ?_
      refine rowK_empty ⟨Mod.alloc _ _ _, ?_⟩
      have ga : Grow W6.drew (W6.drew.alloc (.cells #[] 56)) := Mod.alloc _ _ _
      have hbx : (W6.drew.alloc (.cells #[] 56)).heap[W6.drew.heap.size]? = some (.cells #[] 56 (0, 0)) := alloc_get _ _
      have hza : (W6.drew.alloc (.cells #[] 56)).heap.size = W6.drew.heap.size + 1 := by simp
      have hzd : W6.drew.heap.size = W6.heap.size := rfl
      generalize W6.drew.alloc (.cells #[] 56) = Wa at ga hbx hza ⊢
      have z6 := hm6.size
      have hva : RSet (fun x => S2 x ∧ x < W.heap.size) Wa (.slice va l.length vc) l := ((hv'.old (by decide)).mod hm6 (fun x hx hS e => hS2 x hx hS.1 e) (by decide) fun _ _ h => h).grow (gd.trans ga) (by decide) fun _ _ h => h
      obtain ⟨cv, W7, hrun, ho7, g7, hn7⟩ := append_new (ty := 53) elem_attr hbx hva (fun _ _ _ => RAttr.one) (by omega) (fun _ _ _ _ h => h)
      refine runK_i hrun ⟨g7.mono fun _ _ h => h.elim, ?_⟩
      have g67 := (gd.trans ga).trans g7
      have hR7 := hR6.grow g67
      obtain ⟨a, c, e, _⟩ := hR7.sets.shape
      have hsl := hR7.sets.sl
      rw [e] at hsl
      obtain ⟨q, r, rfl, _⟩ := hsl.get hi1
      rw [e]
      refine ixK_n hi1 ?_
      refine hR7.setSet e hi1 (B := W6.drew.heap.size) (fun y hy => ?_) ho7 fun W8 hR8 hm8 => ⟨hm8.mono fun x _ h => ⟨rfl, by rw [← e]; exact h⟩, ?_⟩
      · rcases hF6 y hy with h | h
        · have := hF y h; omega
        · omega
      have z8 := hm8.size
      have z67 := g67.size
      refine nilckK_s ?_
      rw [faK_i, addr0]
      refine ld1K_i (hR8.cells 2 _ rfl) ?_
      obtain ⟨a', c', e', _⟩ := hR8.helds.shape
      have hsl' := hR8.helds.sl
      rw [e'] at hsl'
      obtain ⟨q', r', rfl, _⟩ := hsl'.get hi2
      rw [e']
      refine ixK_n hi2 ?_
      refine hR8.setHeld e' hi2 fun W9 hR9 hm9 => ?_
      have z9 := hm9.size
      have hso := OwnR.ownB ho7
      have hz7 := g7.size
      refine ⟨i, 0, _, _, sv1, hv1, lv1, ss1.set i l, hs1.set i 0, ls1, (t.put l).2, rfl, hR9, by rw [List.getElem?_set_self hi2], by omega, by omega, by omega, ?_, fun y hy => ?_, .inr (.inr ⟨hne, hnone, by rw [hput], rfl⟩), ?_, hls, hem, hsim'⟩
      · refine ((hm6.next g67 fun _ _ h => h.elim).next hm8 fun y hy h => ?_).next hm9 fun y hy h => ?_
        · rcases hF6 y (hR6.sF y h).1 with h | h
          · exact h
          · omega
        · rcases h with h | h
          · rcases hF6 y h with h | h
            · exact h
            · omega
          · have := (hso y h).1; omega
      · rcases hy with h | h
        · rcases hF6 y h with h | h
          · exact .inl h
          · exact .inr ⟨h.1, by omega⟩
        · have := hso y h; exact .inr ⟨by omega, by omega⟩
      · rw [List.set_set, ← hhs]; rfl
    -- the place
    refine nilckK_s ?_
    rw [faK_i, addr0]
    refine ld1K_i (hR5.cells 3 _ rfl) ?_
    obtain ⟨fa, fc, efr, hcap0, _, hfa, hfn⟩ := hR5.looses.shape
    have hll : (looseL t).length = t.free.length := by rw [looseL, List.length_map]
    rw [efr, lenK_i, gtK_i]
    refine condK_p (fun hgt => ?_) fun hle => ?_
    · have hpos : 0 < t.free.length := by omega
      have hne' : t.free ≠ [] := List.length_pos_iff.1 hpos
      obtain ⟨i, hlast⟩ : ∃ i, t.free.getLast? = some i := ⟨_, List.getLast?_eq_some_getLast hne'⟩
      cases fa with
      | none => have := hfn rfl; rw [looseL, List.map_eq_nil_iff] at this; exact absurd this hne'
      | some q =>
        obtain ⟨g, rfl, _, hg, hob⟩ := hfa q rfl
        refine drawK_i (fun W' => Grow W5 W') (Mod.drew _ _) ?_
        refine nilckK_s ?_
        rw [faK_i, addr0]
        refine qld1K_i (fun w2 g => g.cell (hR5.cells 3 _ rfl) fun h => h) ?_
        refine nilckK_s ?_
        rw [faK_i, addr0]
        refine qld1K_i (fun w2 g => g.cell (hR5.cells 3 _ rfl) fun h => h) ?_
        rw [efr, lenK_i, subK_i, wrap64 (by omega) (by omega)]
        have en : (((looseL t).length : Int) - 1) = (((looseL t).length - 1 : Nat) : Int) := by omega
        rw [en]
        have hj : (looseL t).length - 1 < (looseL t).length := by omega
        have hsl := hR5.looses.sl
        rw [efr] at hsl
        obtain ⟨_, r, e1, _, hr, hc, hre⟩ := hsl.get hj
        cases e1
        have evl : (looseL t)[(looseL t).length - 1] = (i : Int) := by
          have h1 : (looseL t)[(looseL t).length - 1]? = some (i : Int) := by
            rw [looseL, List.length_map, List.getElem?_map]
            rw [List.getLast?_eq_getElem?] at hlast
            rw [hlast]; rfl
          rw [List.getElem?_eq_getElem hj] at h1
          exact Option.some.inj h1
        refine ixK_n hj ?_
        refine qld1K_i (fun w2 g => g.cell (hc 0 (.int .i64 i) (by rw [show r = [.int .i64 (looseL t)[(looseL t).length - 1]] from hre, evl]; rfl)) fun h => h) ?_
        intro W6 g6
        have hR6 := hR5.grow g6
        refine drawC_i (fun k y => k = 16 ∧ y = b) ?_
        have gd : Grow W6 W6.drew := Mod.drew _ _
        refine nilckK_s ?_
        rw [faK_i, addr0]
        refine sld1_i ⟨gd.cell (hR6.cells 3 _ rfl) fun h => h, fun j hj e => by obtain ⟨rfl, _⟩ := e; exact absurd hj (by decide)⟩ ?_
        refine nilckK_s ?_
        rw [faK_i, addr0]
        refine sld1_i ⟨gd.cell (hR6.cells 3 _ rfl) fun h => h, fun j hj e => by obtain ⟨rfl, _⟩ := e; exact absurd hj (by decide)⟩ ?_
        rw [efr, lenK_i, subK_i, wrap64 (by omega) (by omega), en]
        have ht := OwnR.take (efr ▸ hR6.looses) (j := (looseL t).length - 1) (by omega)
        have ed : (looseL t).take ((looseL t).length - 1) = t.free.dropLast.map fun i : Nat => (i : Int) := by rw [looseL, List.length_map, List.dropLast_eq_take, List.map_take]
        rw [ed] at ht
        have hdl : (t.free.dropLast.map fun i : Nat => (i : Int)).length = (looseL t).length - 1 := by rw [List.length_map, List.length_dropLast, hll]
        -- behind the four
        have fin : ∀ {Wb : World} {x : Nat}, Grow W6.drew Wb → Wb.heap[x]? = some (.cells #[] 3 (0, 0)) → W6.drew.heap.size ≤ x → ∀ (Q : World → World → Prop), (∀ W2, Grow Wb W2 → Q Wb W2) → runK Tryd.prog (Builtin.append_ #[43, 43] 43 [.slice (some ⟨x, 0, none⟩) 0 0, .slice (some ⟨g, 0, none⟩) ((looseL t).length - 1) fc].toArray) (fun t63 w20 => Q Wb w20 ∧ nilckK (.pointer (some ⟨b, 0, none⟩)) fun t64 => faK 3 t64 fun t65 => st1K t65 t63 (fun w21 => Mod (fun y => 16 = 16 ∧ y = b) w20 w21 ∧ ∃ (i' : Nat) (F1 : Nat → Prop) (sv1 hv1 lv1 : Value) (ss1 : List (List Attr)) (hs1 ls1 : List Int), [Value.int .i64 i] = [.int .i64 i'] ∧ RefR F1 C w21 b kv sv1 hv1 lv1 ss1 hs1 ls1 t.empty ∧ Mod F W w21 ∧ (∀ y, F1 y → F y ∨ W.heap.size ≤ y ∧ y < w21.heap.size) ∧ Chosen t l i' ss1 hs1 ls1) w20) Wb := by
          intro Wb x gb hbx hxx Q hQ
          have htb := (OwnR.mod (R' := RNum) ht (gd.trans gb) (fun _ _ h => h) fun _ _ _ h => h).sl
          rw [← hdl] at htb ⊢
          obtain ⟨lv', W2, hrun, ho2, g2, hn2⟩ := append_new (ty := 43) elem_int hbx htb (fun _ _ _ => RNum.one) (by rw [hdl]; omega) (fun _ _ _ _ h => h)
          refine runK_i hrun ⟨hQ _ g2, nilckK_s ?_⟩
          rw [faK_i, addr0]
          have ho2' := OwnR.ownB ho2
          have z0 := g15.size
          have z6 := g6.size
          have zb := gb.size
          have zd : W6.drew.heap.size = W6.heap.size := rfl
          have z2 := g2.size
          refine (hR6.grow gd).setLo (F' := fun y => F y ∨ W6.heap.size ≤ y ∧ y < W2.heap.size) (M := fun _ => False) (gb.trans g2) (fun _ h => h.elim) (fun _ h => .inl h) (ho2.base fun _ _ => Nat.zero_le _) (fun g' hg' => .inr (by
            have := (ho2' g' hg').2
            rcases hn2 g' hg' with e | e
            · exact ⟨by omega, .inr ⟨by omega, by omega⟩⟩
            · exact ⟨by omega, .inr ⟨by omega, by omega⟩⟩)) fun W3 hR3 hm3 => ⟨hm3.mono fun y _ e => ⟨rfl, e⟩, i, _, sv, hv, lv', ss, heldL t, _, rfl, hR3, ?_, fun y hy => ?_, chosen_free hinv hsim hlast⟩
          · exact ((((g15.trans g6).trans gd).trans gb).trans g2 |>.mono fun _ _ h => h.elim).trans (hm3.mono fun x _ e => by rw [e]; exact hR.fb.1)
          · have := hm3.size
            rcases hy with h | h
            · exact .inl h
            · exact .inr ⟨by omega, by omega⟩
        refine ⟨?_, ?_⟩
        · refine rowK_empty ⟨Mod.alloc _ _ _, ?_⟩
          refine runK_i (slice_hi_run (e := 3) (k := 1) (i := Tryd.t3) (by kernel_rfl) (by kernel_rfl) (by kernel_rfl) (by omega) _) ⟨Mod.refl _ _, ?_⟩
          refine fin (Mod.alloc _ _ _) (alloc_get _ _) (Nat.le_refl _) (fun w1 w2 => Mod (fun y => 13 = 16 ∧ y = b) w1 w2) fun W2 g => g.mono fun _ _ h => h.elim
        · refine runK_i (slice_hi_run (e := 3) (k := 1) (i := Tryd.t3) (by kernel_rfl) (by kernel_rfl) (by kernel_rfl) (by omega) _) ⟨Mod.refl _ _, ?_⟩
          refine rowK_empty ⟨Mod.alloc _ _ _, ?_⟩
          refine fin (Mod.alloc _ _ _) (alloc_get _ _) (Nat.le_refl _) (fun w1 w2 => Mod (fun y => 13 = 16 ∧ y = b) w1 w2) fun W2 g => g.mono fun _ _ h => h.elim
    · have hf0 : t.free = [] := List.eq_nil_of_length_eq_zero (by omega)
      refine nilckK_s ?_
      rw [faK_i, addr0]
      refine ld1K_i (hR5.cells 1 _ rfl) ?_
      obtain ⟨sa, sc, esv, _⟩ := hR5.sets.shape
      rw [esv, lenK_i, hsim.1]
      refine nilckK_s ?_
      rw [faK_i, addr0]
      refine ld1K_i (hR5.cells 1 _ rfl) ?_
      refine push_g elem_sets hR5.sets (Nat.zero_le _) (cs := [.slice none 0 0]) (x := []) (by kernel_rfl) rfl ⟨_, rfl, SlR.nil⟩ (fun _ _ _ => RSetV.one) (fun w1 w2 r y hs1 hm hr => hr.mod hm fun x hx hC e => ?_) (by rw [hsim.1]; omega) (by rw [hsim.1]; simp only [maxLen]; omega) fun sv' W6 ho6 hm6 hn6 => ?_
      · rcases e with e | e
        · exact (hR5.sF x e).2.1 hC
        · have := (hR5.cf x hC).2; omega
      refine nilckK_s ?_
      rw [faK_i, addr0]
      have hlt6 := OwnR.ownB ho6
      refine hR5.setSe (F' := fun x => F x ∨ W5.heap.size ≤ x ∧ x < W6.heap.size) hm6 (fun _ h => h) (fun _ h => .inl h) ho6 (fun g hg => by
        rcases hn6 g hg with e | e
        · exact .inl e
        · exact .inr ⟨e, .inr ⟨e, (hlt6 g hg).2⟩⟩) fun W7 hR7 hm7 => ?_
      refine nilckK_s ?_
      rw [faK_i, addr0]
      refine ld1K_i (hR7.cells 2 _ rfl) ?_
      refine push_g elem_int hR7.helds (Nat.zero_le _) (cs := [.int .i64 0]) (x := 0) (by kernel_rfl) rfl rfl (fun _ _ _ => RNum.one) (fun _ _ _ _ _ _ h => h) (by rw [hhl]; omega) (by rw [hhl]; simp only [maxLen]; omega) fun hv' W8 ho8 hm8 hn8 => ?_
      refine nilckK_s ?_
      rw [faK_i, addr0]
      have hlt8 := OwnR.ownB ho8
      have z5 := g15.size
      have z6 := hm6.size
      have z7 := hm7.size
      have z8 := hm8.size
      refine hR7.setHe (F' := fun x => F x ∨ W5.heap.size ≤ x ∧ x < W8.heap.size) hm8 (fun _ h => h) (fun x h => by rcases h with h | h; exact .inl h; exact .inr ⟨h.1, by omega⟩) ho8 (fun g hg => by
        rcases hn8 g hg with e | e
        · exact .inl e
        · exact .inr ⟨e, .inr ⟨by omega, (hlt8 g hg).2⟩⟩) fun W9 hR9 hm9 => ?_
      have z9 := hm9.size
      have elo : looseL t = [] := by rw [looseL, hf0]; rfl
      rw [elo] at hR9
      refine ⟨t.places.length, _, sv', hv', lv, ss ++ [[]], heldL t ++ [0], [], rfl, hR9, ?_, fun y hy => ?_, chosen_new hsim hf0⟩
      · have hFle : ∀ y, F y → y < W.heap.size := hF
        refine ((((g15.mono fun _ _ h => h.elim).trans (hm6.mono fun x _ e => (hR5.sF x e).1)).trans (hm7.mono fun x _ e => by rw [e]; exact hR.fb.1)).next hm8 fun x hx e => ?_).trans (hm9.mono fun x _ e => by rw [e]; exact hR.fb.1)
        exact (hR5.hF x e).1
      · rcases hy with h | h
        · exact .inl h
        · exact .inr ⟨by omega, by omega⟩
end
end Go.Proofs.YtmfplfaeibehiaaDoor

namespace Go.K
open Go
/-- the numbers below n of which P says so -/
def idl (P : Nat → Bool) : Nat → List Int
  | 0 => []
  | n + 1 => idl P n ++ (if P n then [(n : Int)] else [])
theorem idl_len {P : Nat → Bool} (n : Nat) : (idl P n).length ≤ n := by
  induction n with
  | zero => simp [idl]
  | succ n ih => rw [idl, List.length_append]; split <;> simp <;> omega
theorem idl_more {P : Nat → Bool} {n m : Nat} (h : n ≤ m) : ∃ r, idl P m = idl P n ++ r := by
  induction m with
  | zero => obtain rfl : n = 0 := by omega
            exact ⟨[], by simp⟩
  | succ m ih =>
    rcases Nat.lt_or_ge m n with h1 | h1
    · obtain rfl : n = m + 1 := by omega
      exact ⟨[], by simp⟩
    · obtain ⟨r, hr⟩ := ih h1
      exact ⟨r ++ _, by rw [idl, hr, List.append_assoc]⟩
theorem idl_mono {P : Nat → Bool} {n m : Nat} (h : n ≤ m) : (idl P n).length ≤ (idl P m).length := by
  obtain ⟨r, hr⟩ := idl_more (P := P) h
  rw [hr, List.length_append]; omega
theorem idl_get {P : Nat → Bool} {n m : Nat} (h : n < m) (hp : P n = true) : (idl P m)[(idl P n).length]? = some (n : Int) := by
  obtain ⟨r, hr⟩ := idl_more (P := P) (show n + 1 ≤ m by omega)
  rw [hr, idl, if_pos hp, List.append_assoc, List.getElem?_append_right (Nat.le_refl _), Nat.sub_self]
  rfl
theorem idl_succ {P : Nat → Bool} {n : Nat} : (idl P (n + 1)).length = (idl P n).length + (if P n then 1 else 0) := by
  rw [idl, List.length_append]; split <;> rfl
theorem newvar_i {t : TypeId} {v : Value} {K : Cont} {w : World} (h : ∀ b w1, b = w.heap.size → w1.heap.size = w.heap.size + 1 → Grow w w1 → Var w1 b v → K (.pointer (some ⟨b, 0, none⟩)) w1) : newK t [v] K w :=
  newK_i (h _ _ rfl (by simp) (Mod.alloc _ _ _) (Var.new w t v))
end Go.K
namespace Go.Proofs.YtmfplfaeibehiaaDoor
open Go Go.K

/-- has some set the number i as its id? -/
def hasT (t : Tab (List Attr)) (i : Nat) : Bool := (t.ask [] (i : Int)).isSome
theorem hasT_zero {t : Tab (List Attr)} : hasT t 0 = true := by unfold hasT Tab.ask; simp
theorem hasT_succ {t : Tab (List Attr)} {i : Nat} (h : i < t.places.length) : hasT t (i + 1) = decide (0 < t.places[i].held) := by
  unfold hasT
  unfold Tab.ask
  rw [if_neg (by omega), if_neg (by omega), show (((i + 1 : Nat) : Int) - 1).toNat = i by omega, List.getElem?_eq_getElem h]
  dsimp only
  split
  · rename_i e; rw [decide_eq_false (by omega)]; rfl
  · rename_i e; rw [decide_eq_true (by omega)]; rfl
/-- the ids -/
abbrev idsT (t : Tab (List Attr)) : List Int := idl (hasT t) (t.places.length + 1)
theorem iall_ok {F : Nat → Prop} {W : World} {b : Nat} {ks : List DKey} {t : Tab (List Attr)} (h : TabI F W b ks t) (hs : t.places.length ≤ 1099511627) :
    callK Tryd.prog 40 [.pointer (some ⟨b, 0, none⟩)] (fun v' w' => ∃ c iv, v' = .func (.func 56) #[] #[.pointer (some ⟨c, 0, none⟩)] ∧ W.heap.size ≤ c ∧ Var w' c iv ∧ OwnR W.heap.size 3 1 RNum w' iv (idsT t) ∧ Grow W w') W := by
  apply S40_ok
  unfold S40
  refine newvar_i fun c w1 hc hz1 g1 V1 => ?_
  have h1 := h.grow g1
  refine callK_mono (ready_ok h1) ?_
  rintro _ _ ⟨rfl, rfl⟩
  rename World => w1
  refine condK_t (V1.ld ?_)
  refine push_g (R := RNum) elem_int (OwnR.nil (B := W.heap.size + 1)) (by omega) (cs := [.int .i64 0]) (x := 0) (by kernel_rfl) rfl rfl (fun _ _ _ => RNum.one) (fun _ _ _ _ _ _ h => h) (by simp) (by simp [maxLen]) fun iv w2 o2 m2 _ => ?_
  have g2 : Grow w1 w2 := m2.mono fun _ _ e => by cases e
  refine (V1.grow g2).st o2.one.1 o2.one.2 fun V3 m3 => ?_
  generalize w2.setCell ⟨c, 0, none⟩ iv = w3 at V3 m3 ⊢
  have hob2 := OwnR.ownB o2
  have z2 := g2.size
  have g3 : Grow W w3 := (g1.trans g2).next m3 fun x hx e => by omega
  have o3 : OwnR (W.heap.size + 1) 3 1 RNum w3 iv (idl (hasT t) 1) := by
    have : idl (hasT t) 1 = [] ++ [0] := by rw [idl, idl, hasT_zero]; rfl
    rw [this]
    exact OwnR.mod o2 m3 (fun g hg e => by have := (hob2 g hg).1; omega) fun _ _ _ h => h
  obtain ⟨C, sv, pl, fr, bm, hR⟩ := h
  have hR3 := hR.mod g3 fun _ _ h => h
  refine nilckK_s ?_
  rw [faK_i, addr0]
  refine ld1K_i (hR3.cells 1 _ rfl) ?_
  obtain ⟨pa, pc, epl, _⟩ := hR.core.pls.sl.shape
  rw [epl, lenK_i]
  refine LoopK_i (fun vs W1 => ∃ (i : Nat) (iv : Value), i ≤ t.places.length ∧ vs = [.int .i64 i] ∧ Var W1 c iv ∧ OwnR (W.heap.size + 1) 3 1 RNum W1 iv (idl (hasT t) (i + 1)) ∧ Grow W W1) (fun vs _ => t.places.length - iOf vs 0) ⟨0, iv, Nat.zero_le _, rfl, V3, o3, g3⟩ ?_
  rintro vs W1 ⟨i, iv, hi, rfl, V, o, g⟩ _
  rw [nth_z, List.headD_cons, ltK_i]
  refine condK_p (fun hlt => ?_) fun hge => ?_
  rotate_left
  · obtain rfl : i = t.places.length := by omega
    exact ⟨c, iv, rfl, by omega, V, o.base fun x hx => by have := (OwnR.ownB o x hx).1; omega, g⟩
  have hlt' : i < t.places.length := by omega
  have hRi := hR.mod g fun _ _ h => h
  have hsl := hRi.core.pls.sl
  rw [epl] at hsl
  obtain ⟨q, r, rfl, _, hr, hcc, si, rfl, hsi⟩ := hsl.get hlt'
  refine ixK_n hlt' (ldnK_i hr (fun j u hu => by rw [Addr.add_add]; exact hcc j u hu) ?_)
  obtain ⟨sa, sc, rfl, _⟩ := hsi.shape
  refine newst_n (vs := [.slice sa t.places[i].set.length sc, .int .i64 t.places[i].held]) rfl rfl (fun u hu => by simp at hu; rcases hu with rfl | rfl <;> rfl) fun b5 w5 _ _ g5 hc5 _ => ?_
  rw [faK_i]
  refine ld1K_i (hc5 1 _ rfl) ?_
  have V5 := V.grow g5
  have o5 : OwnR (W.heap.size + 1) 3 1 RNum w5 iv (idl (hasT t) (i + 1)) := OwnR.mod o g5 (fun _ _ h => h) fun _ _ _ h => h
  rw [gtK_i]
  refine condK_p (fun hpos => ?_) fun hz => ?_
  · refine V5.ld ?_
    rw [addK_i, wrap64 (by omega) (by omega)]
    have hil := idl_len (P := hasT t) (i + 1)
    have hsw := g.size
    have hs5 := g5.size
    refine push_g elem_int o5 (by have := V.lt; omega) (cs := [.int .i64 ((i : Int) + 1)]) (x := (i : Int) + 1) (by kernel_rfl) rfl rfl (fun _ _ _ => RNum.one) (fun _ _ _ _ _ _ h => h) (by omega) (by simp only [maxLen]; omega) fun iv' w6 o6 m6 n6 => ?_
    have hob5 := OwnR.ownB o5
    have hob6 := OwnR.ownB o6
    have hs6 := m6.size
    refine (V5.mod m6 fun e => by have := (hob5 c e).1; omega).st o6.one.1 o6.one.2 fun V7 m7 => ?_
    rw [addK_i, loop_step (by omega)]
    refine ⟨⟨i + 1, iv', hlt', rfl, V7, ?_, ?_⟩, by rw [iOf0, iOf0]; omega⟩
    · have e : idl (hasT t) (i + 1 + 1) = idl (hasT t) (i + 1) ++ [(i : Int) + 1] := by
        rw [idl, hasT_succ hlt', decide_eq_true (show 0 < t.places[i].held by omega)]; rfl
      rw [e]
      exact OwnR.mod o6 m7 (fun x hx e => by have := (hob6 x hx).1; omega) fun _ _ _ h => h
    · exact ((g.trans g5).next m6 fun x hx e => by have := (hob5 x e).1; omega).next m7 fun x hx e => by omega
  · rw [addK_i, loop_step (by omega)]
    refine ⟨⟨i + 1, iv, hlt', rfl, V5, ?_, g.trans g5⟩, by rw [iOf0, iOf0]; omega⟩
    have e : idl (hasT t) (i + 1 + 1) = idl (hasT t) (i + 1) := by
      rw [idl, hasT_succ hlt', decide_eq_false (show ¬ 0 < t.places[i].held by omega)]; simp
    rw [e]; exact o5
/-- the iterator over a row of numbers -/
theorem all_seq {B c : Nat} {W : World} {iv : Value} {l : List Int} (hv : Var W c iv) (ho : OwnR B 3 1 RNum W iv l) (hl : l.length ≤ 1099511627776) :
    SeqK True Tryd.prog 56 [.pointer (some ⟨c, 0, none⟩)] (fun k => [.int .i64 (l[k]?.getD 0)]) l.length (fun b => iv.ownBlock = some b) W := by
  intro yl J Jx w1 hg h0 stJ stJx hRd hround
  apply S56_ok
  unfold S56
  refine (hv.grow hg).ld ?_
  obtain ⟨a, n, e, _⟩ := ho.shape
  have hsl := ho.sl
  have hob := OwnR.ownB ho
  rw [e, lenK_i]
  rw [e] at hsl
  refine LoopK_i (fun vs W1 => ∃ k : Nat, k ≤ l.length ∧ vs = [.int .i64 k] ∧ J k (fun _ => False) W1) (fun vs _ => l.length - iOf vs 0) ⟨0, Nat.zero_le _, rfl, h0⟩ ?_
  rintro vs W1 ⟨k, hk, rfl, hJ⟩ _
  rw [nth_z, List.headD_cons, ltK_i]
  refine condK_p (fun hlt => ?_) fun hge => ?_
  rotate_left
  · obtain rfl : k = l.length := by omega
    exact ⟨_, .inl hJ⟩
  have hlt' : k < l.length := by omega
  obtain ⟨q, r, rfl, hq, hr, hcc, hre⟩ := hsl.get hlt'
  have hqb : iv.ownBlock = some q.block := by rw [e]; exact hq.2
  refine ixK_n hlt' (ld1K_i (v := .int .i64 l[k]) ?_ ?_)
  · have := hcc 0 (.int .i64 l[k]) (by rw [show r = [.int .i64 l[k]] from hre]; rfl)
    rw [← this]
    exact World.cell?_of_block (by rw [add_block]; exact hRd k _ W1 hJ q.block (hob _ hqb).2 hqb)
  refine .inr ⟨yl, rfl, ?_⟩
  have hr2 := hround k _ W1 hlt' hJ
  dsimp only at hr2
  rw [List.getElem?_eq_getElem hlt'] at hr2
  refine roundK_mono hr2 ?_
  rintro vv W3 ⟨hz3, hsame, ⟨rfl, hJ3⟩ | ⟨rfl, hJx⟩⟩
  · rw [notK_i]
    refine condK_f ?_
    rw [addK_i, loop_step (by omega)]
    exact ⟨⟨k + 1, hlt', rfl, hJ3⟩, by rw [iOf0, iOf0]; omega⟩
  · rw [notK_i]
    exact condK_t ⟨_, .inr hJx⟩
end Go.Proofs.YtmfplfaeibehiaaDoor

namespace Go.Proofs.YtmfplfaeibehiaaDoor
open Go Go.K

theorem attr_get (y : Attr) : ∃ x, ∀ (w : World) r, RAttr w r y → r[0]? = some (.int .i64 x) := ⟨y.key, fun _ _ e => by rw [e]; rfl⟩
theorem attr_set (y : Attr) (z : Int) : ∃ y' : Attr, ∀ (w1 w2 : World) r, RAttr w1 r y → RAttr w2 (r.set 0 (.int .i64 z)) y' := ⟨{ y with key := z }, fun _ _ _ e => by rw [e]; rfl⟩
set_option maxRecDepth 20000 in
theorem looked_ok {F G : Nat → Prop} {w : World} {b b' : Nat} {kv : Value} {ks : List DKey} {t : Tab (List Attr)} {id : Int} (hT : TabI F w b ks t) (hRf : RefT G w b' kv t) (hF : ∀ x, F x → x < w.heap.size) (hG : ∀ x, G x → x < w.heap.size) (hs : t.Small 1000000) (h0 : -9223372036854775808 ≤ id) (h1 : id ≤ 9223372036854775807) :
    callK Tryd.prog 39 [.pointer (some ⟨b, 0, none⟩), .pointer (some ⟨b', 0, none⟩), .int .i64 id] (fun v' w' => v' = .bool true ∧ Grow w w') w := by
  have hpl := hs.pl
  have hpl9 : t.places.length ≤ 1099511627776 := by omega
  have hhl : (heldL t).length = t.places.length := by rw [heldL, List.length_map]
  have hfl : t.free.length ≤ t.places.length := by
    obtain ⟨C, sv, pl, fr, bm, h⟩ := hT
    exact Tab.free_le h.core.inv
  obtain ⟨C, sv, hv, lv, ss, hR, hsim⟩ := hRf
  obtain ⟨sa, sc, esv, _⟩ := hR.sets.shape
  obtain ⟨la, lc, elv, _⟩ := hR.looses.shape
  have hll : (looseL t).length = t.free.length := by rw [looseL, List.length_map]
  apply S39_ok
  unfold S39
  refine ⟨rfl, newvar_i fun c3 w1 hc3 hz1 g1 V3 => ⟨rfl, newvar_i fun c4 w2 hc4 hz2 g2 V4 => newvar_i fun c6 w3 hc6 hz3 g3 V6 => ?_⟩⟩
  replace V3 := (V3.grow g2).grow g3
  replace V4 := V4.grow g3
  have g03 := (g1.trans g2).trans g3
  refine drawC_i (fun _ _ => False) ?_
  have gd : Grow w3 w3.drew := Mod.drew _ _
  have hRd := hR.grow (g03.trans gd)
  refine sld1_i ⟨gd.cell V3.1 fun h => h, fun j hj e => e.elim⟩ ?_
  refine callK_mono (ilen_ok (hT.grow (g03.trans gd)) hpl9) ?_
  rintro _ w4 ⟨rfl, g4⟩
  refine ⟨g4.mono fun _ _ h => h.elim, ?_⟩
  refine sld1_i ⟨gd.cell V4.1 fun h => h, fun j hj e => e.elim⟩ (nilckK_s ?_)
  rw [faK_i, addr0]
  refine sld1_i ⟨hRd.cells 1 _ rfl, fun j hj e => e.elim⟩ ?_
  rw [esv, lenK_i, addK_i]
  refine sld1_i ⟨gd.cell V4.1 fun h => h, fun j hj e => e.elim⟩ (nilckK_s ?_)
  rw [faK_i, addr0]
  refine sld1_i ⟨hRd.cells 3 _ rfl, fun j hj e => e.elim⟩ ?_
  rw [elv, lenK_i, subK_i, neK_i, hsim.1, hll]
  rw [wrap64 (x := 1 + (t.places.length : Int)) (by omega) (by omega), wrap64 (x := 1 + (t.places.length : Int) - t.free.length) (by omega) (by omega)]
  refine condK_neg (fun _ => ?_) fun e => (e rfl).elim
  refine newvar_i fun c7 w8 hc7 hz8 g8 V7 => ?_
  refine V7.st rfl rfl fun V7' m9 => ?_
  generalize w8.setCell ⟨c7, 0, none⟩ (.int .i64 0) = w9 at V7' m9 ⊢
  clear V7
  have z03 := g03.size
  have zd : w3.drew.heap.size = w3.heap.size := rfl
  have z4 := g4.size
  have z9 := m9.size
  have g39 : Grow w3 w9 := ((gd.trans g4).trans g8).next m9 fun x hx e => by omega
  replace V3 := V3.grow g39
  replace V4 := V4.grow g39
  replace V6 := V6.grow g39
  have g09 := g03.trans g39
  refine V3.ld ?_
  refine callK_mono (iall_ok (hT.grow g09) (by omega)) ?_
  rintro _ w11 ⟨cc, iv, rfl, hcc, Vc, hiv, g11⟩
  have z11 := g11.size
  have hiob := OwnR.ownB hiv
  have g011 := g09.trans g11
  replace V3 := V3.grow g11
  replace V4 := V4.grow g11
  replace V6 := V6.grow g11
  replace V7' := V7'.grow g11
  have hT11 := hT.grow g011
  have hR11 := hR.grow g011
  have hFG : ∀ x, F x ∨ G x → x < w.heap.size := fun x hx => hx.elim (hF x) (hG x)
  have hil := idl_len (P := hasT t) (t.places.length + 1)
  have hids : (idsT t).length = (idl (hasT t) (t.places.length + 1)).length := rfl
  refine ⟨True, _, _, _, _, _, rfl, by kernel_rfl, all_seq Vc hiv (by omega), fun k _ => rfl, ?_⟩
  refine ⟨fun k It W => ∃ n : Nat, n ≤ t.places.length + 1 ∧ (idl (hasT t) n).length = k ∧ Var W c7 (.int .i64 n) ∧ Var W c6 (.bool false) ∧ Mod (fun x => x = c7) w11 W, fun _ _ _ => False, ⟨0, by omega, rfl, V7', V6, Mod.refl _ _⟩, ?_, fun x It It' W W' h => h.elim, ?_, ?_, ?_, fun x It W h => h.elim⟩
  · rintro k It It' W W' ⟨n, q1, q2, q3, q4, q5⟩ hm _
    have := q3.lt
    have := q4.lt
    refine ⟨n, q1, q2, q3.mod hm ?_, q4.mod hm ?_, q5.next hm fun b hb => ?_⟩
    all_goals (rintro (⟨h, _⟩ | h | h); exact (h trivial).elim; all_goals omega)
  · rintro k It W ⟨n, q1, q2, q3, q4, q5⟩ x hx hxo
    exact q5.same x hx fun e => by have := (hiob x hxo).1; omega
  · rintro k It W hk ⟨n, hn, hcnt, V7, V6, m1⟩ hz hIt
    have zW := m1.size
    have hkn : n ≤ t.places.length := by
      refine Nat.le_of_not_lt fun h => ?_
      obtain rfl : n = t.places.length + 1 := by omega
      omega
    refine begK_i (Mod.refl (fun _ => False) _) hz hIt (fun _ _ h => h.elim) fun W2 hm2 => ?_
    have z2 := hm2.size
    have V7b := V7.mod hm2 (by have := V7.lt; omega)
    have V6b := V6.mod hm2 (by have := V6.lt; omega)
    have m2 : Mod (fun x => x = c7) w11 W2 := m1.next hm2 fun x hx e => by omega
    have hItl : ∀ x, It x → x < W2.heap.size ∧ w11.heap.size + 2 ≤ x := fun x hx => ⟨by have := (hIt x hx).1; omega, (hIt x hx).2⟩
    clear V7 V6 m1 hm2
    refine LoopK_i (fun _ W1 => ∃ n : Nat, n ≤ t.places.length ∧ (idl (hasT t) n).length = k ∧ Var W1 c7 (.int .i64 n) ∧ Var W1 c6 (.bool false) ∧ Mod (fun x => x = c7) W2 W1) (fun _ W1 => match W1.cell? ⟨c7, 0, none⟩ with | some (.int _ x) => ((t.places.length : Int) + 1 - x).toNat | _ => 0) ⟨n, hkn, hcnt, V7b, V6b, Mod.refl _ _⟩ ?_
    rintro _ W1 ⟨n, hn, hcnt, V7, V6, m1⟩ _
    have mw : Mod (fun x => x = c7) w11 W1 := m2.trans m1
    have z1 := m1.size
    have hT1 := hT11.mod mw (fun x hx e => by have := hFG x (.inl hx); omega)
    have hR1 := hR11.mod mw (fun x hx e => by have := hFG x (.inr hx); omega)
    have V3a := V3.mod mw (by omega)
    have V4a := V4.mod mw (by omega)
    refine V4a.ld (V7.ld ?_)
    refine callK_mono (rhas_ok hR1 (by rw [hhl]; omega) (by omega)) ?_
    rintro _ _ ⟨rfl, rfl⟩
    rename World => W1
    rw [hasR_ask, notK_i]
    cases hhas : hasT t n with
    | false =>
      have hh : (t.ask [] (n : Int)).isSome = false := hhas
      rw [hh]
      have hlt : n < t.places.length := by
        refine Nat.lt_of_le_of_ne hn fun e => ?_
        subst e
        have := idl_succ (P := hasT t) (n := t.places.length)
        rw [hhas] at this
        simp only [Bool.false_eq_true, if_false, Nat.add_zero] at this
        omega
      refine condK_t (V7.ld ?_)
      rw [addK_i, wrap64 (by omega) (by omega)]
      refine V7.st rfl rfl fun V7' m3 => ?_
      generalize W1.setCell ⟨c7, 0, none⟩ (.int .i64 ((n : Int) + 1)) = W3 at V7' m3 ⊢
      have V4c := V4a.mod m3 (by omega)
      have hR3 := hR1.mod m3 (fun x hx e => by have := hFG x (.inr hx); omega)
      refine drawK_i (fun W' => Grow W3 W') (Mod.drew _ _) ?_
      refine qld1K_i (fun w2 g => (V7'.grow g).1) ?_
      refine qld1K_i (fun w2 g => (V4c.grow g).1) (nilckK_s ?_)
      rw [faK_i, addr0]
      refine qld1K_i (fun w2 g => g.cell (hR3.cells 1 _ rfl) fun h => h) ?_
      rw [esv, lenK_i, gtK_i]
      intro W4 g4
      refine condK_p (fun e => by rw [hsim.1] at e; omega) fun _ => ?_
      have V7'' := V7'.grow g4
      refine ⟨⟨n + 1, by omega, ?_, V7'', (V6.mod m3 (by omega)).grow g4, (m1.trans m3).next g4 fun _ _ h => h.elim⟩, ?_⟩
      · rw [idl_succ, hhas]; simpa using hcnt
      · rw [V7.1, V7''.1]
        dsimp only
        omega
    | true =>
      have hh : (t.ask [] (n : Int)).isSome = true := hhas
      obtain ⟨p, hp⟩ := Option.isSome_iff_exists.1 hh
      rw [hh]
      refine condK_f (V7.ld ?_)
      have hidk : (idsT t)[k]? = some (n : Int) := by rw [← hcnt]; exact idl_get (by omega) hhas
      simp only [nth_z, List.headD_cons]
      rw [hidk, Option.getD_some, neK_i]
      refine condK_neg (fun _ => ?_) fun e => (e rfl).elim
      refine V7.ld ?_
      rw [addK_i, wrap64 (by omega) (by omega)]
      refine V7.st rfl rfl fun V7' m3 => ?_
      generalize W1.setCell ⟨c7, 0, none⟩ (.int .i64 ((n : Int) + 1)) = W3 at V7' m3 ⊢
      have mw3 : Mod (fun x => x = c7) w11 W3 := mw.trans m3
      have V3c := V3a.mod m3 (by omega)
      have V4c := V4a.mod m3 (by omega)
      have V6c := V6.mod m3 (by omega)
      have hR3 := hR1.mod m3 (fun x hx e => by have := hFG x (.inr hx); omega)
      have hT3 := hT1.mod m3 (fun x hx e => by have := hFG x (.inl hx); omega)
      have z3 := m3.size
      refine V3c.ld ?_
      refine callK_mono (iset_ok hT3 hpl9 (by omega) (by omega)) ?_
      rintro v55 W5 ⟨g5, hset⟩
      rw [hp] at hset
      obtain ⟨s5, rfl, ho5⟩ := hset
      refine extK_i (vs := [_, _]) (by rfl) (extK_i (vs := [_, _]) (by rfl) ?_)
      refine (V4c.grow g5).ld (nilckK_s ?_)
      rw [faK_i, addr0]
      have hR5 := hR3.grow g5
      refine ld1K_i (hR5.cells 4 _ rfl) ?_
      refine JoinK_i (fun vs W6 => ∃ wv, vs = [.int .i64 p.held, wv] ∧ RSet C W6 wv p.set ∧ Grow W5 W6) ?_ ?_
      rotate_left
      · rw [gtK_i]
        refine condK_p (fun hpos => ?_) fun hz0 => ?_
        · obtain ⟨i, hi, hpi, hp0⟩ := Tab.ask_pos hp (by omega)
          have hlt := (List.getElem?_eq_some_iff.1 hpi).1
          refine drawK_i (fun W' => Grow W5 W') (Mod.drew _ _) ?_
          refine qld1K_i (fun w2 g => ((V4c.grow g5).grow g).1) (nilckK_s ?_)
          rw [faK_i, addr0]
          refine qld1K_i (fun w2 g => g.cell (hR5.cells 2 _ rfl) fun h => h) ?_
          rw [subK_i, wrap64 (by omega) (by omega), show ((n : Int) - 1) = (i : Int) by omega]
          have hlt2 : i < (heldL t).length := by rw [hhl]; exact hlt
          have hv0 : (heldL t)[i] = (p.held : Int) := by
            have := heldL_get (t := t) (i := i)
            rw [hpi, List.getElem?_eq_getElem hlt2] at this
            exact Option.some.inj this
          obtain ⟨a, c, e, _⟩ := hR5.helds.shape
          have hsl := hR5.helds.sl
          rw [e] at hsl ⊢
          obtain ⟨q, r, rfl, _, hr, hcc, hre⟩ := hsl.get hlt2
          refine ixK_n hlt2 ?_
          refine qld1K_i (fun w2 g => g.cell (hcc 0 (.int .i64 p.held) (by rw [show r = [.int .i64 (heldL t)[i]] from hre, hv0]; rfl)) fun h => h) ?_
          refine qld1K_i (fun w2 g => ((V4c.grow g5).grow g).1) (nilckK_s ?_)
          rw [faK_i, addr0]
          refine qld1K_i (fun w2 g => g.cell (hR5.cells 1 _ rfl) fun h => h) ?_
          rw [subK_i, wrap64 (by omega) (by omega), show ((n : Int) - 1) = (i : Int) by omega]
          have hlt3 : i < ss.length := by rw [hsim.1]; exact hlt
          have hss := hR5.sets.sl
          rw [esv] at hss ⊢
          obtain ⟨q', r', rfl, _, hr', hcc', u, rfl, hu⟩ := hss.get hlt3
          refine ixK_n hlt3 ?_
          refine qld1K_i (fun w2 g => g.cell (hcc' 0 u rfl) fun h => h) ?_
          intro W6 g6
          have hse : ss[i] = p.set := by
            have := hsim.2 i p hpi hp0
            rw [List.getElem?_eq_getElem hlt3] at this
            exact Option.some.inj this
          rw [hse] at hu
          exact ⟨u, rfl, hu.grow g6 (by decide) fun _ _ h => h, g6⟩
        · obtain rfl : n = 0 := by omega
          have : p = ⟨[], t.empty⟩ := by unfold Tab.ask at hp; rw [if_pos (by rfl)] at hp; exact (Option.some.inj hp).symm
          subst this
          exact ⟨_, rfl, SlR.nil, Mod.refl _ _⟩
      rintro _ W6 ⟨wv, rfl, hwv, g6⟩ _
      simp only [nth_s, nth_z, List.headD_cons, List.tail_cons]
      refine JoinK_i (fun _ W7 => Grow W6 W7) ?_ ?_
      rotate_left
      · rw [neK_i]
        refine condK_neg (fun _ => ?_) fun e => (e rfl).elim
        have ho6 : OSet W3.heap.size W6 s5 p.set := OSet.mod ho5 g6 fun _ _ _ h => h
        refine callK_mono (rsame_set (OwnR.sl ho6) hwv) ?_
        rintro _ W7 ⟨rfl, g7⟩
        rw [decide_eq_true rfl, notK_i]
        refine condK_f ((((V3c.grow g5).grow g6).grow g7).ld ?_)
        refine callK_mono (iheld_ok (((hT3.grow g5).grow g6).grow g7) hpl9 (by omega) (by omega)) ?_
        rintro _ W8 ⟨rfl, g8⟩
        rw [hp, neK_i]
        exact condK_neg (fun _ => g7.trans g8) fun e => (e rfl).elim
      rintro _ W7 g7 _
      have g57 := (g5.trans g6).trans g7
      have ho7 : OSet W3.heap.size W7 s5 p.set := OSet.mod ho5 (g6.trans g7) fun _ _ _ h => h
      have hob := OwnR.ownB ho7
      have hset64 : p.set.length ≤ 1099511627776 := by
        obtain ⟨C, sv, pl, fr, bm, h⟩ := hT
        have := ask_len h.core hp
        omega
      obtain ⟨s7a, s7c, es7, _⟩ := ho7.shape
      rw [show lenK s5 = lenK (.slice s7a p.set.length s7c) by rw [es7], lenK_i]
      refine inc_loop ho7 (by decide) hset64 (fun _ _ _ _ h => h) attr_get attr_set fun W8 l' _ m8 => ?_
      have z57 := g57.size
      have V7w : Var W8 c7 (.int .i64 ((n : Int) + 1)) := (V7'.grow g57).mod m8 fun e => by have := (hob _ e).1; omega
      have V6w : Var W8 c6 (.bool false) := (V6c.grow g57).mod m8 fun e => by have := (hob _ e).1; omega
      have m28 : Mod (fun x => x = c7) W2 W8 := ((m1.trans m3).next g57 fun _ _ h => h.elim).next m8 fun x hx e => by have := (hob _ e).1; omega
      refine ⟨kpW_i m28 (by omega) (fun x hx => (hItl x hx).1) fun x hx e => ⟨fun hI => by have := (hItl x hI).2; omega, by omega, by omega⟩, n + 1, by omega, ?_, V7w, V6w, m2.trans m28⟩
      rw [idl_succ, hhas]; simp only [if_true]; omega
  · rintro It W ⟨n, hn, hcnt, V7, V6, m1⟩ _ hz hd1
    dsimp only [nOf]
    refine LoopK_i (fun _ W1 => ∃ n : Nat, n ≤ t.places.length + 1 ∧ (idl (hasT t) n).length = (idsT t).length ∧ Var W1 c7 (.int .i64 n) ∧ Var W1 c6 (.bool false) ∧ Mod (fun x => x = c7) w11 W1 ∧ W1.heap[w11.heap.size]? = some (.deferred (some [])) ∧ w11.heap.size + 2 ≤ W1.heap.size) (fun _ W1 => match W1.cell? ⟨c7, 0, none⟩ with | some (.int _ x) => ((t.places.length : Int) + 2 - x).toNat | _ => 0) ⟨n, hn, hcnt, V7, V6, m1, hd1, hz⟩ ?_
    clear hd1 hz m1 V6 V7 hcnt hn
    rintro _ W1 ⟨n, hn, hcnt, V7, V6J, m1, hd1, hz⟩ _
    have hR1 := hR11.mod m1 (fun x hx e => by have := hFG x (.inr hx); omega)
    have V3a := V3.mod m1 (by omega)
    have V4a := V4.mod m1 (by omega)
    refine drawK_i (fun W' => Grow W1 W') (Mod.drew _ _) ?_
    refine qld1K_i (fun w2 g => (V7.grow g).1) ?_
    refine qld1K_i (fun w2 g => (V4a.grow g).1) (nilckK_s ?_)
    rw [faK_i, addr0]
    refine qld1K_i (fun w2 g => g.cell (hR1.cells 1 _ rfl) fun h => h) ?_
    rw [esv, lenK_i, leK_i]
    intro W2 g2
    have hR2 := hR1.grow g2
    refine condK_p (fun hle => ?_) fun hgt => ?_
    · refine (V4a.grow g2).ld ((V7.grow g2).ld ?_)
      refine callK_mono (rhas_ok hR2 (by rw [hhl]; omega) (by omega)) ?_
      rintro _ _ ⟨rfl, rfl⟩
      rename World => W2
      have hno : hasT t n = false := by
        cases hh : hasT t n with
        | false => rfl
        | true =>
          have h1 := idl_succ (P := hasT t) (n := n)
          have h2 := idl_mono (P := hasT t) (show n + 1 ≤ t.places.length + 1 by rw [hsim.1] at hle; omega)
          rw [hh] at h1
          simp only [if_true] at h1
          omega
      have hh : (t.ask [] (n : Int)).isSome = false := hno
      rw [hasR_ask, hh]
      refine condK_f ((V7.grow g2).ld ?_)
      rw [addK_i, wrap64 (by omega) (by omega)]
      refine (V7.grow g2).st rfl rfl fun V7' m3 => ?_
      have z2 := g2.size
      refine ⟨⟨n + 1, by rw [hsim.1] at hle; omega, by rw [idl_succ, hno]; simpa using hcnt, V7', (V6J.grow g2).mod m3 (by omega), (m1.next g2 fun _ _ h => h.elim).trans m3, ?_, ?_⟩, ?_⟩
      · rw [m3.same _ (by omega) (by omega), g2.same _ (by omega) fun h => h]; exact hd1
      · have := m3.size; omega
      · rw [V7.1, V7'.1]
        dsimp only
        rw [hsim.1] at hle
        omega
    refine (V3a.grow g2).ld ?_
    refine callK_mono (iall_ok (hT11.mod (m1.next g2 fun _ _ h => h.elim) (fun x hx e => by have := hFG x (.inl hx); omega)) (by omega)) ?_
    rintro _ w54 ⟨cc2, iv2, rfl, hcc2, Vc2, hiv2, g3⟩
    have g54 := g2.trans g3
    have hiob2 := OwnR.ownB hiv2
    refine ⟨True, _, _, _, _, _, rfl, by kernel_rfl, all_seq Vc2 hiv2 (by omega), fun k _ => rfl, ?_⟩
    refine ⟨fun k It W => Grow w54 W, fun x It W => x = .exit 8 ∧ Grow w54 W, Mod.refl _ _, ?_, ?_, ?_, ?_, ?_, ?_⟩
    · rintro k It It' W W' g hm _
      refine g.next hm fun b hb => ?_
      rintro (⟨h, _⟩ | h | h)
      · exact (h trivial).elim
      all_goals omega
    · rintro x It It' W W' ⟨e, g⟩ hm _
      refine ⟨e, g.next hm fun b hb => ?_⟩
      rintro (⟨h, _⟩ | h | h)
      · exact (h trivial).elim
      all_goals omega
    · intro k It W g x hx _
      exact g.same x hx fun h => h
    · intro k It W hk g hz2 hIt2
      refine begK_i (Mod.refl (fun _ => False) _) hz2 hIt2 (fun _ _ h => h.elim) fun W3 hm3 => ?_
      have := hm3.size
      exact ⟨kpW_i (Mod.refl (fun _ => False) _) (by omega) (fun x hx => by have := (hIt2 x hx).1; omega) (fun _ _ h => h.elim), rfl, g.next hm3 fun x hx e => by omega⟩
    · intro It2 W gJ _ hz2 hd
      dsimp only [nOf]
      have mW : Mod (fun x => x = c7) w11 W := ((m1.next (g54.mono (fun _ _ h => h.elim) : Mod (fun _ => False) W1 w54) fun _ _ h => h.elim).next gJ fun _ _ h => h.elim)
      have hMk : Marks (w54.heap.size :: (w11.heap.size :: [])) W := by
        refine Marks.cons (Marks.cons Marks.nil ?_ (by simp)) hd ?_
        · have e1 := (g54.trans gJ).same w11.heap.size (by have := m1.size; omega) fun h => h
          rw [e1]; exact hd1
        · have := m1.size; have := g54.size; simp; omega
      refine (V3.mod mW (by omega)).ld ?_
      have hTW := hT11.mod mW (fun x hx e => by have := hFG x (.inl hx); omega)
      have hRW := hR11.mod mW (fun x hx e => by have := hFG x (.inr hx); omega)
      refine callK_mono (iset_ok hTW hpl9 h0 h1) ?_
      rintro v57 W3 ⟨g57, hset⟩
      have hans : ∃ a, v57 = .tuple #[a, .int .i64 (if (t.ask [] id).isSome then 0 else 5)] := by
        cases ha : t.ask [] id with
        | some p => rw [ha] at hset; obtain ⟨s, e, _⟩ := hset; exact ⟨_, e⟩
        | none => rw [ha] at hset; exact ⟨_, hset⟩
      obtain ⟨a57, rfl⟩ := hans
      refine extK_i (vs := [_, _]) (by rfl) (extK_i (vs := [_, _]) (by rfl) ?_)
      rw [eqK_i]
      refine ((V4.mod mW (by omega)).grow g57).ld ?_
      refine callK_mono (rhas_ok (hRW.grow g57) (by rw [hhl]; omega) h1) ?_
      rintro _ _ ⟨rfl, rfl⟩
      rename World => W3
      rw [hasR_ask, beqK_i]
      have V6W : Var W3 c6 (.bool false) := (V6J.grow (g54.trans gJ)).grow g57
      -- how it ends
      have fin : ∀ {W4 : World}, Grow W3 W4 → st1K (.pointer (some ⟨c6, 0, none⟩)) (.bool true) (fun w63 => marksK (w54.heap.size :: (w11.heap.size :: [])) (fun w64 => ld1K (.pointer (some ⟨c6, 0, none⟩)) (fun r0 w65 => r0 = .bool true ∧ Grow w w65) w64) w63) W4 := by
        intro W4 g4
        refine (V6W.grow g4).st rfl rfl fun V6' m6 => ?_
        refine (((hMk.mod g57 fun _ _ h => h).mod g4 fun _ _ h => h).mod m6 fun x hx e => by
          have := m1.size; have := g54.size
          simp at hx; omega).done fun W5 m5 => ?_
        refine (V6'.mod m5 fun hx => by have := m1.size; have := g54.size; simp at hx; omega).ld ⟨rfl, ?_⟩
        refine ((((g011.next mW fun x hx e => by omega).trans g57).trans g4).next m6 fun x hx e => by omega).next m5 fun x hx e => ?_
        have := m1.size; have := g54.size; have := g011.size
        simp at e; omega
      cases ha : (t.ask [] id).isSome with
      | true =>
        rw [if_pos rfl]
        refine condK_t ?_
        rw [eqK_i]
        exact condK_t (fin (Mod.refl _ _))
      | false =>
        rw [if_neg (by simp)]
        refine condK_t ?_
        rw [eqK_i]
        refine condK_f ?_
        rw [eqK_i]
        refine condK_t ?_
        refine (((V3.mod mW (by omega)).grow g57)).ld ?_
        refine callK_mono (iheld_ok (hTW.grow g57) hpl9 h0 h1) ?_
        rintro _ W4 ⟨rfl, g4⟩
        have hn : t.ask [] id = none := by simpa using ha
        rw [hn, eqK_i]
        exact fin g4
    · rintro _ It2 W ⟨rfl, gJ⟩ _ hz2 hd
      dsimp only [nOf, lookN]
      have mW : Mod (fun x => x = c7) w11 W := ((m1.next (g54.mono (fun _ _ h => h.elim) : Mod (fun _ => False) W1 w54) fun _ _ h => h.elim).next gJ fun _ _ h => h.elim)
      have hMk : Marks (w54.heap.size :: (w11.heap.size :: [])) W := by
        refine Marks.cons (Marks.cons Marks.nil ?_ (by simp)) hd ?_
        · have e1 := (g54.trans gJ).same w11.heap.size (by have := m1.size; omega) fun h => h
          rw [e1]; exact hd1
        · have := m1.size; have := g54.size; simp; omega
      refine (V3.mod mW (by omega)).ld ?_
      have hTW := hT11.mod mW (fun x hx e => by have := hFG x (.inl hx); omega)
      have hRW := hR11.mod mW (fun x hx e => by have := hFG x (.inr hx); omega)
      refine callK_mono (iset_ok hTW hpl9 h0 h1) ?_
      rintro v57 W3 ⟨g57, hset⟩
      have hans : ∃ a, v57 = .tuple #[a, .int .i64 (if (t.ask [] id).isSome then 0 else 5)] := by
        cases ha : t.ask [] id with
        | some p => rw [ha] at hset; obtain ⟨s, e, _⟩ := hset; exact ⟨_, e⟩
        | none => rw [ha] at hset; exact ⟨_, hset⟩
      obtain ⟨a57, rfl⟩ := hans
      refine extK_i (vs := [_, _]) (by rfl) (extK_i (vs := [_, _]) (by rfl) ?_)
      rw [eqK_i]
      refine ((V4.mod mW (by omega)).grow g57).ld ?_
      refine callK_mono (rhas_ok (hRW.grow g57) (by rw [hhl]; omega) h1) ?_
      rintro _ _ ⟨rfl, rfl⟩
      rename World => W3
      rw [hasR_ask, beqK_i]
      have V6W : Var W3 c6 (.bool false) := (V6J.grow (g54.trans gJ)).grow g57
      -- how it ends
      have fin : ∀ {W4 : World}, Grow W3 W4 → st1K (.pointer (some ⟨c6, 0, none⟩)) (.bool true) (fun w63 => marksK (w54.heap.size :: (w11.heap.size :: [])) (fun w64 => ld1K (.pointer (some ⟨c6, 0, none⟩)) (fun r0 w65 => r0 = .bool true ∧ Grow w w65) w64) w63) W4 := by
        intro W4 g4
        refine (V6W.grow g4).st rfl rfl fun V6' m6 => ?_
        refine (((hMk.mod g57 fun _ _ h => h).mod g4 fun _ _ h => h).mod m6 fun x hx e => by
          have := m1.size; have := g54.size
          simp at hx; omega).done fun W5 m5 => ?_
        refine (V6'.mod m5 fun hx => by have := m1.size; have := g54.size; simp at hx; omega).ld ⟨rfl, ?_⟩
        refine ((((g011.next mW fun x hx e => by omega).trans g57).trans g4).next m6 fun x hx e => by omega).next m5 fun x hx e => ?_
        have := m1.size; have := g54.size; have := g011.size
        simp at e; omega
      cases ha : (t.ask [] id).isSome with
      | true =>
        rw [if_pos rfl]
        refine condK_t ?_
        rw [eqK_i]
        exact condK_t (fin (Mod.refl _ _))
      | false =>
        rw [if_neg (by simp)]
        refine condK_t ?_
        rw [eqK_i]
        refine condK_f ?_
        rw [eqK_i]
        refine condK_t ?_
        refine (((V3.mod mW (by omega)).grow g57)).ld ?_
        refine callK_mono (iheld_ok (hTW.grow g57) hpl9 h0 h1) ?_
        rintro _ W4 ⟨rfl, g4⟩
        have hn : t.ask [] id = none := by simpa using ha
        rw [hn, eqK_i]
        exact fin g4
end Go.Proofs.YtmfplfaeibehiaaDoor

namespace Go.K
open Go
theorem Tab.Added.uniq {α : Type} {t t1 t2 : Tab α} {z s : α} {id1 id2 : Int} {G : α → Prop} (hi : t.Inv G) (h1 : t.Added z s id1 t1) (h2 : t.Added z s id2 t2) : id1 = id2 ∧ t1 = t2 := by
  rcases h2 with ⟨rfl, rfl, rfl⟩ | ⟨hz, i, n, hp, hn, rfl, rfl⟩ | ⟨hz, hno, rfl, rfl⟩
  · exact h1.empty
  · exact h1.old hi hz hp hn
  · exact h1.new hz hno
end Go.K
namespace Go.Proofs.YtmfplfaeibehiaaDoor
open Go Go.K

/-- a call of the law's script -/
structure SOp where
  kind : Int
  id : Int
  set : List Attr
def RSOp (S : Nat → Prop) : World → List Value → SOp → Prop := fun w r x => ∃ sv, r = [.int .i64 x.kind, .int .i64 x.id, sv] ∧ RSet S w sv x.set
/-- what may be of the sorted keys is what may be of the keys -/
theorem maySet_perm {keys ks : List DKey} (hp : ks.Perm keys) (hs : ks.Pairwise fun x y => x.id < y.id) (l : List Attr) : maySet keys l = maySet ks l := by
  have hf : ∀ id, findK keys id = findK ks id := fun id => (findK_perm hp (strict_dist hs) id).symm
  have : SetNoKey keys l = SetNoKey ks l := by
    unfold SetNoKey FitsK
    simp only [hf]
  classical
  unfold maySet
  simp only [this]
/-- the two tables while the law runs -/
structure PI (w W : World) (b b' : Nat) (kv : Value) (ks : List DKey) (t : Tab (List Attr)) (F G : Nat → Prop) (N : Nat) : Prop where
  tab : L w F W b ks t
  ref : RefT G W b' kv t
  hG : ∀ x, G x → w.heap.size ≤ x ∧ x < W.heap.size
  dis : ∀ x, F x → ¬ G x
  small : t.Small N
section
variable {w W W' : World} {b b' : Nat} {kv : Value} {ks : List DKey} {t t' : Tab (List Attr)} {F F' G : Nat → Prop} {N N' : Nat}
theorem PI.grow (h : PI w W b b' kv ks t F G N) (g : Grow W W') : PI w W' b b' kv ks t F G N :=
  ⟨h.tab.grow g, h.ref.grow g, fun x hx => ⟨(h.hG x hx).1, Nat.lt_of_lt_of_le (h.hG x hx).2 g.size⟩, h.dis, h.small⟩
theorem PI.le (h : PI w W b b' kv ks t F G N) (hn : N ≤ N') : PI w W b b' kv ks t F G N' := ⟨h.tab, h.ref, h.hG, h.dis, h.small.le hn⟩
theorem PI.mod {M : Nat → Prop} (h : PI w W b b' kv ks t F G N) (hm : Mod M W W') (hM : ∀ x, M x → ¬ F x ∧ ¬ G x ∧ w.heap.size ≤ x) : PI w W' b b' kv ks t F G N :=
  ⟨h.tab.mod hm fun x hx => ⟨(hM x hx).1, (hM x hx).2.2⟩, h.ref.mod hm fun x hx e => (hM x e).2.1 hx, fun x hx => ⟨(h.hG x hx).1, Nat.lt_of_lt_of_le (h.hG x hx).2 hm.size⟩, h.dis, h.small⟩
/-- the table turned, then the document's -/
theorem PI.both {W2 : World} (h : PI w W b b' kv ks t F G N) (hL : L w F' W' b ks t') (hF : ∀ x, F' x → F x ∨ W.heap.size ≤ x) (hm : Mod F W W') (hr : RAfter G W' W2 b' kv t') (hs : t'.Small N') :
    ∃ G', PI w W2 b b' kv ks t' F' G' N' ∧ (∀ x, G' x → G x ∨ W'.heap.size ≤ x) := by
  obtain ⟨G', h1, h2, h3⟩ := hr
  have z1 := hm.size
  have z2 := h3.size
  have dG : ∀ x, G x → ¬ F' x := fun x hx hf => by
    rcases hF x hf with e | e
    · exact h.dis x e hx
    · have := (h.hG x hx).2; omega
  refine ⟨G', ⟨hL.mod h3 fun x hx => ⟨dG x hx, (h.hG x hx).1⟩, h2, fun x hx => ?_, fun x hf hx => ?_, hs⟩, fun x hx => (h1 x hx).imp id fun e => e.1⟩
  · rcases h1 x hx with e | e
    · have := h.hG x e; exact ⟨this.1, by omega⟩
    · have := h.tab.g.size; exact ⟨by omega, e.2⟩
  · rcases h1 x hx with e | e
    · exact dG x e hf
    · have := (hL.hF x hf).2; omega
end
set_option maxRecDepth 20000 in
theorem InternPlays_ok {S1 S3 S4 : Nat → Prop} {kv lv : Value} {keys : List DKey} {ls : List SOp} {w : World} (hT : Tabs w) (hk : RKeys S1 w kv keys) (hl : SlR S3 3 (RSOp S4) w lv ls) (hlI : ∀ x ∈ ls, (-9223372036854775808 ≤ x.id ∧ x.id ≤ 9223372036854775807) ∧ ∀ a ∈ x.set, InA a ∧ a.val.s.size * 4 ≤ 140737488355328) :
    callK Tryd.prog 10 [kv, lv] (fun v w' => v = .bool true ∧ Grow w w') w := by
  classical
  apply S10_ok
  unfold S10
  have kn : ∀ {w1 : World}, Grow w w1 → callK Tryd.prog 24 [] (fun v w' => v = .bool true ∧ Grow w w') w1 := fun g => callK_mono (known07_ok (hT.grow g)) fun _ _ h => ⟨h.1, g.trans h.2⟩
  refine callK_mono (new_key_ok hk) ?_
  rintro _ w1 ⟨g1, hr⟩
  obtain ⟨la, lc, rfl, hlm⟩ := hl.shape
  have hk1 := (hk.old (by decide)).grow g1 (by decide) fun _ _ h => h
  rcases hr with ⟨hM, sch, ks, rfl, hp, hsr, hS⟩ | ⟨hn, rfl⟩
  rotate_left
  · refine extK_i (vs := [_, _]) (by rfl) (extK_i (vs := [_, _]) (by rfl) ?_)
    refine JoinK_i (fun _ _ => False) (fun _ _ h => h.elim) ?_
    rw [neK_i]
    refine condK_neg (fun e => by cases e) fun _ => ?_
    rw [eqK_i]
    refine callK_mono (rmay_ok hk1) ?_
    rintro _ w2 ⟨rfl, g2⟩
    rw [decide_eq_false hn, beqK_i]
    exact condK_t (kn (g1.trans g2))
  refine extK_i (vs := [_, _]) (by rfl) (extK_i (vs := [_, _]) (by rfl) ?_)
  refine JoinK_i (fun _ W => W = w1 ∧ ls.length ≤ 100) ?_ ?_
  rotate_left
  · rw [neK_i]
    refine condK_neg (fun _ => ?_) fun e => (e rfl).elim
    rw [lenK_i, gtK_i]
    refine condK_p (fun _ => ?_) fun h60 => ⟨rfl, by omega⟩
    rw [eqK_i]
    refine callK_mono (rmay_ok hk1) ?_
    rintro _ w2 ⟨rfl, g2⟩
    rw [decide_eq_true hM, beqK_i]
    exact condK_t (kn (g1.trans g2))
  rintro _ _ ⟨rfl, hl100⟩ _
  rename World => w1
  refine callK_mono (L.new hS (fun x _ hx => hx) g1) ?_
  rintro _ w3 ⟨b, F3, rfl, hL3, _⟩
  obtain ⟨ka, kc, ek, _⟩ := hk.shape
  have z3 := hL3.g.size
  refine ⟨(refL kv (.slice none 0 0) (.slice none 0 0) (.slice none 0 0) 0).toArray, by rw [ek]; kernel_rfl, ?_⟩
  refine boxn_i (vs := refL kv (.slice none 0 0) (.slice none 0 0) (.slice none 0 0) 0) fun b' w4 hb' hz4 g4 hc4 hl4 => ?_
  have hP0 : PI w w4 b b' kv ks (Tab.z _) F3 (fun x => x = b') 0 := by
    refine ⟨hL3.grow g4, ⟨fun _ => False, .slice none 0 0, .slice none 0 0, .slice none 0 0, [], ⟨fun j v hv => by have := hc4 j v hv; rwa [addr0] at this, fun j hj => by have := hl4 j hj; rwa [addr0] at this, OwnR.nil, OwnR.nil, OwnR.nil, ⟨rfl, fun h => h⟩, fun g hg => (nomatch hg), fun g hg => (nomatch hg), fun g hg => (nomatch hg), fun x h => h.elim⟩, rfl, fun i p hp => by simp [Tab.z] at hp⟩, fun x hx => by subst hx; omega, fun x hx e => by have := (hL3.hF x hx).2; omega, ⟨by simp [Tab.z], by simp [Tab.z], by simp [Tab.z]⟩⟩
  refine pnilK_s (condK_f ?_)
  rw [lenK_i]
  refine LoopK_i (fun vs W => ∃ (i : Nat) (t : Tab (List Attr)) (F G : Nat → Prop), i ≤ ls.length ∧ vs = [.int .i64 i] ∧ PI w W b b' kv ks t F G i) (fun vs _ => ls.length - iOf vs 0) ⟨0, _, F3, _, Nat.zero_le _, rfl, hP0⟩ ?_
  rintro vs W ⟨i, t, F, G, hi, rfl, P⟩ _
  rw [nth_z, List.headD_cons, ltK_i]
  refine condK_p (fun hlt => ?_) fun hge => kn P.tab.g
  have hlt' : i < ls.length := by omega
  obtain ⟨p, rr, rfl, _, hrl, hc, sv, rfl, hx⟩ := hl.get hlt'
  obtain ⟨⟨hid0, hid1⟩, hxI⟩ := hlI ls[i] (List.getElem_mem hlt')
  obtain ⟨xa, xc, rfl, _⟩ := hx.shape
  generalize ls[i] = x at hx hxI hc hid0 hid1 hrl
  refine ixK_n hlt' (ldnK_i hrl (fun j u hu => by rw [Addr.add_add]; exact P.tab.g.cell (hc j u hu) fun h => h) ?_)
  refine newst_n (vs := [.int .i64 x.kind, .int .i64 x.id, .slice xa x.set.length xc]) rfl rfl (fun u hu => by simp at hu; rcases hu with rfl | rfl | rfl <;> rfl) fun b10 w5 hb10 hz5 g5 hc5 _ => ?_
  have hlen := P.small
  have P5 := P.grow g5
  have zW := P.tab.g.size
  have b10F : ¬ F b10 := fun h => by have := (P.tab.hF b10 h).2; omega
  have b10G : ¬ G b10 := fun h => by have := (P.hG b10 h).2; omega
  have hx0 : RSet (fun y => y < w.heap.size) w (.slice xa x.set.length xc) x.set := (hx.old (by decide)).sub (fun _ _ h => h.2) (by decide) fun _ _ h => h
  -- the next call
  refine JoinK_i (fun vs W6 => vs = [.int .i64 (if (t.ask [] x.id).isSome then 0 else 5)] ∧ W6 = w5) ?_ ?_
  rotate_left
  · rw [faK_i]
    refine ld1K_i (hc5 1 _ rfl) ?_
    obtain ⟨C, rsv, rhv, rlv, ss, hR, hsim⟩ := P5.ref
    refine callK_mono (rhas_ok hR (by have := P.small.pl; rw [heldL, List.length_map]; omega) hid1) ?_
    rintro _ _ ⟨rfl, rfl⟩
    rename World => w5
    rw [hasR_ask, notK_i]
    cases (t.ask [] x.id).isSome with
    | true => exact condK_f ⟨rfl, rfl⟩
    | false => exact condK_t ⟨rfl, rfl⟩
  rintro _ _ ⟨rfl, rfl⟩ _
  rename World => w5
  rw [nth_z, List.headD_cons]
  refine JoinK_i (fun _ W6 => ∃ (t' : Tab (List Attr)) (F' G' : Nat → Prop), PI w W6 b b' kv ks t' F' G' (i + 1) ∧ (∀ j v, ([.int .i64 x.kind, .int .i64 x.id, .slice xa x.set.length xc] : List Value)[j]? = some v → W6.cell? ((⟨b10, 0, none⟩ : Addr).add j) = some v)) ?_ ?_
  · rintro _ W6 ⟨t', F', G', P6, hc6⟩ _
    rw [faK_i]
    refine ld1K_i (hc6 1 _ rfl) ?_
    refine callK_mono (looked_ok P6.tab.tab P6.ref (fun x hx => (P6.tab.hF x hx).2) (fun x hx => (P6.hG x hx).2) (P6.small.le (by omega)) hid0 hid1) ?_
    rintro _ W7 ⟨rfl, g7⟩
    rw [notK_i]
    refine condK_f ?_
    rw [addK_i, loop_step (by omega)]
    exact ⟨⟨i + 1, t', F', G', hlt', rfl, P6.grow g7⟩, by rw [iOf0, iOf0]; omega⟩
  have stay : ∀ {W6 : World} {t' : Tab (List Attr)} {F' G' : Nat → Prop} {M : Nat → Prop}, PI w W6 b b' kv ks t' F' G' (i + 1) → Mod M w5 W6 → ¬ M b10 → ∃ (t' : Tab (List Attr)) (F' G' : Nat → Prop), PI w W6 b b' kv ks t' F' G' (i + 1) ∧ (∀ j v, ([.int .i64 x.kind, .int .i64 x.id, .slice xa x.set.length xc] : List Value)[j]? = some v → W6.cell? ((⟨b10, 0, none⟩ : Addr).add j) = some v) := by
    intro W6 t' F' G' M hP hm hM
    exact ⟨t', F', G', hP, fun j v hv => hm.cell (hc5 j v hv) (by rw [add_block]; exact hM)⟩
  have pl100 : t.Small 1099511627 := P.small.le (by omega)
  rw [faK_i]
  refine ld1K_i (hc5 0 _ rfl) ?_
  rw [eqK_i]
  refine condK_p (fun hk1' => ?_) fun hk1' => ?_
  · -- Add
    rw [faK_i]
    refine ld1K_i (hc5 2 _ rfl) ?_
    rw [lenK_i, gtK_i]
    refine condK_p (fun _ => ?_) fun h70 => ?_
    · rw [addK_i, loop_step (by omega)]
      exact ⟨⟨i + 1, t, F, G, hlt', rfl, P5.le (by omega)⟩, by rw [iOf0, iOf0]; omega⟩
    refine rowK_empty ?_
    have ga : Grow w5 (w5.alloc (.cells #[] 56)) := Mod.alloc _ _ _
    have hbx := alloc_get w5 (.cells #[] 56)
    have hza : (w5.alloc (.cells #[] 56)).heap.size = w5.heap.size + 1 := by simp
    change (w5.alloc (.cells #[] 56)).heap[w5.heap.size]? = some (.cells #[] 56 (0, 0)) at hbx
    generalize w5.alloc (.cells #[] 56) = wa at ga hbx hza ⊢
    rw [faK_i]
    refine ld1K_i (ga.cell (hc5 2 _ rfl) fun h => h) ?_
    obtain ⟨cv, w7, hrun, ho7, g7, _⟩ := append_new (ty := 53) elem_attr hbx (hx0.grow (P5.tab.g.trans ga) (by decide) fun _ _ h => h) (fun _ _ _ => RAttr.one) (by omega) (fun _ _ _ _ h => h)
    refine runK_i hrun ?_
    have g57 := ga.trans g7
    have P7 := P5.grow g57
    have hob := OwnR.ownB ho7
    have z7 := g7.size
    refine callK_mono (P7.tab.add pl100 hT (OwnR.sl ho7) (fun a ha => (hxI a ha).1) fun y hy hf => by have := (P5.tab.hF y hf).2; omega) ?_
    have hk7 : ∀ {W8 : World}, Grow w W8 → RKeys (fun y => S1 y ∧ y < w.heap.size) W8 kv keys := fun g => (hk.old (by decide)).grow g (by decide) fun _ _ h => h
    have inv7 := P7.tab.inv
    -- the loop over what was handed in
    have loop : ∀ {W9 : World} {t' : Tab (List Attr)} {F' G' : Nat → Prop} {M : Nat → Prop}, PI w W9 b b' kv ks t' F' G' (i + 1) → Mod M w7 W9 → (∀ y, cv.ownBlock = some y → ¬ M y ∧ ¬ F' y ∧ ¬ G' y) → ¬ M b10 → lenK cv fun t90 => LoopK [.int .i64 0] (fun vs_5 again_1 w22 => ∀ _h_5 : Env, ltK .i64 (nth vs_5 0) t90 fun t92 => condK t92
        (ixK 5 cv (nth vs_5 0) fun t96 => faK 0 t96 fun t97 => ld1K t97 (fun t98 w23 => addK .i64 t98 (.int .i64 1) fun t99 => ixK 5 cv (nth vs_5 0) fun t100 => faK 0 t100 fun t101 => st1K t101 t99 (fun w24 => addK .i64 (nth vs_5 0) (.int .i64 1) fun t102 => again_1 [t102] w24) w23) w22)
        (∃ (t' : Tab (List Attr)) (F' G' : Nat → Prop), PI w w22 b b' kv ks t' F' G' (i + 1) ∧ (∀ j v, ([.int .i64 x.kind, .int .i64 x.id, .slice xa x.set.length xc] : List Value)[j]? = some v → w22.cell? ((⟨b10, 0, none⟩ : Addr).add j) = some v))) W9 := by
      intro W9 t' F' G' M hP hm hc hb
      have ho9 : OSet w5.heap.size W9 cv x.set := OwnR.mod ho7 hm (fun y hy => (hc y hy).1) fun _ _ _ h => h
      obtain ⟨ca, cc, ecv, _⟩ := ho9.shape
      rw [show lenK cv = lenK (.slice ca x.set.length cc) by rw [ecv], lenK_i]
      refine inc_loop ho9 (by decide) (by omega) (fun _ _ _ _ h => h) attr_get attr_set fun W l' _ m8 => ?_
      refine stay (M := fun y => M y ∨ cv.ownBlock = some y) (hP.mod m8 fun y hy => ⟨(hc y hy).2.1, (hc y hy).2.2, by have := (hob y hy).1; omega⟩) (((g57.mono fun _ _ h => h.elim).trans (hm.mono fun _ _ h => .inl h)).trans (m8.mono fun _ _ h => .inr h)) fun e => ?_
      rcases e with e | e
      · exact hb e
      · have := (hob b10 e).1; omega
    rintro v8 w8 (⟨h1, rfl, g8, hL8⟩ | ⟨hm8, k, t8, F8, rfl, ha8, hL8, hF8, m8⟩)
    · refine extK_i (vs := [_, _]) (by rfl) (extK_i (vs := [_, _]) (by rfl) ?_)
      rw [faK_i]
      refine ld1K_i ((g57.trans g8).cell (hc5 2 _ rfl) fun h => h) ?_
      have P8 := P7.grow g8
      refine callK_mono (radd_ok P8.ref pl100 inv7 (fun y hy => (P8.hG y hy).2) (hk7 P8.tab.g) (hx0.grow P8.tab.g (by decide) fun _ _ h => h) (fun y _ hy hg => by have := (P.hG y hg).1; omega) (fun a ha => (hxI a ha).2) (by omega)) ?_
      rintro v9 w9 (⟨_, rfl, g9⟩ | ⟨h2, _⟩)
      rotate_left
      · rw [maySet_perm hp hsr] at h2; exact absurd h2 h1
      refine extK_i (vs := [_, _]) (by rfl) (extK_i (vs := [_, _]) (by rfl) ?_)
      refine JoinK_i (fun _ W9 => W9 = w9) ?_ ?_
      · rintro _ _ rfl _
        exact loop (M := fun _ => False) ((P8.grow g9).le (by omega)) (g8.trans g9) (fun y hy => ⟨fun h => h, fun hf => by have := (P5.tab.hF y hf).2; have := (hob y hy).1; omega, fun hf => by have := (P5.hG y hf).2; have := (hob y hy).1; omega⟩) fun h => h
      · rw [neK_i]
        refine condK_neg (fun _ => ?_) fun e => (e rfl).elim
        rw [neK_i]
        exact condK_neg (fun _ => rfl) fun e => (e (maySet_perm hp hsr x.set).symm).elim
    · refine extK_i (vs := [_, _]) (by rfl) (extK_i (vs := [_, _]) (by rfl) ?_)
      rw [faK_i]
      have m58 : Mod F w5 w8 := (g57.mono fun _ _ h => h.elim).trans m8
      refine ld1K_i (m58.cell (hc5 2 _ rfl) (by rw [add_block]; exact b10F)) ?_
      have hR8 : RefT G w8 b' kv t := P7.ref.mod m8 fun y hy hf => P.dis y hf hy
      have z8 := m8.size
      refine callK_mono (radd_ok hR8 pl100 inv7 (fun y hy => by have := (P7.hG y hy).2; omega) (hk7 hL8.g) (hx0.grow hL8.g (by decide) fun _ _ h => h) (fun y _ hy hg => by have := (P.hG y hg).1; omega) (fun a ha => (hxI a ha).2) (by omega)) ?_
      rintro v9 w9 (⟨h2, _⟩ | ⟨_, k9, t9, rfl, ha9, hr9⟩)
      · rw [maySet_perm hp hsr] at h2; exact absurd hm8 h2
      obtain ⟨rfl, rfl⟩ := Tab.Added.uniq inv7 ha8 ha9
      refine extK_i (vs := [_, _]) (by rfl) (extK_i (vs := [_, _]) (by rfl) ?_)
      obtain ⟨G9, hG9, hR9, m9⟩ := hr9
      obtain ⟨G10, P9, hG10⟩ := P7.both hL8 hF8 m8 ⟨G9, hG9, hR9, m9⟩ (P.small.added ha8)
      refine JoinK_i (fun _ W9 => W9 = w9) ?_ ?_
      · rintro _ _ rfl _
        refine loop (M := fun y => F y ∨ G y) P9 ((m8.mono fun y _ h => .inl h).trans (m9.mono fun y _ h => .inr h)) (fun y hy => ?_) fun e => e.elim b10F b10G
        have hy1 := hob y hy
        have hz5' := ga.size
        have nF : ¬ F y := fun h => by have := (P5.tab.hF y h).2; omega
        have nG : ¬ G y := fun h => by have := (P5.hG y h).2; omega
        refine ⟨fun e => e.elim nF nG, fun h => ?_, fun h => ?_⟩
        · rcases hF8 y h with e | e
          · exact nF e
          · omega
        · rcases hG10 y h with e | e
          · exact nG e
          · omega
      · rw [neK_i]
        refine condK_neg (fun _ => ?_) fun e => (e rfl).elim
        rw [neK_i]
        exact condK_neg (fun _ => rfl) fun e => (e rfl).elim
  · rw [eqK_i]
    refine condK_p (fun hk2' => ?_) fun hk2' => ?_
    · -- Free
      rw [faK_i]
      refine ld1K_i (hc5 1 _ rfl) ?_
      refine callK_mono (P5.tab.free pl100 hid0 hid1) ?_
      rintro _ w6 ⟨rfl, F6, hL6, hF6, m6⟩
      rw [neK_i]
      refine condK_neg (fun _ => ?_) fun e => (e rfl).elim
      have hR6 : RefT G w6 b' kv t := P5.ref.mod m6 fun y hy hf => P.dis y hf hy
      cases ha : t.ask [] x.id with
      | none =>
        have et : t.release [] x.id = t := by unfold Tab.release; rw [ha]
        rw [et] at hL6
        rw [eqK_i]
        refine condK_f ?_
        refine stay (t' := t) (F' := F6) (G' := G) ⟨hL6, hR6, fun y hy => ⟨(P5.hG y hy).1, Nat.lt_of_lt_of_le (P5.hG y hy).2 m6.size⟩, fun y hf hy => ?_, P.small.le (by omega)⟩ m6 b10F
        rcases hF6 y hf with e | e
        · exact P.dis y e hy
        · have := (P5.hG y hy).2; omega
      | some q =>
        rw [eqK_i]
        refine condK_t ?_
        rw [faK_i]
        refine ld1K_i (m6.cell (hc5 1 _ rfl) (by rw [add_block]; exact b10F)) ?_
        refine callK_mono (rfree_ok hR6 pl100 P5.tab.inv (by rw [ha]; rfl)) ?_
        intro _ w7 hr7
        obtain ⟨G7, P7, _⟩ := P5.both (N' := i + 1) hL6 hF6 m6 hr7 (P.small.release.le (by omega))
        refine stay P7 ((m6.mono fun y _ h => .inl h).trans (hr7.choose_spec.2.2.mono fun y _ h => .inr h) : Mod (fun y => F y ∨ G y) w5 w7) (fun e => e.elim b10F b10G)
    · rw [eqK_i]
      refine condK_p (fun hk3' => ?_) fun hk3' => stay (P5.le (by omega)) (Mod.refl (fun _ => False) _) fun h => h
      · -- Hold
        rw [faK_i]
        refine ld1K_i (hc5 1 _ rfl) ?_
        refine callK_mono (P5.tab.hold (P.small.le (by omega)) hid0 hid1) ?_
        rintro _ w6 ⟨rfl, F6, hL6, hF6, m6⟩
        rw [neK_i]
        refine condK_neg (fun _ => ?_) fun e => (e rfl).elim
        have hR6 : RefT G w6 b' kv t := P5.ref.mod m6 fun y hy hf => P.dis y hf hy
        cases ha : t.ask [] x.id with
        | none =>
          have et : t.hold [] x.id = t := by unfold Tab.hold; rw [ha]
          rw [et] at hL6
          rw [eqK_i]
          refine condK_f ?_
          refine stay (t' := t) (F' := F6) (G' := G) ⟨hL6, hR6, fun y hy => ⟨(P5.hG y hy).1, Nat.lt_of_lt_of_le (P5.hG y hy).2 m6.size⟩, fun y hf hy => ?_, P.small.le (by omega)⟩ m6 b10F
          rcases hF6 y hf with e | e
          · exact P.dis y e hy
          · have := (P5.hG y hy).2; omega
        | some q =>
          rw [eqK_i]
          refine condK_t ?_
          rw [faK_i]
          refine ld1K_i (m6.cell (hc5 1 _ rfl) (by rw [add_block]; exact b10F)) ?_
          refine callK_mono (rhold_ok hR6 pl100 (by rw [ha]; rfl)) ?_
          intro _ w7 hr7
          obtain ⟨G7, P7, _⟩ := P5.both hL6 hF6 m6 hr7 P.small.hold
          refine stay P7 ((m6.mono fun y _ h => .inl h).trans (hr7.choose_spec.2.2.mono fun y _ h => .inr h) : Mod (fun y => F y ∨ G y) w5 w7) (fun e => e.elim b10F b10G)
end Go.Proofs.YtmfplfaeibehiaaDoor

namespace Go.Proofs.YtmfplfaeibehiaaDoor
open Go Go.K
open Go.ChangeShapes Go.WideShapes Go.ChangeAt Go.RowKit Go.Joins
variable {H : Type} {enc : TypeId × Value → H} {w : World} {base : Nat} {spare : Nat → Bool} {held : Bool}
theorem le_sumM {α : Type} {μ : α → Nat} {l : List α} {a : α} (h : a ∈ l) : μ a ≤ (l.map μ).sum := by
  induction l with
  | nil => cases h
  | cons b l ih =>
    simp only [List.map_cons, List.sum_cons]
    rcases List.mem_cons.1 h with rfl | h
    · omega
    · have := ih h; omega
theorem attr_inj {x y : Attr} (h : x.cells = y.cells) : x = y := by
  obtain ⟨k, v, n, f, s⟩ := x
  obtain ⟨k', v', n', f', s'⟩ := y
  simp only [Attr.cells, AVal.cells, List.cons.injEq, Value.int.injEq, Value.string.injEq, true_and, and_true] at h
  obtain ⟨rfl, rfl, rfl, rfl, rfl⟩ := h
  rfl
theorem attr_of_trodRU {n : Nat} {cs : List Value} {y : DataW H × List MemPlace} (h : DataW.trod enc Tryd.prog w base spare held n 56 cs = some y) : ∃ x : Attr, (cs = x.cells ∧ InA x) ∧ mAttr x ≤ Rows.uptoBulk y.1 := by
  obtain ⟨x, e, hx⟩ := attr_of_trodR h
  obtain ⟨x', e', hm⟩ := attr_of_trodU h
  have e'' : cs = x'.cells := e'
  have : x = x' := attr_inj (e.symm.trans e'')
  subst this
  exact ⟨x, ⟨e, hx⟩, hm⟩
theorem set_of_trodRU {n : Nat} {cs : List Value} {y : DataW H × List MemPlace} (h : DataW.trod enc Tryd.prog w base spare held n 53 cs = some y) : ∃ v l, cs = [v] ∧ (RSet (fun _ => True) w v l ∧ ∀ a ∈ l, InA a) ∧ mSet l + 1 ≤ Rows.uptoBulk y.1 := by
  obtain ⟨v, l, e, hl, hm⟩ := SlR.of_trodU (k := 5) (μ := mAttr) (R := fun (w : World) r (x : Attr) => r = x.cells ∧ InA x) Tryd.underlying53 (by kernel_rfl) (fun _ _ _ h => attr_of_trodRU h) h
  exact ⟨v, l, e, hl.strip, hm⟩
set_option maxRecDepth 20000 in
theorem sop_of_trodRU {n : Nat} {cs : List Value} {y : DataW H × List MemPlace} (h : DataW.trod enc Tryd.prog w base spare held n 76 cs = some y) : ∃ x : SOp, (RSOp (fun _ => True) w cs x ∧ (-9223372036854775808 ≤ x.id ∧ x.id ≤ 9223372036854775807) ∧ ∀ a ∈ x.set, InA a) ∧ mSet x.set ≤ Rows.uptoBulk y.1 := by
  have c0 : Tryd.prog.cellsOf 76 = 3 := by kernel_rfl
  have c1 : Tryd.prog.cellsOf 3 = 1 := by kernel_rfl
  have c2 : Tryd.prog.cellsOf 53 = 1 := by kernel_rfl
  obtain ⟨xs, m, _, rfl, hl, hlen, hf⟩ := DataW.trod_struct Tryd.underlying76 h
  match xs, hlen with
  | [y0, y1, y2], _ =>
    have h0 : DataW.trod enc Tryd.prog w base spare held m 3 ((cs.drop 0).take (Tryd.prog.cellsOf 3)) = some y0 := hf 0 _ rfl
    have h1 : DataW.trod enc Tryd.prog w base spare held m 3 ((cs.drop 1).take (Tryd.prog.cellsOf 3)) = some y1 := hf 1 _ rfl
    have h2 : DataW.trod enc Tryd.prog w base spare held m 53 ((cs.drop 2).take (Tryd.prog.cellsOf 53)) = some y2 := hf 2 _ rfl
    rw [c0] at hl
    rw [c1] at h0 h1
    rw [c2] at h2
    match cs, hl with
    | [a0, a1, a2], _ =>
      clear hf
      simp only [List.drop_zero, List.take_succ_cons, List.take_zero, List.drop_succ_cons] at h0 h1 h2
      obtain ⟨k, e0, _, _⟩ := DataW.trod_int Tryd.underlying3 h0
      obtain ⟨i, e1, _, w1⟩ := DataW.trod_int Tryd.underlying3 h1
      obtain ⟨v, l, e2, ⟨hs, hI⟩, hm⟩ := set_of_trodRU h2
      cases e0; cases e1; cases e2
      have r1 := wf_range w1
      have m1 : IntKind.i64.min = -9223372036854775808 ∧ IntKind.i64.max = 9223372036854775807 := by decide
      rw [m1.1, m1.2] at r1
      refine ⟨⟨k, i, l⟩, ⟨⟨_, rfl, hs⟩, r1, hI⟩, ?_⟩
      simp only [List.map_cons, List.map_nil, Rows.uptoBulk, Rows.uptoBulkAll]
      omega
theorem sops_of_trodRU {n : Nat} {cs : List Value} {y : DataW H × List MemPlace} (h : DataW.trod enc Tryd.prog w base spare held n 71 cs = some y) : ∃ v l, cs = [v] ∧ SlR (fun _ => True) 3 (RSOp fun _ => True) w v l ∧ (∀ x ∈ l, (-9223372036854775808 ≤ x.id ∧ x.id ≤ 9223372036854775807) ∧ ∀ a ∈ x.set, InA a ∧ a.val.s.size + 1 ≤ Rows.uptoBulk y.1) := by
  obtain ⟨v, l, e, hl, hm⟩ := SlR.of_trodU (k := 3) (μ := fun x : SOp => mSet x.set) (R := fun (w : World) r (x : SOp) => RSOp (fun _ => True) w r x ∧ (-9223372036854775808 ≤ x.id ∧ x.id ≤ 9223372036854775807) ∧ ∀ a ∈ x.set, InA a) Tryd.underlying71 (by kernel_rfl) (fun _ _ _ h => sop_of_trodRU h) h
  obtain ⟨h1, h2⟩ := hl.strip
  refine ⟨v, l, e, h1, fun x hx => ⟨(h2 x hx).1, fun a ha => ⟨(h2 x hx).2 a ha, ?_⟩⟩⟩
  have q1 : mSet x.set ≤ (l.map fun x : SOp => mSet x.set).sum := le_sumM (μ := fun x : SOp => mSet x.set) hx
  have q2 : mAttr a ≤ mSet x.set := le_sumM (μ := mAttr) ha
  unfold mAttr at q2
  omega
end Go.Proofs.YtmfplfaeibehiaaDoor

namespace Go.Proofs.YtmfplfaeibehiaaDoor
open Go Go.K
open Go.ChangeShapes Go.WideShapes Go.ChangeAt Go.RowKit
set_option linter.unusedVariables false

theorem ownK : ownKnob Tryd.prog.godebug = none := by kernel_rfl
theorem laidOut : laidOutB Tryd.prog = true := by kernel_rfl

set_option maxRecDepth 100000 in
theorem InternPlays_lifted (os : Os) (started : os.Started) (H : Type) (enc : TypeId × Value → H) (F0 : Stop.Interp) :
    ReturnsInHanded {} Tryd.checked os 10 .any ((Rows.OpenSpec.upto Rows.internPlaysSpec).preRow enc Tryd.prog Tryd.f10 [] false Rows.internPlaysUptoRow.laid) (((Rows.OpenSpec.upto Rows.internPlaysSpec).at F0).post enc Tryd.prog Tryd.f10 false true false false) := by
  refine returnsInHanded_of_row (C := Tryd.checked) (s := (Rows.OpenSpec.upto Rows.internPlaysSpec)) ownK started (by kernel_rfl) Tryd.func10
    (witness_row_at (enc := enc) (C := Tryd.checked) (s := (Rows.OpenSpec.upto Rows.internPlaysSpec)) false (laidWorld os) #[.slice none 0 0, .slice none 0 0] rfl (by kernel_rfl) (by kernel_rfl) (by kernel_rfl)
      ⟨⟨(OpenSpec.pre_some (k := Rows.uptoSmall) rfl [] false _ _).2 ⟨_, _, _, DataW.Whole_of_whole (fuel := 8) (x := ([.nil, .nil], [], [])) (by kernel_rfl), by kernel_rfl, by kernel_rfl⟩, laidWorld_met os _⟩, sizedMet_of_sizedB (fuel := 8) (by kernel_rfl)⟩) ?_
  intro W base args ds gs before hval0 hW _ hk0 _ hL _ _
  have hW' := hW
  obtain ⟨p, q, hA0, hV, rfl, hfz, hnd⟩ := hW
  have hA : DataW.TrodAll enc Tryd.prog W 0 (fun _ => true) true Tryd.f10.params.toList args.toList ds p := hA0
  have hval : ∀ (j : Nat) t v, Tryd.f10.params[j]? = some t → args[j]? = some v → Value.okWide Tryd.prog W .any base t v := hval0
  rw [Tryd.params10] at hA hval
  have htab : Tabs W := tabs_of_laid hL
  obtain ⟨v0, vs0, d0, ds0, p0, q0, hargs, rfl, rfl, h0, r0⟩ := trodAll_cons hA
  obtain ⟨v1, vs1, d1, ds1, p1, q1, rfl, rfl, rfl, h1, r1⟩ := trodAll_cons r0
  obtain ⟨rfl, rfl, rfl⟩ := trodAll_nil r1
  obtain rfl : args = #[v0, v1] := by cases args; simp_all
  obtain ⟨rfl, rfl⟩ := trodVars_none hV
  have hk := of_decide_eq_true (hk0 _ rfl)
  simp only [List.append_nil, Rows.uptoBulkAll] at hk
  have lt0 : ∀ x ∈ p0, x.block < W.heap.size := by obtain ⟨m, hm⟩ := h0; exact DataW.trod_lt m _ _ _ hm
  obtain ⟨fuel0, hf0⟩ := id h0
  obtain ⟨u0, l0, e0, s0⟩ := keys_of_trod hf0
  try dsimp only at s0
  obtain ⟨a0, n0, c0, rfl⟩ := okWide_slice Tryd.underlying22 (hval 0 22 v0 rfl rfl)
  simp only [Value.cells, List.cons.injEq, and_true] at e0
  subst e0
  have lt1 : ∀ x ∈ p1, x.block < W.heap.size := by obtain ⟨m, hm⟩ := h1; exact DataW.trod_lt m _ _ _ hm
  obtain ⟨fuel1, hf1⟩ := id h1
  obtain ⟨u1, l1, e1, s1⟩ := sops_of_trodRU hf1
  try dsimp only at s1
  obtain ⟨a1, n1, c1, rfl⟩ := okWide_slice Tryd.underlying71 (hval 1 71 v1 rfl rfl)
  simp only [Value.cells, List.cons.injEq, and_true] at e1
  subst e1
  clear hA0 hval0
  refine (InternPlays_ok htab s0 s1.1 fun x hx => ⟨(s1.2 x hx).1, fun a ha => ⟨((s1.2 x hx).2 a ha).1, by have := ((s1.2 x hx).2 a ha).2; omega⟩⟩).mono fun e W' ⟨v, he, hv, hg⟩ => ?_
  subst he; subst hv
  have bel : Below W.heap.size W W' := Mod.below hg (Nat.le_refl _) fun _ h => h.elim
  exact ⟨_, rfl, _, _, _, [], _, [], hW', trodAll_mk1 (shut_bool Tryd.underlying4 _), (trodAll_cons_mk (Below.trod laidOut (by kernel_rfl) (of_decide_eq_true (by kernel_rfl)) h0 bel lt0) (trodAll_cons_mk (Below.trod laidOut (by kernel_rfl) (of_decide_eq_true (by kernel_rfl)) h1 bel lt1) trodAll_mk0)), rfl, bel.frame _, fun h => by cases h⟩
/-- the row -/
theorem InternPlays_said : Rows.InternPlaysUptoSaid :=
  OpenClaim.holds_of_cond 10 Tryd.f10 rfl rfl rfl rfl rfl rfl rfl ⟨rfl, rfl, rfl, rfl, rfl⟩ rfl rfl rfl rfl rfl (by kernel_rfl) Tryd.func10 (by kernel_rfl)
    (of_decide_eq_true (by kernel_rfl)) (by unfold Func.isWrapper; first | (rw [if_pos (by decide +kernel)]; kernel_rfl) | (rw [if_neg (by decide +kernel)]; exact ⟨rfl, rfl⟩))
    (fun os started H enc _ F0 => InternPlays_lifted os started H enc F0)
/-- the statement: the tied card -/
theorem InternPlaysUpto_proved : Rows.InternPlaysUptoCardSaid :=
  Claim7.holds_tied_plain_at .later [] [.data, .pinned] true Rows.internPlaysUptoCard.stood.harness false
    InternPlays_said (fun _ h => by cases h) (by kernel_rfl) (fun _ h => by cases h) internPlaysUpto_row_tie rfl ⟨rfl, rfl⟩ (by kernel_rfl) rfl
    (fun f fn hf hfn => by
      obtain rfl : f = 10 := Option.some.inj ((show Tryd.prog.funcNamed "rubric/rubriclaw07.InternPlays" = some 10 by kernel_rfl).symm.trans hf) |>.symm
      obtain rfl : fn = Tryd.f10 := (Option.some.inj (Tryd.func10.symm.trans hfn)).symm
      exact ⟨by kernel_rfl, fun j t ht => by
        rw [Tryd.params10] at ht
        have hm : t ∈ [22, 71] := by simpa using Array.mem_of_getElem? ht
        have hall : ([22, 71].all fun u => !Tryd.prog.wantsStandIn u) = true := by kernel_rfl
        exact (show Tryd.prog.wantsStandIn t = false by simpa using List.all_eq_true.1 hall t hm)⟩)
    (by kernel_rfl)
#print axioms InternPlaysUpto_proved
end Go.Proofs.YtmfplfaeibehiaaDoor
