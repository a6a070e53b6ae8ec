/- Contract of Group; the plain law of schemas: one order, and both ways. No conditions. -/
import Derived.Test.YtmfplfaeibehiaaSB
import Derived.Test.YtmfplfaeibehiaaOE
namespace Go.Proofs.Ytmfplfaeibehiaa
open Go Go.K

theorem filt_len {ks : List DKey} {f : DKey → Bool} (n : Nat) : ((ks.take n).filter f).length ≤ ks.length := Nat.le_trans (List.length_filter_le _ _) (by rw [List.length_take]; omega)
theorem sgroup_ok {D : Nat → Prop} {v : Value} {ks : List DKey} {w : World} (h : SchR D w v ks) (hl : ks.length ≤ 1099511627776) (id : Int) :
    callK Try.prog 50 [v, .int .i64 id] (fun v' w' => OwnR w.heap.size 3 1 RNum w' v' (groupK ks id) ∧ Grow w w') w := by
  apply S50_ok
  unfold S50
  refine callK_mono (sfind_ok h id) ?_
  rintro _ w1 ⟨rfl, g1⟩
  refine extK_i (vs := [_, _]) (by rfl) (extK_i (vs := [_, _]) (by rfl) ?_)
  generalize hk : (findK ks id).getD DKey.zero = k
  refine newst_n (vs := k.cells) rfl rfl (RKey.one (w := w) (x := k) rfl) fun b5 w3 hb5 hz5 g5 hc5 _ => ?_
  have g3 := g1.trans g5
  have none' : groupK ks id = [] → (∀ w', Grow w w' → (fun v' w' => OwnR w.heap.size 3 1 RNum w' v' (groupK ks id) ∧ Grow w w') (Value.slice none 0 0) w') := fun e w' g => ⟨by rw [e]; exact OwnR.nil, g⟩
  refine JoinK_i (fun _ w4 => w4 = w3 ∧ findK ks id = some k ∧ k.group ≠ 0) ?_ ?_
  · rintro _ _ ⟨rfl, hf, h0⟩ _
    rename World => w3
    obtain ⟨b, m, kv, l, rfl, _, _, h3, h4, h5, h6, h7⟩ := h.grow g3
    refine nilckK_s ?_
    rw [faK_i]
    refine ld1K_i (by rw [addr0]; exact h3) ?_
    obtain ⟨a, c, rfl, hm⟩ := h5.shape
    simp only [maxLen] at hm
    rw [lenK_i]
    have hG : groupK ks id = (ks.filter fun o => decide (o.group = k.group ∧ o.id ≠ id)).map (·.id) := by
      unfold groupK; rw [hf]; exact if_neg h0
    rw [hG]
    generalize hp : (fun o : DKey => decide (o.group = k.group ∧ o.id ≠ id)) = p
    have hpd : ∀ o : DKey, p o = true ↔ o.group = k.group ∧ o.id ≠ id := fun o => by rw [← hp]; exact decide_eq_true_iff
    refine LoopK_i (fun vs w6 => ∃ (i : Nat) (ov : Value), i ≤ ks.length ∧ vs = [ov, .int .i64 i] ∧ OwnR w3.heap.size 3 1 RNum w6 ov (((ks.take i).filter p).map (·.id)) ∧ Grow w3 w6) (fun vs _ => ks.length - iOf vs 1)
      ⟨0, _, Nat.zero_le _, rfl, OwnR.nil, Mod.refl _ _⟩ ?_
    rintro vs w6 ⟨i, ov, hi, rfl, ho, g6⟩ _
    show ltK .i64 (.int .i64 i) _ _
    rw [ltK_i]
    refine condK_p (fun hlt => ?_) fun hge => ?_
    · have hlt' : i < ks.length := by omega
      have e1 : (ks.take (i + 1)).filter p = (ks.take i).filter p ++ (if p ks[i] = true then [ks[i]] else []) := by
        rw [List.take_add_one, List.getElem?_eq_getElem hlt', List.filter_append]
        simp [List.filter_cons]
      have hfl : ((ks.take i).filter p).length ≤ ks.length := filt_len i
      refine JoinK_i (fun vs w7 => ∃ ov', vs = [ov'] ∧ OwnR w3.heap.size 3 1 RNum w7 ov' (((ks.take (i + 1)).filter p).map (·.id)) ∧ Grow w3 w7) ?_ ?_
      · rintro _ w7 ⟨ov', rfl, ho', g7⟩ _
        show addK .i64 (.int .i64 i) _ _
        rw [addK_i, loop_step (by omega)]
        exact ⟨⟨i + 1, ov', hlt', rfl, ho', g7⟩, by rw [iOf1, iOf1]; omega⟩
      · obtain ⟨q, r, rfl, _, hr, hc, rfl⟩ := (h5.grow g6 (by decide) fun _ _ h => h).get hlt'
        refine ixK_n hlt' (ldnK_i hr (fun j u hu => by rw [Addr.add_add]; exact hc j u hu) ?_)
        refine newst_n (vs := ks[i].cells) rfl rfl (RKey.one (w := w) (x := ks[i]) rfl) fun b9 w10 hb9 hz9 g9 hc9 _ => ?_
        have g10 := g6.trans g9
        have ho10 : OwnR w3.heap.size 3 1 RNum w10 ov (((ks.take i).filter p).map (·.id)) := OwnR.mod ho g9 (fun _ _ h => h) fun _ _ _ h => h
        have skip : p ks[i] = false → ∃ ov', [ov] = [ov'] ∧ OwnR w3.heap.size 3 1 RNum w10 ov' (((ks.take (i + 1)).filter p).map (·.id)) ∧ Grow w3 w10 := fun e => ⟨ov, rfl, by rw [e1, e]; simpa using ho10, g10⟩
        have pf : ¬ (ks[i].group = k.group ∧ ks[i].id ≠ id) → p ks[i] = false := fun hn => by
          cases hb : p ks[i] with
          | false => rfl
          | true => exact (hn ((hpd _).1 hb)).elim
        simp only [faK_i]
        refine ld1K_i (hc9 5 _ rfl) (ld1K_i (g10.cell (hc5 5 _ rfl) fun h => h) ?_)
        rw [eqK_i]
        refine condK_p (fun he => ?_) fun he => skip (pf fun h => he h.1)
        refine ld1K_i (hc9 0 _ rfl) ?_
        rw [neK_i]
        refine condK_neg (fun hn => skip (pf fun h => h.2 hn)) fun hn => ?_
        refine ld1K_i (hc9 0 _ rfl) ?_
        refine push_n (w0 := w3) elem_int ho10 g10 (cs := [.int .i64 ks[i].id]) (x := ks[i].id) (by kernel_rfl) rfl rfl (fun _ _ _ => RNum.one) (fun _ _ _ _ _ _ h => h) (by rw [List.length_map]; omega) (by rw [List.length_map]; simp only [maxLen]; omega) fun v' w' o' g' => ?_
        refine ⟨v', rfl, ?_, g'⟩
        rw [e1, if_pos ((hpd _).2 ⟨he, hn⟩), List.map_append]
        exact o'
    · have : i = ks.length := by omega
      subst this
      rw [List.take_length] at ho
      exact ⟨ho.base fun g hg => Nat.le_trans g3.size (OwnR.ownB ho g hg).1, g3.trans g6⟩
  · cases hf : findK ks id with
    | none =>
      show notK (.bool false) _
      rw [notK_i]
      exact condK_t (none' (by unfold groupK; rw [hf]) _ g3)
    | some k' =>
      have : k' = k := by rw [hf] at hk; exact hk
      subst this
      show notK (.bool true) _
      rw [notK_i]
      refine condK_f ?_
      rw [faK_i]
      refine ld1K_i (hc5 5 _ rfl) ?_
      rw [eqK_i]
      exact condK_p (fun h0 => none' (by unfold groupK; rw [hf]; exact if_pos h0) _ g3) fun h0 => ⟨rfl, rfl, h0⟩
end Go.Proofs.Ytmfplfaeibehiaa
