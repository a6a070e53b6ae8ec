/- Contracts: a patch behind another one; a set with a patch on it. Conditions: the sizes. Plain laws of UTF-8: the document's reading, byte by byte, as the library tells a valid text. No conditions but that bytes are bytes. Plain laws: what is no number; eight bytes in one word. No conditions. By a program of ours: of each function below the predicate that its code comes to, and that it is sound. No conditions. Contracts: eight bytes as a word; whether bytes are UTF-8. Conditions: the two tables lie in memory as they are laid. Contracts: the changes of block keys, or of inline ones; a cell with a patch on it. Conditions: the sizes. A slice from a place up to a place; of a row of one's own, cut short. No conditions. Contracts of composing: the reader that cuts a delta as it is needed. Conditions: the sizes. Contracts of composing: what a maker is told of both deltas. Conditions: the sizes. Contract: whether bytes are UTF-8 (utf8.Valid): as the document reads. Conditions: the two tables lie in memory as they are laid. Plain laws: the text of a set in the table of interned sets; no two sets have the same. Conditions: the numbers lie in their types. Plain laws: the table of interned sets as data. No conditions. -/
import Derived.Test.YtlbaopamhkmepaaGreatDoorZHistoryBrackets4
namespace Go.K
open Go
/-- a slice appended to a row of the call's own -/
theorem app_n {α : Type} {P : Program} {t e k bytes : Nat} {R : World → List Value → α → Prop} {S : Nat → Prop} {w0 w : World} {v x : Value} {l m : List α} {K : Cont} (hE : ElemOK P t e k bytes) (h : OwnR w0.heap.size e k R w v l) (hg : Grow w0 w) (hx : SlR S k R w x m)
    (hone : ∀ r y, R w r y → ∀ u ∈ r, u.oneCell' = true) (hR : ∀ w1 w2 r y, R w1 r y → R w2 r y) (h63 : (l.length + m.length) * bytes ≤ 140737488355328) (hlm : l.length + m.length ≤ maxLen)
    (hK : ∀ v' w', OwnR w0.heap.size e k R w' v' (l ++ m) → Grow w0 w' → K v' w') : runK P (Builtin.append_ #[t, t] t [v, x].toArray) K w := by
  obtain ⟨v', w', h1, h2, h3, _⟩ := OwnR.append (ty := t) hE h hx hone h63 hg.size hlm fun w' _ r y hy => hR _ _ _ _ hy
  exact runK_i h1 (hK v' w' h2 (hg.next (Mod.of_grownBy h3) fun b hb e => by have := (OwnR.ownB h b e).1; omega))
/-- a row that grows, seen from a world in which it was another one -/
def RowIn (ov0 : Value) (w4 W : World) (ov : Value) : Prop := Mod (fun b => ov0.ownBlock = some b) w4 W ∧ ∀ b, ov.ownBlock = some b → ov0.ownBlock = some b ∨ w4.heap.size ≤ b
section
variable {ov0 ov v' : Value} {w w4 W W' : World}
theorem RowIn.start : RowIn ov w4 w4 ov := ⟨Mod.refl _ _, fun _ h => .inl h⟩
theorem RowIn.grow (h : RowIn ov0 w4 W ov) (g : Grow W W') : RowIn ov0 w4 W' ov := ⟨h.1.next g fun _ _ e => e.elim, h.2⟩
theorem RowIn.push (h : RowIn ov0 w4 W ov) (m : Mod (fun b => ov.ownBlock = some b) W W') (hv : ∀ g, v'.ownBlock = some g → ov.ownBlock = some g ∨ W.heap.size ≤ g) : RowIn ov0 w4 W' v' :=
  ⟨h.1.next m fun b hb e => by rcases h.2 b e with e | e; exact e; omega, fun b hb => by
    rcases hv b hb with e | e
    · exact h.2 b e
    · exact .inr (Nat.le_trans h.1.size e)⟩
theorem RowIn.g (h : RowIn ov0 w4 W ov) (g : Grow w w4) (hB : ∀ b, ov0.ownBlock = some b → w.heap.size ≤ b) : Grow w W := g.next h.1 fun b hb e => by have := hB b e; omega
end
end Go.K
namespace Go.Proofs.YtlbaopamhkmepaaGreatDoor
open Go Go.K

theorem drop_cons {α : Type} {l : List α} {i : Nat} (h : i < l.length) : l.drop i = l[i] :: l.drop (i + 1) := List.drop_eq_getElem_cons h
set_option maxRecDepth 20000 in
theorem pcom_ok {S S' : Nat → Prop} {pv qv : Value} {p q : List Chg} {w : World} (hp : RPat S w pv p) (hq : RPat S' w qv q) (hb : p.length + q.length ≤ 1099511627776) :
    callK Tryz.prog 185 [pv, qv] (fun v' w' => OwnR w.heap.size 111 6 RChg w' v' (comP p q) ∧ Grow w w') w := by
  apply S185_ok
  unfold S185
  obtain ⟨pa, pc, rfl, _⟩ := hp.shape
  obtain ⟨qa, qc, rfl, _⟩ := hq.shape
  rw [lenK_i]
  refine LoopK_i (fun vs W => ∃ (k i : Nat) (ov : Value) (out : List Chg), k ≤ q.length ∧ i ≤ p.length ∧ vs = [ov, .int .i64 i, .int .i64 k] ∧ OwnR w.heap.size 111 6 RChg W ov out ∧ Grow w W ∧ out.length + (p.length - i) + (q.length - k) ≤ p.length + q.length ∧ out ++ comP (p.drop i) (q.drop k) = comP p q) (fun vs _ => q.length - iOf vs 2) ⟨0, 0, _, [], by omega, by omega, rfl, OwnR.nil, Mod.refl _ _, by simp, rfl⟩ ?_
  rintro vs W ⟨k, i, ov0, out, hk, hi, rfl, ho, g, hlen, he⟩ _
  simp only [nth_s, nth_z, List.headD_cons, List.tail_cons]
  rw [ltK_i]
  refine condK_p (fun hlt => ?_) fun hge => ?_
  · have hlt' : k < q.length := by omega
    obtain ⟨a, r, rfl, _, hr, hc, rfl⟩ := (hq.grow g (by decide) fun _ _ h => h).get hlt'
    refine ixK_n hlt' (ldnK_i hr (fun j u hu => by rw [Addr.add_add]; exact hc j u hu) ?_)
    refine newst_n (vs := q[k].cells) rfl rfl (RChg.one (w := W) (x := q[k]) rfl) fun b8 w4 hb8 hz8 g4 hc8 _ => ?_
    have g04 := g.trans g4
    have hB : ∀ b, ov0.ownBlock = some b → w.heap.size ≤ b := fun b e => (OwnR.ownB ho b e).1
    have h8 : ov0.ownBlock ≠ some b8 := fun e => by have := (OwnR.ownB ho b8 e).2; omega
    have ho4 : OwnR w.heap.size 111 6 RChg w4 ov0 out := OwnR.mod ho g4 (fun _ _ h => h) fun _ _ _ h => h
    rw [drop_cons hlt'] at he
    simp only [comP] at he
    refine JoinK_i (fun vs W => ∃ (i : Nat) (ov : Value) (out : List Chg), i ≤ p.length ∧ vs = [ov, .int .i64 i] ∧ OwnR w.heap.size 111 6 RChg W ov out ∧ RowIn ov0 w4 W ov ∧ out.length + (p.length - i) + (q.length - k) ≤ p.length + q.length ∧ out ++ q[k] :: comP (p.drop i) (q.drop (k + 1)) = comP p q) ?_ ?_
    · rintro vs W ⟨i, ov, out, hi, rfl, ho, g5, hlen, he⟩ _
      simp only [nth_s, nth_z, List.headD_cons, List.tail_cons]
      refine ldnK_i (vs := q[k].cells) rfl (fun j u hu => g5.1.cell (hc8 j u hu) (by rw [add_block]; exact h8)) ?_
      refine push_n (w0 := w) elem_chg ho (g5.g g04 hB) (cs := q[k].cells) (x := q[k]) (by kernel_rfl) rfl rfl (fun _ _ _ => RChg.one) (fun _ _ _ _ _ _ h => h) (by omega) (by simp only [maxLen]; omega) fun v' w' o' g' => ?_
      rw [addK_i, loop_step (by omega)]
      refine ⟨⟨k + 1, i, v', out ++ [q[k]], hlt', hi, rfl, o', g', by simp only [List.length_append, List.length_cons, List.length_nil]; omega, by rw [List.append_assoc]; exact he⟩, ?_⟩
      show q.length - ((k + 1 : Nat) : Int).toNat < q.length - (k : Int).toNat
      omega
    refine LoopK_i (fun vs W => ∃ (i : Nat) (ov : Value) (out : List Chg), i ≤ p.length ∧ vs = [ov, .int .i64 i] ∧ OwnR w.heap.size 111 6 RChg W ov out ∧ RowIn ov0 w4 W ov ∧ out.length + (p.length - i) + (q.length - k) ≤ p.length + q.length ∧ out ++ lowC q[k] (p.drop i) ++ q[k] :: comP (highC q[k] (p.drop i)) (q.drop (k + 1)) = comP p q) (fun vs _ => p.length - iOf vs 1) ⟨i, ov0, out, hi, rfl, ho4, RowIn.start, hlen, by rw [← he, List.append_assoc]⟩ ?_
    clear ho ho4 hlen he hi
    rintro vs W1 ⟨i, ov, out, hi, rfl, ho, g5, hlen, he⟩ _
    have g05 := g5.g g04 hB
    have c8 : W1.cell? ((⟨b8, 0, none⟩ : Addr).add 0) = some (.int .i64 q[k].key) := g5.1.cell (hc8 0 _ rfl) (by rw [add_block]; exact h8)
    simp only [nth_s, nth_z, List.headD_cons, List.tail_cons]
    refine JoinK_i (fun _ W => ∃ hl : i < p.length, Grow W1 W ∧ p[i].key ≤ q[k].key) ?_ ?_
    · rintro _ W2 ⟨hl, g6, hle⟩ _
      obtain ⟨a, r, e, _, hr, hc, hx⟩ := (hp.grow (g05.trans g6) (by decide) fun _ _ h => h).get hl
      subst hx
      cases e
      have eL : lowC q[k] (p.drop i) = (if p[i].key < q[k].key then p[i] :: lowC q[k] (p.drop (i + 1)) else lowC q[k] (p.drop (i + 1))) := by
        rw [drop_cons hl]; simp only [lowC]; rw [if_pos hle]
      have eH : highC q[k] (p.drop i) = highC q[k] (p.drop (i + 1)) := by
        rw [drop_cons hl]; simp only [highC]; rw [if_pos hle]
      rw [eL, eH] at he
      refine drawK_i (fun W => Grow W2 W) (Mod.drew _ _) ?_
      refine ixK_n hl ?_
      rw [faK_i, Addr.add_add]
      refine qld1K_i (fun W hW => hW.cell (hc 0 _ rfl) fun h => h) ?_
      rw [faK_i]
      refine qld1K_i (fun W hW => hW.cell (g6.cell c8 fun h => h) fun h => h) ?_
      rw [ltK_i]
      intro W3 g7
      have ho3 : OwnR w.heap.size 111 6 RChg W3 ov out := OwnR.mod ho (g6.trans g7) (fun _ _ h => h) fun _ _ _ h => h
      refine condK_p (fun hlt => ?_) fun hnl => ?_
      · refine ixK_n hl (ldnK_i hr (fun j u hu => by rw [Addr.add_add]; exact g7.cell (hc j u hu) fun h => h) ?_)
        refine push_g elem_chg ho3 ((g05.trans g6).trans g7).size (cs := p[i].cells) (x := p[i]) (by kernel_rfl) rfl rfl (fun _ _ _ => RChg.one) (fun _ _ _ _ _ _ h => h) (by omega) (by simp only [maxLen]; omega) fun v' w' o' m' hv' => ?_
        rw [if_pos hlt] at he
        rw [addK_i, loop_step (by omega)]
        refine ⟨⟨i + 1, v', out ++ [p[i]], hl, rfl, o', ((g5.grow g6).grow g7).push m' hv', by simp only [List.length_append, List.length_cons, List.length_nil]; omega, by rw [← he]; simp⟩, by rw [iOf1, iOf1]; omega⟩
      · rw [if_neg hnl] at he
        rw [addK_i, loop_step (by omega)]
        exact ⟨⟨i + 1, ov, out, hl, rfl, ho3, (g5.grow g6).grow g7, by omega, he⟩, by rw [iOf1, iOf1]; omega⟩
    · refine drawK_i (fun W => Grow W1 W) (Mod.drew _ _) ?_
      rw [lenK_i, ltK_i]
      refine condK_p (fun hl => ?_) fun hge => ?_
      · have hl' : i < p.length := by omega
        obtain ⟨a, r, e, _, hr, hc, hx⟩ := (hp.grow g05 (by decide) fun _ _ h => h).get hl'
        subst hx
        cases e
        refine ixK_n hl' ?_
        rw [faK_i, Addr.add_add]
        refine qld1K_i (fun W hW => hW.cell (hc 0 _ rfl) fun h => h) ?_
        rw [faK_i]
        refine qld1K_i (fun W hW => hW.cell c8 fun h => h) ?_
        rw [leK_i]
        intro W2 g6
        refine condK_p (fun hle => ⟨hl', g6, hle⟩) fun hgt => ?_
        have eL : lowC q[k] (p.drop i) = [] := by rw [drop_cons hl']; simp only [lowC]; rw [if_neg hgt]
        have eH : highC q[k] (p.drop i) = p.drop i := by rw [drop_cons hl']; simp only [highC]; rw [if_neg hgt]
        rw [eL, eH, List.append_nil] at he
        exact ⟨i, ov, out, hi, rfl, OwnR.mod ho g6 (fun _ _ h => h) fun _ _ _ h => h, g5.grow g6, hlen, he⟩
      · intro W2 g6
        have e : p.drop i = [] := List.drop_eq_nil_of_le (by omega)
        rw [e] at he
        simp only [lowC, highC, List.append_nil] at he
        exact ⟨i, ov, out, hi, rfl, OwnR.mod ho g6 (fun _ _ h => h) fun _ _ _ h => h, g5.grow g6, hlen, by rw [e]; exact he⟩
  · obtain rfl : k = q.length := by omega
    rw [List.drop_length] at he
    simp only [comP] at he
    refine slice_lo (e := 111) (k := 6) (i := Tryz.t111) (by kernel_rfl) (by kernel_rfl) (by kernel_rfl) (hp.grow g (by decide) fun _ _ h => h) hi fun v' hv' => ?_
    refine app_n (w0 := w) elem_chg ho g hv' (fun _ _ => RChg.one (w := W)) (fun _ _ _ _ h => h) (by rw [List.length_drop]; omega) (by simp only [maxLen, List.length_drop]; omega) fun v'' w' o' g' => ?_
    rw [he] at o'
    exact ⟨o', g'⟩
set_option maxRecDepth 20000 in
theorem papp_ok {S S' : Nat → Prop} {sv pv : Value} {s : List Attr} {p : List Chg} {w : World} (hs : RSet S w sv s) (hp : RPat S' w pv p) (hb : s.length + p.length ≤ 1099511627776) :
    callK Tryz.prog 203 [sv, pv] (fun v' w' => OSet w.heap.size w' v' (appP s p) ∧ Grow w w') w := by
  apply S203_ok
  unfold S203
  obtain ⟨sa, sc, rfl, _⟩ := hs.shape
  obtain ⟨pa, pc, rfl, _⟩ := hp.shape
  rw [lenK_i]
  refine LoopK_i (fun vs W => ∃ (k i : Nat) (ov : Value) (out : List Attr), k ≤ p.length ∧ i ≤ s.length ∧ vs = [ov, .int .i64 i, .int .i64 k] ∧ OSet w.heap.size W ov out ∧ Grow w W ∧ out.length + (s.length - i) + (p.length - k) ≤ s.length + p.length ∧ out ++ appP (s.drop i) (p.drop k) = appP s p) (fun vs _ => p.length - iOf vs 2) ⟨0, 0, _, [], by omega, by omega, rfl, OwnR.nil, Mod.refl _ _, by simp, rfl⟩ ?_
  rintro vs W ⟨k, i, ov0, out, hk, hi, rfl, ho, g, hlen, he⟩ _
  simp only [nth_s, nth_z, List.headD_cons, List.tail_cons]
  rw [ltK_i]
  refine condK_p (fun hlt => ?_) fun hge => ?_
  · have hlt' : k < p.length := by omega
    rw [drop_cons hlt'] at he
    simp only [appP] at he
    refine JoinK_i (fun vs W => ∃ (i : Nat) (ov : Value) (out : List Attr), i ≤ s.length ∧ vs = [ov, .int .i64 i] ∧ OSet w.heap.size W ov out ∧ Grow w W ∧ out.length + (s.length - i) + (p.length - (k + 1)) ≤ s.length + p.length ∧ out ++ appP (s.drop i) (p.drop (k + 1)) = appP s p) ?_ ?_
    · rintro vs W ⟨i, ov, out, hi, rfl, ho, g5, hlen, he⟩ _
      simp only [nth_s, nth_z, List.headD_cons, List.tail_cons]
      rw [addK_i, loop_step (by omega)]
      refine ⟨⟨k + 1, i, ov, out, hlt', hi, rfl, ho, g5, hlen, he⟩, ?_⟩
      show p.length - ((k + 1 : Nat) : Int).toNat < p.length - (k : Int).toNat
      omega
    obtain ⟨a, r, rfl, _, hr, hc, rfl⟩ := (hp.grow g (by decide) fun _ _ h => h).get hlt'
    refine ixK_n hlt' (ldnK_i hr (fun j u hu => by rw [Addr.add_add]; exact hc j u hu) ?_)
    refine newst_n (vs := p[k].cells) rfl rfl (RChg.one (w := W) (x := p[k]) rfl) fun b8 w4 hb8 hz8 g4 hc8 _ => ?_
    have g04 := g.trans g4
    have hB : ∀ b, ov0.ownBlock = some b → w.heap.size ≤ b := fun b e => (OwnR.ownB ho b e).1
    have h8 : ov0.ownBlock ≠ some b8 := fun e => by have := (OwnR.ownB ho b8 e).2; omega
    have ho4 : OSet w.heap.size w4 ov0 out := OwnR.mod ho g4 (fun _ _ h => h) fun _ _ _ h => h
    -- what the change itself puts
    have put : ∀ (i : Nat) (ov : Value) (out : List Attr) (W1 : World), OSet w.heap.size W1 ov out → RowIn ov0 w4 W1 ov → i ≤ s.length → out.length + (s.length - i) + (p.length - k) ≤ s.length + p.length → out ++ midA p[k] ++ appP (s.drop i) (p.drop (k + 1)) = appP s p →
        (faK 1 (.pointer (some ⟨b8, 0, none⟩)) fun t48 => ld1K t48 (fun t49 w8 => notK t49 fun t50 => condK t50
          (faK 0 (.pointer (some ⟨b8, 0, none⟩)) fun t52 => ld1K t52 (fun t53 w9 => faK 2 (.pointer (some ⟨b8, 0, none⟩)) fun t54 => ldnK 4 t54 (fun t55 w10 =>
            buildK [(0, 1), (1, 4)] [(.int .i64 0), (.int .u8 0), (.int .i64 0), (.int .u64 0), (.string (ByteArray.mk #[]))] [(0, t53), (1, t55)] fun t56 =>
            rowK 109 5 1 [(.int .i64 0), (.int .u8 0), (.int .i64 0), (.int .u64 0), (.string (ByteArray.mk #[]))] [(0, t56)] (fun t57 w11 =>
            runK Tryz.prog (Builtin.append_ #[36, 36] 36 [ov, t57].toArray) (fun t58 w12 =>
              ∃ (i' : Nat) (ov' : Value) (out' : List Attr), i' ≤ s.length ∧ [t58, .int .i64 (i : Int)] = [ov', .int .i64 (i' : Int)] ∧ OSet w.heap.size w12 ov' out' ∧ Grow w w12 ∧ out'.length + (s.length - i') + (p.length - (k + 1)) ≤ s.length + p.length ∧ out' ++ appP (s.drop i') (p.drop (k + 1)) = appP s p) w11) w10) w9) w8)
          (∃ (i' : Nat) (ov' : Value) (out' : List Attr), i' ≤ s.length ∧ [ov, .int .i64 (i : Int)] = [ov', .int .i64 (i' : Int)] ∧ OSet w.heap.size w8 ov' out' ∧ Grow w w8 ∧ out'.length + (s.length - i') + (p.length - (k + 1)) ≤ s.length + p.length ∧ out' ++ appP (s.drop i') (p.drop (k + 1)) = appP s p)) W1) := by
      intro i ov out W1 ho g5 hi hlen he
      have c8 : ∀ j u, p[k].cells[j]? = some u → W1.cell? ((⟨b8, 0, none⟩ : Addr).add j) = some u := fun j u hu => g5.1.cell (hc8 j u hu) (by rw [add_block]; exact h8)
      rw [faK_i]
      refine ld1K_i (c8 1 _ rfl) ?_
      rw [notK_i]
      have g05 := g5.g g04 hB
      cases hg : p[k].gone with
      | true =>
        refine condK_f ?_
        rw [midA, hg, if_pos rfl, List.append_nil] at he
        exact ⟨i, ov, out, hi, rfl, ho, g05, by omega, he⟩
      | false =>
        refine condK_t ?_
        rw [midA, hg, if_neg (by decide)] at he
        rw [faK_i]
        refine ld1K_i (c8 0 _ rfl) ?_
        rw [faK_i]
        refine ldnK_i (vs := p[k].val.cells) rfl (fun j u hu => by rw [Addr.add_add]; exact c8 (2 + j) u (by rw [Nat.add_comm]; exact hu)) ?_
        refine ⟨(⟨p[k].key, p[k].val⟩ : Attr).cells.toArray, by kernel_rfl, ?_⟩
        refine push_n (w0 := w) elem_attr ho g05 (cs := (⟨p[k].key, p[k].val⟩ : Attr).cells) (x := ⟨p[k].key, p[k].val⟩) (by kernel_rfl) rfl rfl (fun _ _ _ => RAttr.one) (fun _ _ _ _ _ _ h => h) (by omega) (by simp only [maxLen]; omega) fun v' w' o' g' => ?_
        exact ⟨i, v', _, hi, rfl, o', g', by simp only [List.length_append, List.length_cons, List.length_nil]; omega, he⟩
    refine LoopK_i (fun vs W => ∃ (i : Nat) (ov : Value) (out : List Attr), i ≤ s.length ∧ vs = [ov, .int .i64 i] ∧ OSet w.heap.size W ov out ∧ RowIn ov0 w4 W ov ∧ out.length + (s.length - i) + (p.length - k) ≤ s.length + p.length ∧ out ++ (lowA p[k] (s.drop i) ++ midA p[k] ++ appP (highA p[k] (s.drop i)) (p.drop (k + 1))) = appP s p) (fun vs _ => s.length - iOf vs 1) ⟨i, ov0, out, hi, rfl, ho4, RowIn.start, hlen, he⟩ ?_
    clear ho ho4 hlen he hi
    rintro vs W1 ⟨i, ov, out, hi, rfl, ho, g5, hlen, he⟩ _
    have g05 := g5.g g04 hB
    have c8 : W1.cell? ((⟨b8, 0, none⟩ : Addr).add 0) = some (.int .i64 p[k].key) := g5.1.cell (hc8 0 _ rfl) (by rw [add_block]; exact h8)
    simp only [nth_s, nth_z, List.headD_cons, List.tail_cons]
    rw [lenK_i, ltK_i]
    refine condK_p (fun hl => ?_) fun hge => ?_
    · have hl' : i < s.length := by omega
      rw [drop_cons hl'] at he
      simp only [lowA, highA] at he
      refine JoinK_i (fun vs W => ∃ (i : Nat), i ≤ s.length ∧ vs = [ov, .int .i64 i] ∧ Grow W1 W ∧ out.length + (s.length - i) + (p.length - k) ≤ s.length + p.length ∧ out ++ midA p[k] ++ appP (s.drop i) (p.drop (k + 1)) = appP s p) ?_ ?_
      · rintro vs W2 ⟨i', hi', rfl, g6, hlen', he'⟩ _
        simp only [nth_s, nth_z, List.headD_cons, List.tail_cons]
        exact put i' ov out W2 (OwnR.mod ho g6 (fun _ _ h => h) fun _ _ _ h => h) (g5.grow g6) hi' hlen' he'
      obtain ⟨a, r, e, _, hr, hc, hx⟩ := (hs.grow g05 (by decide) fun _ _ h => h).get hl'
      subst hx
      cases e
      refine drawK_i (fun W => Grow W1 W) (Mod.drew _ _) ?_
      refine ixK_n hl' ?_
      rw [faK_i, Addr.add_add]
      refine qld1K_i (fun W hW => hW.cell (hc 0 _ rfl) fun h => h) ?_
      rw [faK_i]
      refine qld1K_i (fun W hW => hW.cell c8 fun h => h) ?_
      rw [ltK_i]
      intro W2 g6
      have ho2 : OSet w.heap.size W2 ov out := OwnR.mod ho g6 (fun _ _ h => h) fun _ _ _ h => h
      refine condK_p (fun hlt => ?_) fun hnl => ?_
      · rw [if_pos hlt, if_pos hlt] at he
        refine ixK_n hl' (ldnK_i hr (fun j u hu => by rw [Addr.add_add]; exact g6.cell (hc j u hu) fun h => h) ?_)
        refine push_g elem_attr ho2 (g05.trans g6).size (cs := s[i].cells) (x := s[i]) (by kernel_rfl) rfl rfl (fun _ _ _ => RAttr.one) (fun _ _ _ _ _ _ h => h) (by omega) (by simp only [maxLen]; omega) fun v' w' o' m' hv' => ?_
        rw [addK_i, loop_step (by omega)]
        refine ⟨⟨i + 1, v', out ++ [s[i]], hl', rfl, o', (g5.grow g6).push m' hv', by simp only [List.length_append, List.length_cons, List.length_nil]; omega, by rw [← he]; simp⟩, by rw [iOf1, iOf1]; omega⟩
      · rw [if_neg hnl, if_neg hnl] at he
        refine drawK_i (fun W => Grow W2 W) (Mod.drew _ _) ?_
        refine ixK_n hl' ?_
        rw [faK_i, Addr.add_add]
        refine qld1K_i (fun W hW => hW.cell (g6.cell (hc 0 _ rfl) fun h => h) fun h => h) ?_
        rw [faK_i]
        refine qld1K_i (fun W hW => hW.cell (g6.cell c8 fun h => h) fun h => h) ?_
        rw [eqK_i]
        intro W3 g7
        refine condK_p (fun heq => ?_) fun hne => ?_
        · rw [if_pos heq] at he
          rw [addK_i, loop_step (by omega)]
          exact ⟨i + 1, hl', rfl, g6.trans g7, by omega, by rw [← he]; simp⟩
        · rw [if_neg hne] at he
          exact ⟨i, hi, rfl, g6.trans g7, hlen, by rw [drop_cons hl', ← he]; simp⟩
    · have e : s.drop i = [] := List.drop_eq_nil_of_le (by omega)
      rw [e] at he
      simp only [lowA, highA, List.nil_append] at he
      exact put i ov out W1 ho g5 hi hlen (by rw [e, ← he]; simp)
  · obtain rfl : k = p.length := by omega
    rw [List.drop_length] at he
    simp only [appP] at he
    refine slice_lo (e := 109) (k := 5) (i := Tryz.t109) (by kernel_rfl) (by kernel_rfl) (by kernel_rfl) (hs.grow g (by decide) fun _ _ h => h) hi fun v' hv' => ?_
    refine app_n (w0 := w) elem_attr ho g hv' (fun _ _ => RAttr.one (w := W)) (fun _ _ _ _ h => h) (by rw [List.length_drop]; omega) (by simp only [maxLen, List.length_drop]; omega) fun v'' w' o' g' => ?_
    rw [he] at o'
    exact ⟨o', g'⟩
end Go.Proofs.YtlbaopamhkmepaaGreatDoor

namespace Go.Proofs.YtlbaopamhkmepaaGreatDoor
open Go Go.K

/-- how many bytes a rune has that begins so (0: none begins so), and the bounds of the second byte -/
def hdSize (b0 : Int) : Nat := if b0 < 194 then 0 else if b0 < 224 then 2 else if b0 < 240 then 3 else if b0 < 245 then 4 else 0
def hdLo (b0 : Int) : Int := if b0 = 224 then 160 else if b0 = 240 then 144 else 128
def hdHi (b0 : Int) : Int := if b0 = 237 then 159 else if b0 = 244 then 143 else 191
theorem wrap32 {x : Int} (h0 : -2147483648 ≤ x) (h1 : x < 2147483648) : IntKind.i32.wrap x = x := by
  have e1 : (2 : Int) ^ IntKind.i32.bits = 4294967296 := by decide
  have e2 : (2 : Int) ^ (IntKind.i32.bits - 1) = 2147483648 := by decide
  simp only [IntKind.wrap, e1, e2, IntKind.signed, Bool.true_and, decide_eq_true_eq]
  split <;> omega
theorem cont_step {b : List Int} {i k : Nat} {c r : Int} (hc : b[i]? = some c) (h0 : 0 ≤ r) (h1 : r < 16777216) (c0 : 0 ≤ c) (c1 : c < 256) : contB b (k + 1) i r = if c < 128 ∨ 191 < c then none else contB b k (i + 1) (r * 64 + c - 128) := by
  simp only [contB, hc]
  rw [wrap32 (x := r * 64) (by omega) (by omega), wrap32 (x := c) (by omega) (by omega), wrap32 (x := r * 64 + c) (by omega) (by omega), wrap32 (x := r * 64 + c - 128) (by omega) (by omega)]
theorem head4 {b0 : Int} (h0 : 240 ≤ b0) (h1 : b0 < 256) : nextHead b0 = some (4, b0 - 240) := by
  unfold nextHead
  rw [if_pos h0, wrap32 (x := b0) (by omega) (by omega), wrap32 (by omega) (by omega)]
theorem head3 {b0 : Int} (h0 : 224 ≤ b0) (h1 : b0 < 240) : nextHead b0 = some (3, b0 - 224) := by
  unfold nextHead
  rw [if_neg (by omega), if_pos h0, wrap32 (x := b0) (by omega) (by omega), wrap32 (by omega) (by omega)]
theorem head2 {b0 : Int} (h0 : 192 ≤ b0) (h1 : b0 < 224) : nextHead b0 = some (2, b0 - 192) := by
  unfold nextHead
  rw [if_neg (by omega), if_neg (by omega), if_pos h0, wrap32 (x := b0) (by omega) (by omega), wrap32 (by omega) (by omega)]
theorem next_ascii {b0 : Int} {t : List Int} (h0 : 0 ≤ b0) (h1 : b0 < 128) : nextB (b0 :: t) = (b0, 1) := by
  have hh : nextHead b0 = some (1, b0) := by
    unfold nextHead
    rw [if_neg (by omega), if_neg (by omega), if_neg (by omega), if_neg (by omega), wrap32 (by omega) (by omega)]
  unfold nextB
  rw [List.headD_cons, hh]
  simp only [List.length_cons, contB, Nat.sub_self]
  rw [if_neg (by omega), if_pos ⟨by unfold MayR; omega, by unfold oneLen; rw [if_pos h1]⟩]
theorem next_short {b0 : Int} {t : List Int} (h1 : b0 < 256) (h : (b0 :: t).length < hdSize b0) : nextB (b0 :: t) = (0, 0) := by
  unfold nextB
  rw [List.headD_cons]
  unfold hdSize at h
  split at h
  · omega
  split at h
  · rw [head2 (by omega) (by omega)]; simp only; rw [if_pos h]
  split at h
  · rw [head3 (by omega) (by omega)]; simp only; rw [if_pos h]
  split at h
  · rw [head4 (by omega) (by omega)]; simp only; rw [if_pos h]
  · omega
theorem cont_lt {b : List Int} : ∀ {k i : Nat} {r x : Int}, contB b k i r = some x → (∀ y ∈ b, 0 ≤ y ∧ y < 256) → 0 ≤ r → r * 64 ^ k < 1073741824 → k ≤ 3 → r * 64 ^ k ≤ x ∧ x ≤ r * 64 ^ k + 64 ^ k - 1 := by
  intro k
  induction k with
  | zero => intro i r x h _ _ _ _; simp only [contB] at h; cases h; simp
  | succ k ih =>
    intro i r x h hb h0 h1 hk
    cases hc : b[i]? with
    | none => simp [contB, hc] at h
    | some c =>
      have hcb := hb c (List.mem_iff_getElem?.2 ⟨i, hc⟩)
      have e : (64 : Int) ^ (k + 1) = 64 * 64 ^ k := by rw [Int.pow_succ]; omega
      rw [e] at h1
      have hp : (1 : Int) ≤ 64 ^ k := by
        rcases (show k = 0 ∨ k = 1 ∨ k = 2 by omega) with rfl | rfl | rfl <;> decide
      have h2 : r * (64 * 64 ^ k) = (r * 64) * 64 ^ k := by rw [Int.mul_assoc]
      rw [h2] at h1
      have hr : r * 64 ≤ r * 64 * 64 ^ k := by
        have := Int.mul_le_mul_of_nonneg_left hp (show 0 ≤ r * 64 by omega)
        omega
      rw [cont_step hc h0 (by omega) hcb.1 hcb.2] at h
      split at h
      · cases h
      · rename_i hcc
        have e3 : (r * 64 + c - 128) * 64 ^ k = r * 64 * 64 ^ k + (c - 128) * 64 ^ k := by rw [show r * 64 + c - 128 = r * 64 + (c - 128) by omega, Int.add_mul]
        have hc2 : (c - 128) * 64 ^ k ≤ 63 * 64 ^ k := Int.mul_le_mul_of_nonneg_right (by omega) (by omega)
        have hc3 : 0 ≤ (c - 128) * 64 ^ k := Int.mul_nonneg (by omega) (by omega)
        have hp3 : (64 : Int) ^ k ≤ 4096 := by
          rcases (show k = 0 ∨ k = 1 ∨ k = 2 by omega) with rfl | rfl | rfl <;> decide
        by_cases hbig : (r * 64 + c - 128) * 64 ^ k < 1073741824
        · have := ih h hb (by omega) hbig (by omega)
          rw [e, h2]
          omega
        · exfalso
          rw [e3] at hbig
          have hdv : r * 64 * 64 ^ k ≤ 1073741824 - 64 * 64 ^ k := by
            rcases (show k = 0 ∨ k = 1 ∨ k = 2 by omega) with rfl | rfl | rfl
            · simp only [Int.pow_zero] at *; omega
            · simp only [Int.pow_one] at *; omega
            · rw [show (64 : Int) ^ 2 = 4096 by decide] at *; omega
          omega
theorem next_bad {b0 : Int} {t : List Int} (hb : ∀ y ∈ b0 :: t, 0 ≤ y ∧ y < 256) (h0 : 128 ≤ b0) (h : hdSize b0 = 0) : nextB (b0 :: t) = (0, 0) := by
  have h1 := (hb b0 List.mem_cons_self).2
  have hc : b0 < 194 ∨ 245 ≤ b0 := by
    unfold hdSize at h
    (repeat' split at h) <;> omega
  unfold nextB
  rw [List.headD_cons]
  by_cases h2 : b0 < 192
  · have hh : nextHead b0 = none := by
      unfold nextHead
      rw [if_neg (by omega), if_neg (by omega), if_neg (by omega), if_pos h0]
    rw [hh]
  by_cases h3 : b0 < 194
  · rw [head2 (by omega) (by omega)]
    simp only
    split
    · rfl
    · split
      · rfl
      · rename_i x hx
        have := cont_lt hx hb (by omega) (by omega) (by omega)
        rw [if_neg]
        rintro ⟨_, ho⟩
        unfold oneLen at ho
        rw [if_pos (by omega)] at ho
        omega
  · rw [head4 (by omega) (by omega)]
    simp only
    split
    · rfl
    · split
      · rfl
      · rename_i x hx
        have := cont_lt hx hb (by omega) (by omega) (by omega)
        rw [if_neg]
        rintro ⟨hm, _⟩
        unfold MayR at hm
        omega
theorem next_2 {b0 c1 : Int} {t : List Int} (h : hdSize b0 = 2) (c0 : 0 ≤ c1) (c2 : c1 < 256) :
    nextB (b0 :: c1 :: t) = if hdLo b0 ≤ c1 ∧ c1 ≤ hdHi b0 then ((b0 - 192) * 64 + (c1 - 128), 2) else (0, 0) := by
  have hb : 194 ≤ b0 ∧ b0 < 224 := by
    unfold hdSize at h
    (repeat' split at h) <;> omega
  have hl : hdLo b0 = 128 := by unfold hdLo; rw [if_neg (by omega), if_neg (by omega)]
  have hh : hdHi b0 = 191 := by unfold hdHi; rw [if_neg (by omega), if_neg (by omega)]
  unfold nextB
  rw [List.headD_cons, head2 (by omega) (by omega)]
  simp only
  rw [if_neg (by simp), cont_step (b := b0 :: c1 :: t) (i := 1) (c := c1) rfl (by omega) (by omega) c0 c2, hl, hh]
  by_cases hc : c1 < 128 ∨ 191 < c1
  · rw [if_pos hc, if_neg (by omega)]
  · rw [if_neg hc, if_pos (by omega)]
    simp only [contB]
    rw [if_pos ⟨by unfold MayR; omega, by unfold oneLen; rw [if_neg (by omega), if_pos (by omega)]⟩]
    congr 1; omega
theorem next_3 {b0 c1 c2 : Int} {t : List Int} (h : hdSize b0 = 3) (c0 : 0 ≤ c1) (c0' : c1 < 256) (d0 : 0 ≤ c2) (d0' : c2 < 256) :
    nextB (b0 :: c1 :: c2 :: t) = if (hdLo b0 ≤ c1 ∧ c1 ≤ hdHi b0) ∧ 128 ≤ c2 ∧ c2 ≤ 191 then ((b0 - 224) * 4096 + (c1 - 128) * 64 + (c2 - 128), 3) else (0, 0) := by
  have hb : 224 ≤ b0 ∧ b0 < 240 := by
    unfold hdSize at h
    (repeat' split at h) <;> omega
  have hl : hdLo b0 = if b0 = 224 then 160 else 128 := by
    unfold hdLo; split
    · rfl
    · rw [if_neg (by omega)]
  have hh : hdHi b0 = if b0 = 237 then 159 else 191 := by
    unfold hdHi; split
    · rfl
    · rw [if_neg (by omega)]
  unfold nextB
  rw [List.headD_cons, head3 (by omega) (by omega)]
  simp only
  rw [if_neg (by simp), cont_step (b := b0 :: c1 :: c2 :: t) (i := 1) (c := c1) rfl (by omega) (by omega) c0 c0', hl, hh]
  by_cases hc : c1 < 128 ∨ 191 < c1
  · rw [if_pos hc, if_neg]
    rintro ⟨⟨h1, h2⟩, _⟩
    split at h1 <;> split at h2 <;> omega
  rw [if_neg hc, cont_step (b := b0 :: c1 :: c2 :: t) (i := 2) (c := c2) rfl (by omega) (by omega) d0 d0']
  by_cases hd : c2 < 128 ∨ 191 < c2
  · rw [if_pos hd, if_neg (by omega)]
  rw [if_neg hd]
  simp only [contB]
  by_cases ha : ((if b0 = 224 then (160 : Int) else 128) ≤ c1 ∧ c1 ≤ (if b0 = 237 then (159 : Int) else 191))
  · have hA := (show (_ ∧ 128 ≤ c2 ∧ c2 ≤ 191) from ⟨ha, by omega⟩)
    rw [if_pos hA, if_pos]
    · congr 1; omega
    · obtain ⟨h1, h2⟩ := ha
      refine ⟨?_, ?_⟩
      · unfold MayR
        split at h1 <;> split at h2 <;> omega
      · unfold oneLen
        rw [if_neg (by split at h1 <;> omega), if_neg (by split at h1 <;> omega), if_pos (by omega)]
  · rw [if_neg (fun x : (_ ∧ 128 ≤ c2 ∧ c2 ≤ 191) => ha x.1), if_neg]
    rintro ⟨hm, ho⟩
    apply ha
    unfold MayR at hm
    have : ¬ (b0 - 224) * 64 * 64 + (c1 - 128) * 64 + c2 - 128 < 2048 := by
      intro hx
      unfold oneLen at ho
      split at ho
      · cases ho
      · split at ho
        · cases ho
        · omega
    constructor
    · split <;> omega
    · split <;> omega
theorem next_4 {b0 c1 c2 c3 : Int} {t : List Int} (h : hdSize b0 = 4) (c0 : 0 ≤ c1) (c0' : c1 < 256) (d0 : 0 ≤ c2) (d0' : c2 < 256) (e0 : 0 ≤ c3) (e0' : c3 < 256) :
    nextB (b0 :: c1 :: c2 :: c3 :: t) = if (hdLo b0 ≤ c1 ∧ c1 ≤ hdHi b0) ∧ (128 ≤ c2 ∧ c2 ≤ 191) ∧ 128 ≤ c3 ∧ c3 ≤ 191 then ((b0 - 240) * 262144 + (c1 - 128) * 4096 + (c2 - 128) * 64 + (c3 - 128), 4) else (0, 0) := by
  have hb : 240 ≤ b0 ∧ b0 < 245 := by
    unfold hdSize at h
    (repeat' split at h) <;> omega
  have hl : hdLo b0 = if b0 = 240 then 144 else 128 := by unfold hdLo; rw [if_neg (by omega)]
  have hh : hdHi b0 = if b0 = 244 then 143 else 191 := by unfold hdHi; rw [if_neg (by omega)]
  unfold nextB
  rw [List.headD_cons, head4 (by omega) (by omega)]
  simp only
  rw [if_neg (by simp), cont_step (b := b0 :: c1 :: c2 :: c3 :: t) (i := 1) (c := c1) rfl (by omega) (by omega) c0 c0', hl, hh]
  by_cases hc : c1 < 128 ∨ 191 < c1
  · rw [if_pos hc, if_neg]
    rintro ⟨⟨h1, h2⟩, _⟩
    split at h1 <;> split at h2 <;> omega
  rw [if_neg hc, cont_step (b := b0 :: c1 :: c2 :: c3 :: t) (i := 2) (c := c2) rfl (by omega) (by omega) d0 d0']
  by_cases hd : c2 < 128 ∨ 191 < c2
  · rw [if_pos hd, if_neg (by omega)]
  rw [if_neg hd, cont_step (b := b0 :: c1 :: c2 :: c3 :: t) (i := 3) (c := c3) rfl (by omega) (by omega) e0 e0']
  by_cases he : c3 < 128 ∨ 191 < c3
  · rw [if_pos he, if_neg (by omega)]
  rw [if_neg he]
  simp only [contB]
  by_cases ha : ((if b0 = 240 then (144 : Int) else 128) ≤ c1 ∧ c1 ≤ (if b0 = 244 then (143 : Int) else 191))
  · have hA := (show (_ ∧ (128 ≤ c2 ∧ c2 ≤ 191) ∧ 128 ≤ c3 ∧ c3 ≤ 191) from ⟨ha, by omega⟩)
    rw [if_pos hA, if_pos]
    · congr 1; omega
    · obtain ⟨h1, h2⟩ := ha
      refine ⟨?_, ?_⟩
      · unfold MayR
        split at h1 <;> split at h2 <;> omega
      · unfold oneLen
        rw [if_neg (by split at h1 <;> omega), if_neg (by split at h1 <;> omega), if_neg (by split at h1 <;> omega)]
  · rw [if_neg (fun x : (_ ∧ (128 ≤ c2 ∧ c2 ≤ 191) ∧ 128 ≤ c3 ∧ c3 ≤ 191) => ha x.1), if_neg]
    rintro ⟨hm, ho⟩
    apply ha
    unfold MayR at hm
    have : ¬ ((b0 - 240) * 64 + (c1 - 128)) * 64 * 64 + (c2 - 128) * 64 + c3 - 128 < 65536 := by
      intro hx
      unfold oneLen at ho
      split at ho
      · cases ho
      · split at ho
        · cases ho
        · split at ho
          · cases ho
          · omega
    constructor
    · split <;> omega
    · split <;> omega
theorem readB_step {b : List Int} (hb : b ≠ []) : (readB b).isSome = (decide ((nextB b).2 ≠ 0) && (readB (b.drop (nextB b).2)).isSome) := by
  rw [readB_cons hb]
  by_cases h : (nextB b).2 = 0
  · simp [h]
  · simp [h]
theorem readB_nil : readB ([] : List Int) = some [] := by simp [readB, readF]
theorem readB_skip : ∀ {k : Nat} {b : List Int}, k ≤ b.length → (∀ j x, j < k → b[j]? = some x → 0 ≤ x ∧ x < 128) → (readB b).isSome = (readB (b.drop k)).isSome := by
  intro k
  induction k with
  | zero => intro b _ _; rw [List.drop_zero]
  | succ k ih =>
    intro b hk h
    cases b with
    | nil => simp at hk
    | cons b0 t =>
      have h0 := h 0 b0 (by omega) rfl
      rw [readB_step (by simp), next_ascii h0.1 h0.2]
      simp only [List.drop_succ_cons]
      simp only [ne_eq, Nat.one_ne_zero, not_false_eq_true, decide_true, Bool.true_and, List.drop_zero]
      exact ih (by simpa using hk) fun j x hj hx => h (j + 1) x (by omega) hx
end Go.Proofs.YtlbaopamhkmepaaGreatDoor

namespace Go.Proofs.YtlbaopamhkmepaaGreatDoor
open Go Go.K
theorem order_self (n : Nat) : (FloatKind.f64.format.order n n != some .eq) = decide (NoNum (n : Int)) := by
  have h1 : Ieee.double.signWeight = 9223372036854775808 := by decide
  have h2 : Ieee.double.infRung = 9218868437227405312 := by decide
  have h3 : Ieee.double.binade = 4503599627370496 := by decide
  have hN : NoNum (n : Int) ↔ 9218868437227405312 < n % 9223372036854775808 := by
    unfold NoNum
    rw [Int.tmod_eq_emod_of_nonneg (by omega)]
    omega
  have hs : ∀ x : Int, compare x x = .eq := fun x => by simp [compare, compareOfLessAndEq]
  have hn : ∀ x : Nat, compare x x = .eq := fun x => by simp [compare, compareOfLessAndEq]
  rw [show decide (NoNum (n : Int)) = decide (9218868437227405312 < n % 9223372036854775808) from decide_eq_decide.2 hN]
  show ((Ieee.double.read n).order (Ieee.double.read n) != some .eq) = _
  unfold Ieee.Format.read
  simp only [h1, h2, h3]
  split
  · rename_i hh
    have : ¬ 9218868437227405312 < n % 9223372036854775808 := by omega
    simp only [Ieee.Datum.order, hs, decide_eq_false this]; rfl
  · split
    · have : ¬ 9218868437227405312 < n % 9223372036854775808 := by omega
      simp only [Ieee.Datum.order, hs, decide_eq_false this]; rfl
    · split
      · have : ¬ 9218868437227405312 < n % 9223372036854775808 := by omega
        simp only [Ieee.Datum.order, hn, decide_eq_false this]; rfl
      · have : 9218868437227405312 < n % 9223372036854775808 := by omega
        simp only [Ieee.Datum.order, decide_eq_true this]; rfl
/-- what a word of eight bytes is, as far as the test of the eighth bits goes -/
def U64 (x : Int) : Prop := 0 ≤ x ∧ x < 18446744073709551616
def orN (a b : Int) : Int := ((a.toNat ||| b.toNat : Nat) : Int)
theorem wrapu64 {x : Int} (h : U64 x) : IntKind.u64.wrap x = x := by
  have e1 : (2 : Int) ^ IntKind.u64.bits = 18446744073709551616 := by decide
  unfold U64 at h
  simp only [IntKind.wrap, e1, IntKind.signed, Bool.false_and]
  rw [if_neg (by decide)]
  omega
theorem bv_or {a b : Int} (ha : U64 a) (hb : U64 b) : ((BitVec.ofInt 64 a ||| BitVec.ofInt 64 b).toNat : Int) = orN a b := by
  unfold U64 at ha hb
  unfold orN
  rw [BitVec.toNat_or, BitVec.toNat_ofInt, BitVec.toNat_ofInt]
  have e : ((2 ^ 64 : Nat) : Int) = 18446744073709551616 := by decide
  rw [e, Int.emod_eq_of_lt ha.1 ha.2, Int.emod_eq_of_lt hb.1 hb.2]
theorem bv_and {a b : Int} (ha : U64 a) (hb : U64 b) : ((BitVec.ofInt 64 a &&& BitVec.ofInt 64 b).toNat : Int) = ((a.toNat &&& b.toNat : Nat) : Int) := by
  unfold U64 at ha hb
  rw [BitVec.toNat_and, BitVec.toNat_ofInt, BitVec.toNat_ofInt]
  have e : ((2 ^ 64 : Nat) : Int) = 18446744073709551616 := by decide
  rw [e, Int.emod_eq_of_lt ha.1 ha.2, Int.emod_eq_of_lt hb.1 hb.2]
theorem orN_U {a b : Int} (ha : U64 a) (hb : U64 b) : U64 (orN a b) := by
  unfold U64 at *
  unfold orN
  have : a.toNat ||| b.toNat < 2 ^ 64 := Nat.or_lt_two_pow (by omega) (by omega)
  omega
def HiB (x : Int) (j : Nat) : Prop := x.toNat.testBit (8 * j + 7) = true
theorem HiB.l {a b : Int} {j : Nat} (h : HiB a j) : HiB (orN a b) j := by
  unfold HiB orN at *
  rw [Int.toNat_natCast, Nat.testBit_or, h, Bool.true_or]
theorem HiB.r {a b : Int} {j : Nat} (h : HiB b j) : HiB (orN a b) j := by
  unfold HiB orN at *
  rw [Int.toNat_natCast, Nat.testBit_or, h, Bool.or_true]
theorem hib_byte {x : Int} {j : Nat} (hj : j < 8) (h0 : 128 ≤ x) (h1 : x < 256) : U64 (x * 2 ^ (8 * j)) ∧ HiB (x * 2 ^ (8 * j)) j := by
  obtain ⟨n, rfl⟩ : ∃ n : Nat, x = n := ⟨x.toNat, by omega⟩
  have e : ((n : Int) * 2 ^ (8 * j)) = ((n * 2 ^ (8 * j) : Nat) : Int) := by rw [Int.natCast_mul, Int.natCast_pow]; rfl
  have hp : n * 2 ^ (8 * j) < 2 ^ (8 + 8 * j) := by
    rw [Nat.pow_add]
    exact Nat.mul_lt_mul_of_pos_right (by omega) (Nat.pow_pos (by decide))
  have hq : 2 ^ (8 + 8 * j) ≤ 2 ^ 64 := Nat.pow_le_pow_right (by decide) (by omega)
  refine ⟨?_, ?_⟩
  · rw [e]; unfold U64; omega
  · rw [e]; unfold HiB
    rw [Int.toNat_natCast, Nat.testBit_mul_two_pow]
    simp only [show 8 * j ≤ 8 * j + 7 by omega, decide_true, Bool.true_and, show 8 * j + 7 - 8 * j = 7 by omega]
    rw [Nat.testBit_eq_decide_div_mod_eq]
    rw [decide_eq_true_eq]
    omega
theorem hib_u {x : Int} {j : Nat} (hj : j < 8) (h0 : 0 ≤ x) (h1 : x < 256) : U64 (x * 2 ^ (8 * j)) := by
  obtain ⟨n, rfl⟩ : ∃ n : Nat, x = n := ⟨x.toNat, by omega⟩
  have e : ((n : Int) * 2 ^ (8 * j)) = ((n * 2 ^ (8 * j) : Nat) : Int) := by rw [Int.natCast_mul, Int.natCast_pow]; rfl
  have hp : n * 2 ^ (8 * j) < 2 ^ (8 + 8 * j) := by
    rw [Nat.pow_add]
    exact Nat.mul_lt_mul_of_pos_right (by omega) (Nat.pow_pos (by decide))
  have hq : 2 ^ (8 + 8 * j) ≤ 2 ^ 64 := Nat.pow_le_pow_right (by decide) (by omega)
  rw [e]; unfold U64; omega
theorem hib_none {x : Int} (h : x.toNat &&& 9259542123273814144 = 0) {j : Nat} (hj : j < 8) : ¬ HiB x j := by
  intro hx
  unfold HiB at hx
  have : (x.toNat &&& 9259542123273814144).testBit (8 * j + 7) = true := by
    rw [Nat.testBit_and, hx, Bool.true_and]
    rcases (show j = 0 ∨ j = 1 ∨ j = 2 ∨ j = 3 ∨ j = 4 ∨ j = 5 ∨ j = 6 ∨ j = 7 by omega) with rfl | rfl | rfl | rfl | rfl | rfl | rfl | rfl <;> decide
  rw [h, Nat.zero_testBit] at this
  cases this
end Go.Proofs.YtlbaopamhkmepaaGreatDoor

namespace Go.Proofs.YtlbaopamhkmepaaGreatDoor
open Go Go.K
/-- (*rubric/schema.Schema).Fits -/
def S192 (v0 v1 v2 : Value) (K : Cont) (w : World) : Prop :=
  boxnK 107 v2 (fun t5 w1 =>
  callK Tryz.prog 193 [v0, v1] (fun t12 w2 =>
  extK 0 t12 fun t13 =>
  extK 1 t12 fun t14 =>
  newK 84 [(.int .i64 0), (.bool false), (.int .u8 0), (.bool false), (.bool false), (.int .i64 0)] (fun t7 w3 =>
  stnK 6 t7 t13 (fun w4 =>
  condK t14
  (faK 2 t7 fun t17 =>
  ld1K t17 (fun t18 w5 =>
  faK 0 t5 fun t19 =>
  ld1K t19 (fun t20 w6 =>
  eqK .u8 t18 t20 fun t21 =>
  condK t21
  (ldnK 4 t5 (fun t24 w7 =>
  callK Tryz.prog 191 [t24] (fun t25 w8 =>
  K t25 w8) w7) w6)
  (K (.bool false) w6)) w5) w4)
  (K (.bool false) w4)) w3) w2) w1) w
theorem S192_eq (v0 v1 v2 : Value) (K : Cont) (w : World) : S192 v0 v1 v2 K w = D Tryz.prog okf 27 (bodyOf Tryz.f192) (.node [] [] .nil (.node [] [] .nil (.node [] [] .nil .nil))) (retK Tryz.prog [.tmp 6] K) (nth [v0, v1, v2]) w := by kernel_rfl
theorem S192_ok {v0 v1 v2 : Value} {K : Cont} {w : World} (h : S192 v0 v1 v2 K w) : callK Tryz.prog 192 [v0, v1, v2] K w :=
  callK_of (P := Tryz.prog) (ok := okf) (n := 27) (fn := Tryz.f192) (c := bodyOf Tryz.f192) (rs := [.tmp 6]) (an := (.node [] [] .nil (.node [] [] .nil (.node [] [] .nil .nil)))) good mixed Tryz.func192 (by kernel_rfl) (by kernel_rfl) (by kernel_rfl) (by kernel_rfl) (Eq.mp (S192_eq v0 v1 v2 K w) h)

/-- rubric/value.May -/
def S191 (v0 : Value) (K : Cont) (w : World) : Prop :=
  boxnK 107 v0 (fun t1 w1 =>
  faK 0 t1 fun t5 =>
  ld1K t5 (fun t6 w2 =>
  eqK .u8 t6 (.int .u8 1) fun t8 =>
  condK t8
  (DrawK w2 (fun C =>
  qldnK C 4 t1 fun t9 =>
  faK 1 t1 fun t10 =>
  qld1K C t10 fun t11 =>
  eqK .i64 t11 (.int .i64 1) fun t12 =>
  qcallK Tryz.prog C 206 [t12] fun t13 =>
  qrunK Tryz.prog C (binS .eql 107 (.tmp 9) (.tmp 13) t9 t13) fun t14 =>
  ∀ w3 : World, C w3 →
  K t14 w3))
  (eqK .u8 t6 (.int .u8 2) fun t16 =>
  condK t16
  (DrawK w2 (fun C_1 =>
  qldnK C_1 4 t1 fun t17 =>
  faK 1 t1 fun t18 =>
  qld1K C_1 t18 fun t19 =>
  qcallK Tryz.prog C_1 207 [t19] fun t20 =>
  qrunK Tryz.prog C_1 (binS .eql 107 (.tmp 17) (.tmp 20) t17 t20) fun t21 =>
  ∀ w4 : World, C_1 w4 →
  K t21 w4))
  (eqK .u8 t6 (.int .u8 3) fun t23 =>
  condK t23
  (DrawK w2 (fun C_2 =>
  qldnK C_2 4 t1 fun t24 =>
  faK 2 t1 fun t25 =>
  qld1K C_2 t25 fun t26 =>
  qextK Tryz.prog C_2 209 [t26] fun t27 =>
  qcallK Tryz.prog C_2 208 [t27] fun t28 =>
  qrunK Tryz.prog C_2 (binS .eql 107 (.tmp 24) (.tmp 28) t24 t28) fun t29 =>
  ∀ w5 : World, C_2 w5 →
  K t29 w5))
  (eqK .u8 t6 (.int .u8 4) fun t31 =>
  condK t31
  (faK 3 t1 fun t33 =>
  ld1K t33 (fun t34 w6 =>
  callK Tryz.prog 210 [t34] (fun t35 w7 =>
  extK 0 t35 fun t36 =>
  extK 1 t35 fun t37 =>
  newK 107 [(.int .u8 0), (.int .i64 0), (.int .u64 0), (.string (ByteArray.mk #[]))] (fun t3 w8 =>
  stnK 4 t3 t36 (fun w9 =>
  eqK .i64 t37 (.int .i64 0) fun t39 =>
  condK t39
  (ldnK 4 t1 (fun t41 w10 =>
  ldnK 4 t3 (fun t42 w11 =>
  runK Tryz.prog (binS .eql 107 (.tmp 41) (.tmp 42) t41 t42) (fun t43 w12 =>
  K t43 w12) w11) w10) w9)
  (K (.bool false) w9)) w8) w7) w6) w2)
  (K (.bool false) w2))))) w1) w
theorem S191_eq (v0 : Value) (K : Cont) (w : World) : S191 v0 K w = D Tryz.prog okf 45 (bodyOf Tryz.f191) (.node [] [] .nil (.node [] [] (.node [] [] .nil (.node [] [] .nil (.node [] [] (.node [] [] .draw .nil) (.node [] [] .nil (.node [] [] (.node [] [] .draw .nil) (.node [] [] .nil (.node [] [] (.node [] [] .draw .nil) (.node [] [] .nil (.node [] [] (.node [] [] .nil (.node [] [] .nil .nil)) .nil))))))))) (.node [] [] .nil .nil))) (retK Tryz.prog [.tmp 2] K) (nth [v0]) w := by kernel_rfl
theorem S191_ok {v0 : Value} {K : Cont} {w : World} (h : S191 v0 K w) : callK Tryz.prog 191 [v0] K w :=
  callK_of (P := Tryz.prog) (ok := okf) (n := 45) (fn := Tryz.f191) (c := bodyOf Tryz.f191) (rs := [.tmp 2]) (an := (.node [] [] .nil (.node [] [] (.node [] [] .nil (.node [] [] .nil (.node [] [] (.node [] [] .draw .nil) (.node [] [] .nil (.node [] [] (.node [] [] .draw .nil) (.node [] [] .nil (.node [] [] (.node [] [] .draw .nil) (.node [] [] .nil (.node [] [] (.node [] [] .nil (.node [] [] .nil .nil)) .nil))))))))) (.node [] [] .nil .nil)))) good mixed Tryz.func191 (by kernel_rfl) (by kernel_rfl) (by kernel_rfl) (by kernel_rfl) (Eq.mp (S191_eq v0 K w) h)

/-- rubric/value.Flag -/
def S206 (v0 : Value) (K : Cont) (w : World) : Prop :=
  newK 107 [(.int .u8 0), (.int .i64 0), (.int .u64 0), (.string (ByteArray.mk #[]))] (fun t2 w1 =>
  buildK [(0, 1), (1, 1), (2, 1), (3, 1)] [(.int .u8 0), (.int .i64 0), (.int .u64 0), (.string (ByteArray.mk #[]))] [(0, (.int .u8 1))] fun t4 =>
  newK 107 [(.int .u8 0), (.int .i64 0), (.int .u64 0), (.string (ByteArray.mk #[]))] (fun t3 w2 =>
  stnK 4 t3 t4 (fun w3 =>
  condK v0
  (faK 1 t3 fun t6 =>
  st1K t6 (.int .i64 1) (fun w4 =>
  ldnK 4 t3 (fun t7 w5 =>
  stnK 4 t2 t7 (fun w6 =>
  ldnK 4 t2 (fun r0 w7 =>
  K r0 w7) w6) w5) w4) w3)
  (ldnK 4 t3 (fun t7_1 w8 =>
  stnK 4 t2 t7_1 (fun w9 =>
  ldnK 4 t2 (fun r0_1 w10 =>
  K r0_1 w10) w9) w8) w3)) w2) w1) w
theorem S206_eq (v0 : Value) (K : Cont) (w : World) : S206 v0 K w = D Tryz.prog okf 8 (bodyOf Tryz.f206) (.node [] [] .nil (.node [] [] .nil (.node [] [] (.node [] [] .nil (.node [] [] .nil .nil)) (.node [] [] .nil .nil)))) (retK Tryz.prog [.cell 2 107] K) (nth [v0]) w := by kernel_rfl
theorem S206_ok {v0 : Value} {K : Cont} {w : World} (h : S206 v0 K w) : callK Tryz.prog 206 [v0] K w :=
  callK_of (P := Tryz.prog) (ok := okf) (n := 8) (fn := Tryz.f206) (c := bodyOf Tryz.f206) (rs := [.cell 2 107]) (an := (.node [] [] .nil (.node [] [] .nil (.node [] [] (.node [] [] .nil (.node [] [] .nil .nil)) (.node [] [] .nil .nil))))) good mixed Tryz.func206 (by kernel_rfl) (by kernel_rfl) (by kernel_rfl) (by kernel_rfl) (Eq.mp (S206_eq v0 K w) h)

/-- rubric/value.Int -/
def S207 (v0 : Value) (K : Cont) (w : World) : Prop :=
  newK 107 [(.int .u8 0), (.int .i64 0), (.int .u64 0), (.string (ByteArray.mk #[]))] (fun t2 w1 =>
  buildK [(0, 1), (1, 1), (2, 1), (3, 1)] [(.int .u8 0), (.int .i64 0), (.int .u64 0), (.string (ByteArray.mk #[]))] [(0, (.int .u8 2)), (1, v0)] fun t4 =>
  stnK 4 t2 t4 (fun w2 =>
  ldnK 4 t2 (fun r0 w3 =>
  K r0 w3) w2) w1) w
theorem S207_eq (v0 : Value) (K : Cont) (w : World) : S207 v0 K w = D Tryz.prog okf 5 (bodyOf Tryz.f207) (.node [] [] .nil (.node [] [] .nil .nil)) (retK Tryz.prog [.cell 2 107] K) (nth [v0]) w := by kernel_rfl
theorem S207_ok {v0 : Value} {K : Cont} {w : World} (h : S207 v0 K w) : callK Tryz.prog 207 [v0] K w :=
  callK_of (P := Tryz.prog) (ok := okf) (n := 5) (fn := Tryz.f207) (c := bodyOf Tryz.f207) (rs := [.cell 2 107]) (an := (.node [] [] .nil (.node [] [] .nil .nil))) good mixed Tryz.func207 (by kernel_rfl) (by kernel_rfl) (by kernel_rfl) (by kernel_rfl) (Eq.mp (S207_eq v0 K w) h)

/-- rubric/value.Float -/
def S208 (v0 : Value) (K : Cont) (w : World) : Prop :=
  newK 107 [(.int .u8 0), (.int .i64 0), (.int .u64 0), (.string (ByteArray.mk #[]))] (fun t2 w1 =>
  callK Tryz.prog 216 [v0] (fun t4 w2 =>
  condK t4
  (buildK [(0, 1), (1, 1), (2, 1), (3, 1)] [(.int .u8 0), (.int .i64 0), (.int .u64 0), (.string (ByteArray.mk #[]))] [(0, (.int .u8 3)), (2, (.int .u64 9221120237041090560))] fun t5 =>
  stnK 4 t2 t5 (fun w3 =>
  ldnK 4 t2 (fun r0 w4 =>
  K r0 w4) w3) w2)
  (extcK Tryz.prog 217 [v0] (fun t7 w5 =>
  buildK [(0, 1), (1, 1), (2, 1), (3, 1)] [(.int .u8 0), (.int .i64 0), (.int .u64 0), (.string (ByteArray.mk #[]))] [(0, (.int .u8 3)), (2, t7)] fun t8 =>
  stnK 4 t2 t8 (fun w6 =>
  ldnK 4 t2 (fun r0_1 w7 =>
  K r0_1 w7) w6) w5) w2)) w1) w
theorem S208_eq (v0 : Value) (K : Cont) (w : World) : S208 v0 K w = D Tryz.prog okf 9 (bodyOf Tryz.f208) (.node [] [] .nil (.node [] [] (.node [] [] .nil (.node [] [] (.node [] [] .nil .nil) .nil)) (.node [] [] .nil .nil))) (retK Tryz.prog [.cell 2 107] K) (nth [v0]) w := by kernel_rfl
theorem S208_ok {v0 : Value} {K : Cont} {w : World} (h : S208 v0 K w) : callK Tryz.prog 208 [v0] K w :=
  callK_of (P := Tryz.prog) (ok := okf) (n := 9) (fn := Tryz.f208) (c := bodyOf Tryz.f208) (rs := [.cell 2 107]) (an := (.node [] [] .nil (.node [] [] (.node [] [] .nil (.node [] [] (.node [] [] .nil .nil) .nil)) (.node [] [] .nil .nil)))) good mixed Tryz.func208 (by kernel_rfl) (by kernel_rfl) (by kernel_rfl) (by kernel_rfl) (Eq.mp (S208_eq v0 K w) h)

/-- rubric/value.Text -/
def S210 (v0 : Value) (K : Cont) (w : World) : Prop :=
  newK 107 [(.int .u8 0), (.int .i64 0), (.int .u64 0), (.string (ByteArray.mk #[]))] (fun t2 w1 =>
  slenK v0 fun t7 =>
  gtK .i64 t7 (.int .i64 64) fun t8 =>
  condK t8
  (buildK [(0, 1), (1, 1), (2, 1), (3, 1)] [(.int .u8 0), (.int .i64 0), (.int .u64 0), (.string (ByteArray.mk #[]))] [] fun t9 =>
  stnK 4 t2 t9 (fun w2 =>
  ldnK 4 t2 (fun r0 w3 =>
  K (.tuple #[r0, (.int .i64 3)]) w3) w2) w1)
  (runK Tryz.prog (convert 9 70 v0) (fun t12 w4 =>
  callK Tryz.prog 114 [t12] (fun t13 w5 =>
  extK 0 t13 fun _t14 =>
  extK 1 t13 fun t15 =>
  neK .i64 t15 (.int .i64 0) fun t17 =>
  condK t17
  (buildK [(0, 1), (1, 1), (2, 1), (3, 1)] [(.int .u8 0), (.int .i64 0), (.int .u64 0), (.string (ByteArray.mk #[]))] [] fun t18 =>
  stnK 4 t2 t18 (fun w6 =>
  ldnK 4 t2 (fun r0_1 w7 =>
  K (.tuple #[r0_1, t15]) w7) w6) w5)
  (buildK [(0, 1), (1, 1), (2, 1), (3, 1)] [(.int .u8 0), (.int .i64 0), (.int .u64 0), (.string (ByteArray.mk #[]))] [(0, (.int .u8 4)), (3, v0)] fun t21 =>
  stnK 4 t2 t21 (fun w8 =>
  ldnK 4 t2 (fun r0_2 w9 =>
  K (.tuple #[r0_2, (.int .i64 0)]) w9) w8) w5)) w4) w1)) w
theorem S210_eq (v0 : Value) (K : Cont) (w : World) : S210 v0 K w = D Tryz.prog okf 22 (bodyOf Tryz.f210) (.node [] [] .nil (.node [] [] (.node [] [] .nil (.node [] [] (.node [] [] .nil .nil) .nil)) (.node [] [] (.node [] [] .nil (.node [] [] .nil (.node [] [] (.node [] [] .nil .nil) .nil))) (.node [] [] .nil .nil)))) (retK Tryz.prog [.cell 2 107, .tmp 3] K) (nth [v0]) w := by kernel_rfl
theorem S210_ok {v0 : Value} {K : Cont} {w : World} (h : S210 v0 K w) : callK Tryz.prog 210 [v0] K w :=
  callK_of (P := Tryz.prog) (ok := okf) (n := 22) (fn := Tryz.f210) (c := bodyOf Tryz.f210) (rs := [.cell 2 107, .tmp 3]) (an := (.node [] [] .nil (.node [] [] (.node [] [] .nil (.node [] [] (.node [] [] .nil .nil) .nil)) (.node [] [] (.node [] [] .nil (.node [] [] .nil (.node [] [] (.node [] [] .nil .nil) .nil))) (.node [] [] .nil .nil))))) good mixed Tryz.func210 (by kernel_rfl) (by kernel_rfl) (by kernel_rfl) (by kernel_rfl) (Eq.mp (S210_eq v0 K w) h)

/-- math.IsNaN -/
def S216 (v0 : Value) (K : Cont) (w : World) : Prop :=
  runK Tryz.prog (binS .neq 254 (.tmp 3) (.tmp 4) v0 v0) (fun t5 w1 =>
  K t5 w1) w
theorem S216_eq (v0 : Value) (K : Cont) (w : World) : S216 v0 K w = D Tryz.prog okf 6 (bodyOf Tryz.f216) (.node [] [] .nil (.node [] [] .nil .nil)) (retK Tryz.prog [.tmp 2] K) (nth [v0]) w := by kernel_rfl
theorem S216_ok {v0 : Value} {K : Cont} {w : World} (h : S216 v0 K w) : callK Tryz.prog 216 [v0] K w :=
  callK_of (P := Tryz.prog) (ok := okf) (n := 6) (fn := Tryz.f216) (c := bodyOf Tryz.f216) (rs := [.tmp 2]) (an := (.node [] [] .nil (.node [] [] .nil .nil))) good mixed Tryz.func216 (by kernel_rfl) (by kernel_rfl) (by kernel_rfl) (by kernel_rfl) (Eq.mp (S216_eq v0 K w) h)

/-- rubric/runes.Read -/
def S114 (v0 : Value) (K : Cont) (w : World) : Prop :=
  callK Tryz.prog 174 [v0] (fun t8 w1 =>
  notK t8 fun t9 =>
  condK t9
  (K (.tuple #[(.slice none 0 0), (.int .i64 3)]) w1)
  (runK Tryz.prog (convert 70 9 v0) (fun t11 w2 =>
  runK Tryz.prog (Instr.range 9 t11) (fun t12 w3 =>
  LoopK [(.slice none 0 0)] (fun vs again w4 => ∀ _h : Env,
  runK Tryz.prog (Instr.next t12 true 0) (fun t13 w5 =>
  extK 0 t13 fun t14 =>
  condK t14
  (extK 2 t13 fun t15 =>
  rowK 21 1 1 [(.int .i32 0)] [(0, t15)] (fun t18 w6 =>
  runK Tryz.prog (Builtin.append_ #[35, 35] 35 [(nth vs 0), t18].toArray) (fun t19 w7 =>
  again [t19] w7) w6) w5)
  (K (.tuple #[(nth vs 0), (.int .i64 0)]) w5)) w4) w3) w2) w1)) w
theorem S114_eq (v0 : Value) (K : Cont) (w : World) : S114 v0 K w = D Tryz.prog okf 21 (bodyOf Tryz.f114) (.node [] [] .nil (.node [] [] (.node [] [] .nil (.node [] [] (.node [] [] .nil .nil) .nil)) (.node [] [] .nil (.node [] [] (.node [] [] .nil (.node [4] [(4, 4), (6, 6), (13, 19)] (.node [] [] .nil (.node [] [] (.node [] [] .nil .nil) (.node [] [] .nil .nil))) .nil)) (.node [] [] .nil .nil))))) (retK Tryz.prog [.tmp 2, .tmp 3] K) (nth [v0]) w := by kernel_rfl
theorem S114_ok {v0 : Value} {K : Cont} {w : World} (h : S114 v0 K w) : callK Tryz.prog 114 [v0] K w :=
  callK_of (P := Tryz.prog) (ok := okf) (n := 21) (fn := Tryz.f114) (c := bodyOf Tryz.f114) (rs := [.tmp 2, .tmp 3]) (an := (.node [] [] .nil (.node [] [] (.node [] [] .nil (.node [] [] (.node [] [] .nil .nil) .nil)) (.node [] [] .nil (.node [] [] (.node [] [] .nil (.node [4] [(4, 4), (6, 6), (13, 19)] (.node [] [] .nil (.node [] [] (.node [] [] .nil .nil) (.node [] [] .nil .nil))) .nil)) (.node [] [] .nil .nil)))))) good mixed Tryz.func114 (by kernel_rfl) (by kernel_rfl) (by kernel_rfl) (by kernel_rfl) (Eq.mp (S114_eq v0 K w) h)

/-- unicode/utf8.Valid -/
def S174 (v0 : Value) (K : Cont) (w : World) : Prop :=
  lenK v0 fun t9 =>
  lenK v0 fun t11 =>
  runK Tryz.prog (Instr.sliceAt 70 v0 none (some t9) (some t11)) (fun t12 w1 =>
  LoopK [t12] (fun vs again w2 => ∀ _h : Env,
  lenK (nth vs 0) fun t14 =>
  gtK .i64 t14 (.int .i64 0) fun t15 =>
  condK t15
  (ixK 1 (nth vs 0) (.int .i64 0) fun t17 =>
  ld1K t17 (fun t18 w3 =>
  ltK .u8 t18 (.int .u8 128) fun t20 =>
  condK t20
  (runK Tryz.prog (Instr.sliceAt 70 (nth vs 0) (some (.int .i64 1)) none none) (fun t22 w4 =>
  JoinK (fun vs_1 w5 => ∀ _h_1 : Env,
  condK (nth vs_1 0)
  (runK Tryz.prog (Instr.sliceAt 70 t22 (some (.int .i64 8)) none none) (fun t33 w6 =>
  JoinK (fun vs_2 w7 => ∀ _h_2 : Env,
  condK (nth vs_2 0)
  (runK Tryz.prog (Instr.sliceAt 70 t33 (some (.int .i64 16)) none none) (fun t48 w8 =>
  LoopK [t48] (fun vs_3 again_1 w9 => ∀ _h_3 : Env,
  DrawK w9 (fun C =>
  lenK (nth vs_3 0) fun t50 =>
  gtK .i64 t50 (.int .i64 32) fun t51 =>
  condK t51
  (qcallK Tryz.prog C 200 [(nth vs_3 0)] fun t54 =>
  qrunK Tryz.prog C (Instr.sliceAt 70 (nth vs_3 0) (some (.int .i64 8)) none none) fun t56 =>
  qcallK Tryz.prog C 200 [t56] fun t57 =>
  qrunK Tryz.prog C (binS .or 12 (.tmp 54) (.tmp 57) t54 t57) fun t58 =>
  qrunK Tryz.prog C (Instr.sliceAt 70 (nth vs_3 0) (some (.int .i64 16)) none none) fun t60 =>
  qcallK Tryz.prog C 200 [t60] fun t61 =>
  qrunK Tryz.prog C (Instr.sliceAt 70 (nth vs_3 0) (some (.int .i64 24)) none none) fun t63 =>
  qcallK Tryz.prog C 200 [t63] fun t64 =>
  qrunK Tryz.prog C (binS .or 12 (.tmp 61) (.tmp 64) t61 t64) fun t65 =>
  qrunK Tryz.prog C (binS .or 12 (.tmp 58) (.tmp 65) t58 t65) fun t66 =>
  qrunK Tryz.prog C (binS .and 12 (.tmp 66) (.const (.int .u64 9259542123273814144)) t66 (.int .u64 9259542123273814144)) fun t67 =>
  eqK .u64 t67 (.int .u64 0) fun t68 =>
  ∀ w10 : World, C w10 →
  condK t68
  (runK Tryz.prog (Instr.sliceAt 70 (nth vs_3 0) (some (.int .i64 32)) none none) (fun t71 w11 =>
  again_1 [t71] w11) w10)
  (again [(nth vs_3 0)] w10))
  (∀ w12 : World, C w12 →
  again [(nth vs_3 0)] w12))) w8) w7)
  (again [t33] w7)) (fun J_1 =>
  DrawK w6 (fun C_1 =>
  lenK t33 fun t35 =>
  gtK .i64 t35 (.int .i64 16) fun t36 =>
  condK t36
  (qcallK Tryz.prog C_1 200 [t33] fun t39 =>
  qrunK Tryz.prog C_1 (Instr.sliceAt 70 t33 (some (.int .i64 8)) none none) fun t41 =>
  qcallK Tryz.prog C_1 200 [t41] fun t42 =>
  qrunK Tryz.prog C_1 (binS .or 12 (.tmp 39) (.tmp 42) t39 t42) fun t43 =>
  qrunK Tryz.prog C_1 (binS .and 12 (.tmp 43) (.const (.int .u64 9259542123273814144)) t43 (.int .u64 9259542123273814144)) fun t44 =>
  eqK .u64 t44 (.int .u64 0) fun t45 =>
  ∀ w14 : World, C_1 w14 →
  J_1 [t45] w14)
  (∀ w15 : World, C_1 w15 →
  J_1 [(.bool false)] w15)))) w5)
  (again [t22] w5)) (fun J =>
  lenK t22 fun t24 =>
  gtK .i64 t24 (.int .i64 8) fun t25 =>
  condK t25
  (callK Tryz.prog 200 [t22] (fun t28 w16 =>
  runK Tryz.prog (binS .and 12 (.tmp 28) (.const (.int .u64 9259542123273814144)) t28 (.int .u64 9259542123273814144)) (fun t29 w17 =>
  eqK .u64 t29 (.int .u64 0) fun t30 =>
  J [t30] w17) w16) w4)
  (J [(.bool false)] w4))) w3)
  (runK Tryz.prog (Instr.indexAt 242 (.pointer (some ⟨0, 0, none⟩)) t18) (fun t73 w18 =>
  ld1K t73 (fun t74 w19 =>
  runK Tryz.prog (binS .and 5 (.tmp 75) (.const (.int .u8 7)) t74 (.int .u8 7)) (fun t76 w20 =>
  runK Tryz.prog (convert 5 3 t76) (fun t77 w21 =>
  runK Tryz.prog (binS .shr 5 (.tmp 78) (.const (.int .u64 4)) t74 (.int .u64 4)) (fun t79 w22 =>
  runK Tryz.prog (Instr.indexAt 245 (.pointer (some ⟨1, 0, none⟩)) t79) (fun t80 w23 =>
  ldnK 2 t80 (fun t81 w24 =>
  newK 244 [(.int .u8 0), (.int .u8 0)] (fun t6 w25 =>
  stnK 2 t6 t81 (fun w26 =>
  eqK .i64 t77 (.int .i64 2) fun t84 =>
  condK t84
  (JoinK (fun _vs_4 w27 => ∀ _h_4 : Env,
  runK Tryz.prog (Instr.sliceAt 70 (nth vs 0) (some (.int .i64 2)) none none) (fun t105 w28 =>
  again [t105] w28) w27) (fun J_2 =>
  DrawK w26 (fun C_2 =>
  lenK (nth vs 0) fun t86 =>
  ltK .i64 t86 (.int .i64 2) fun t87 =>
  condK t87
  (∀ w29 : World, C_2 w29 →
  K (.bool false) w29)
  (ixK 1 (nth vs 0) (.int .i64 1) fun t90 =>
  qld1K C_2 t90 fun t91 =>
  faK 0 t6 fun t92 =>
  qld1K C_2 t92 fun t93 =>
  ltK .u8 t91 t93 fun t94 =>
  condK t94
  (∀ w30 : World, C_2 w30 →
  K (.bool false) w30)
  (faK 1 t6 fun t97 =>
  qld1K C_2 t97 fun t98 =>
  ixK 1 (nth vs 0) (.int .i64 1) fun t100 =>
  qld1K C_2 t100 fun t101 =>
  ltK .u8 t98 t101 fun t102 =>
  ∀ w31 : World, C_2 w31 →
  condK t102
  (K (.bool false) w31)
  (J_2 [] w31))))))
  (eqK .i64 t77 (.int .i64 3) fun t107 =>
  condK t107
  (JoinK (fun _vs_5 w32 => ∀ _h_5 : Env,
  runK Tryz.prog (Instr.sliceAt 70 (nth vs 0) (some (.int .i64 3)) none none) (fun t140 w33 =>
  again [t140] w33) w32) (fun J_3 =>
  DrawK w26 (fun C_3 =>
  lenK (nth vs 0) fun t109 =>
  ltK .i64 t109 (.int .i64 3) fun t110 =>
  condK t110
  (∀ w34 : World, C_3 w34 →
  K (.bool false) w34)
  (ixK 1 (nth vs 0) (.int .i64 1) fun t113 =>
  qld1K C_3 t113 fun t114 =>
  faK 0 t6 fun t115 =>
  qld1K C_3 t115 fun t116 =>
  ltK .u8 t114 t116 fun t117 =>
  condK t117
  (∀ w35 : World, C_3 w35 →
  K (.bool false) w35)
  (faK 1 t6 fun t120 =>
  qld1K C_3 t120 fun t121 =>
  ixK 1 (nth vs 0) (.int .i64 1) fun t123 =>
  qld1K C_3 t123 fun t124 =>
  ltK .u8 t121 t124 fun t125 =>
  condK t125
  (∀ w36 : World, C_3 w36 →
  K (.bool false) w36)
  (ixK 1 (nth vs 0) (.int .i64 2) fun t129 =>
  qld1K C_3 t129 fun t130 =>
  ltK .u8 t130 (.int .u8 128) fun t131 =>
  condK t131
  (∀ w37 : World, C_3 w37 →
  K (.bool false) w37)
  (ixK 1 (nth vs 0) (.int .i64 2) fun t135 =>
  qld1K C_3 t135 fun t136 =>
  ltK .u8 (.int .u8 191) t136 fun t137 =>
  ∀ w38 : World, C_3 w38 →
  condK t137
  (K (.bool false) w38)
  (J_3 [] w38))))))))
  (eqK .i64 t77 (.int .i64 4) fun t142 =>
  condK t142
  (JoinK (fun _vs_6 w39 => ∀ _h_6 : Env,
  runK Tryz.prog (Instr.sliceAt 70 (nth vs 0) (some (.int .i64 4)) none none) (fun t187 w40 =>
  again [t187] w40) w39) (fun J_4 =>
  DrawK w26 (fun C_4 =>
  lenK (nth vs 0) fun t144 =>
  ltK .i64 t144 (.int .i64 4) fun t145 =>
  condK t145
  (∀ w41 : World, C_4 w41 →
  K (.bool false) w41)
  (ixK 1 (nth vs 0) (.int .i64 1) fun t148 =>
  qld1K C_4 t148 fun t149 =>
  faK 0 t6 fun t150 =>
  qld1K C_4 t150 fun t151 =>
  ltK .u8 t149 t151 fun t152 =>
  condK t152
  (∀ w42 : World, C_4 w42 →
  K (.bool false) w42)
  (faK 1 t6 fun t155 =>
  qld1K C_4 t155 fun t156 =>
  ixK 1 (nth vs 0) (.int .i64 1) fun t158 =>
  qld1K C_4 t158 fun t159 =>
  ltK .u8 t156 t159 fun t160 =>
  condK t160
  (∀ w43 : World, C_4 w43 →
  K (.bool false) w43)
  (ixK 1 (nth vs 0) (.int .i64 2) fun t164 =>
  qld1K C_4 t164 fun t165 =>
  ltK .u8 t165 (.int .u8 128) fun t166 =>
  condK t166
  (∀ w44 : World, C_4 w44 →
  K (.bool false) w44)
  (ixK 1 (nth vs 0) (.int .i64 2) fun t170 =>
  qld1K C_4 t170 fun t171 =>
  ltK .u8 (.int .u8 191) t171 fun t172 =>
  condK t172
  (∀ w45 : World, C_4 w45 →
  K (.bool false) w45)
  (ixK 1 (nth vs 0) (.int .i64 3) fun t176 =>
  qld1K C_4 t176 fun t177 =>
  ltK .u8 t177 (.int .u8 128) fun t178 =>
  condK t178
  (∀ w46 : World, C_4 w46 →
  K (.bool false) w46)
  (ixK 1 (nth vs 0) (.int .i64 3) fun t182 =>
  qld1K C_4 t182 fun t183 =>
  ltK .u8 (.int .u8 191) t183 fun t184 =>
  ∀ w47 : World, C_4 w47 →
  condK t184
  (K (.bool false) w47)
  (J_4 [] w47))))))))))
  (K (.bool false) w26)))) w25) w24) w23) w22) w21) w20) w19) w18) w3)) w2)
  (K (.bool true) w2)) w1) w
theorem S174_eq (v0 : Value) (K : Cont) (w : World) : S174 v0 K w = D Tryz.prog okf 188 (bodyOf Tryz.f174) (.node [] [] .nil (.node [] [] .nil (.node [] [] (.node [0] [(0, 0), (2, 6), (13, 187)] (.node [] [] (.node [] [] .nil (.node [] [] .nil .nil)) (.node [] [] .nil (.node [] [] (.node [] [] .nil (.node [] [] (.node [] [] .nil (.node [] [] (.cut [31] [(23, 31)] .nil (.node [] [] (.node [] [] .nil (.cut [46] [(34, 46)] .draw (.node [] [] (.node [] [] .nil (.node [0] [(0, 0), (49, 71)] (.node [] [] (.node [] [] .draw (.node [] [] .nil .nil)) .nil) .nil)) .nil))) .nil)) .nil)) .nil)) (.node [] [] .nil (.node [] [] .nil (.node [] [] .nil (.node [] [] .nil (.node [] [] .nil (.node [] [] (.cut [] [(2, 2), (85, 103)] (.node [] [] .draw (.node [] [] (.node [] [] .nil .nil) .nil)) .nil) (.node [] [] .nil (.node [] [] (.cut [] [(2, 2), (108, 138)] (.node [] [] .draw (.node [] [] (.node [] [] .nil .nil) .nil)) .nil) (.node [] [] .nil (.node [] [] (.cut [] [(2, 2), (143, 185)] (.node [] [] .draw (.node [] [] (.node [] [] .nil .nil) .nil)) .nil) (.node [] [] .nil .nil)))))))))))))) .nil) (.node [] [] .nil .nil)))) (retK Tryz.prog [.tmp 2] K) (nth [v0]) w := by kernel_rfl
theorem S174_ok {v0 : Value} {K : Cont} {w : World} (h : S174 v0 K w) : callK Tryz.prog 174 [v0] K w :=
  callK_of (P := Tryz.prog) (ok := okf) (n := 188) (fn := Tryz.f174) (c := bodyOf Tryz.f174) (rs := [.tmp 2]) (an := (.node [] [] .nil (.node [] [] .nil (.node [] [] (.node [0] [(0, 0), (2, 6), (13, 187)] (.node [] [] (.node [] [] .nil (.node [] [] .nil .nil)) (.node [] [] .nil (.node [] [] (.node [] [] .nil (.node [] [] (.node [] [] .nil (.node [] [] (.cut [31] [(23, 31)] .nil (.node [] [] (.node [] [] .nil (.cut [46] [(34, 46)] .draw (.node [] [] (.node [] [] .nil (.node [0] [(0, 0), (49, 71)] (.node [] [] (.node [] [] .draw (.node [] [] .nil .nil)) .nil) .nil)) .nil))) .nil)) .nil)) .nil)) (.node [] [] .nil (.node [] [] .nil (.node [] [] .nil (.node [] [] .nil (.node [] [] .nil (.node [] [] (.cut [] [(2, 2), (85, 103)] (.node [] [] .draw (.node [] [] (.node [] [] .nil .nil) .nil)) .nil) (.node [] [] .nil (.node [] [] (.cut [] [(2, 2), (108, 138)] (.node [] [] .draw (.node [] [] (.node [] [] .nil .nil) .nil)) .nil) (.node [] [] .nil (.node [] [] (.cut [] [(2, 2), (143, 185)] (.node [] [] .draw (.node [] [] (.node [] [] .nil .nil) .nil)) .nil) (.node [] [] .nil .nil)))))))))))))) .nil) (.node [] [] .nil .nil))))) good mixed Tryz.func174 (by kernel_rfl) (by kernel_rfl) (by kernel_rfl) (by kernel_rfl) (Eq.mp (S174_eq v0 K w) h)

/-- unicode/utf8.word[[]byte] -/
def S200 (v0 : Value) (K : Cont) (w : World) : Prop :=
  DrawK w (fun C_1 =>
  ixK 1 v0 (.int .i64 0) fun t26 =>
  qld1K C_1 t26 fun t27 =>
  qrunK Tryz.prog C_1 (convert 5 34 t27) fun t28 =>
  ixK 1 v0 (.int .i64 1) fun t30 =>
  qld1K C_1 t30 fun t31 =>
  qrunK Tryz.prog C_1 (convert 5 34 t31) fun t32 =>
  qrunK Tryz.prog C_1 (binS .shl 34 (.tmp 32) (.const (.int .u64 8)) t32 (.int .u64 8)) fun t33 =>
  qrunK Tryz.prog C_1 (binS .or 34 (.tmp 28) (.tmp 33) t28 t33) fun t34 =>
  ixK 1 v0 (.int .i64 2) fun t36 =>
  qld1K C_1 t36 fun t37 =>
  qrunK Tryz.prog C_1 (convert 5 34 t37) fun t38 =>
  qrunK Tryz.prog C_1 (binS .shl 34 (.tmp 38) (.const (.int .u64 16)) t38 (.int .u64 16)) fun t39 =>
  qrunK Tryz.prog C_1 (binS .or 34 (.tmp 34) (.tmp 39) t34 t39) fun t40 =>
  ixK 1 v0 (.int .i64 3) fun t42 =>
  qld1K C_1 t42 fun t43 =>
  qrunK Tryz.prog C_1 (convert 5 34 t43) fun t44 =>
  qrunK Tryz.prog C_1 (binS .shl 34 (.tmp 44) (.const (.int .u64 24)) t44 (.int .u64 24)) fun t45 =>
  qrunK Tryz.prog C_1 (binS .or 34 (.tmp 40) (.tmp 45) t40 t45) fun t46 =>
  ixK 1 v0 (.int .i64 4) fun t48 =>
  qld1K C_1 t48 fun t49 =>
  qrunK Tryz.prog C_1 (convert 5 34 t49) fun t50 =>
  qrunK Tryz.prog C_1 (binS .shl 34 (.tmp 50) (.const (.int .u64 32)) t50 (.int .u64 32)) fun t51 =>
  qrunK Tryz.prog C_1 (binS .or 34 (.tmp 46) (.tmp 51) t46 t51) fun t52 =>
  ixK 1 v0 (.int .i64 5) fun t54 =>
  qld1K C_1 t54 fun t55 =>
  qrunK Tryz.prog C_1 (convert 5 34 t55) fun t56 =>
  qrunK Tryz.prog C_1 (binS .shl 34 (.tmp 56) (.const (.int .u64 40)) t56 (.int .u64 40)) fun t57 =>
  qrunK Tryz.prog C_1 (binS .or 34 (.tmp 52) (.tmp 57) t52 t57) fun t58 =>
  ixK 1 v0 (.int .i64 6) fun t60 =>
  qld1K C_1 t60 fun t61 =>
  qrunK Tryz.prog C_1 (convert 5 34 t61) fun t62 =>
  qrunK Tryz.prog C_1 (binS .shl 34 (.tmp 62) (.const (.int .u64 48)) t62 (.int .u64 48)) fun t63 =>
  qrunK Tryz.prog C_1 (binS .or 34 (.tmp 58) (.tmp 63) t58 t63) fun t64 =>
  ixK 1 v0 (.int .i64 7) fun t66 =>
  qld1K C_1 t66 fun t67 =>
  qrunK Tryz.prog C_1 (convert 5 34 t67) fun t68 =>
  qrunK Tryz.prog C_1 (binS .shl 34 (.tmp 68) (.const (.int .u64 56)) t68 (.int .u64 56)) fun t69 =>
  qrunK Tryz.prog C_1 (binS .or 34 (.tmp 64) (.tmp 69) t64 t69) fun t70 =>
  ∀ w2 : World, C_1 w2 →
  K t70 w2)
theorem S200_eq (v0 : Value) (K : Cont) (w : World) : S200 v0 K w = D Tryz.prog okf 71 (bodyOf Tryz.f200) (.node [] [] .nil (.node [] [] (.node [] [] (.node [] [] .draw .nil) .nil) (.node [] [] .draw .nil))) (retK Tryz.prog [.tmp 2] K) (nth [v0]) w := by kernel_rfl
theorem S200_ok {v0 : Value} {K : Cont} {w : World} (h : S200 v0 K w) : callK Tryz.prog 200 [v0] K w :=
  callK_of (P := Tryz.prog) (ok := okf) (n := 71) (fn := Tryz.f200) (c := bodyOf Tryz.f200) (rs := [.tmp 2]) (an := (.node [] [] .nil (.node [] [] (.node [] [] (.node [] [] .draw .nil) .nil) (.node [] [] .draw .nil)))) good mixed Tryz.func200 (by kernel_rfl) (by kernel_rfl) (by kernel_rfl) (by kernel_rfl) (Eq.mp (S200_eq v0 K w) h)

end Go.Proofs.YtlbaopamhkmepaaGreatDoor

namespace Go.K
open Go
theorem slice_lo_run {P : Program} {t e k : Nat} {i : TypeInfo} {a : Option Addr} {n c j : Nat} (ht : P.underlying t = some (.slice e)) (hi : P.info? e = some i) (hk : i.size = k) (hj : j ≤ n) (w : World) : (Instr.sliceAt t (.slice a n c) (some (.int .i64 j)) none none).run P w = .ok (sliced a j n c k) w := by
  have hel : P.elem t = e := by simp [Program.elem, ht]
  rw [run_sliceAt_slice _ _ _ _ _ _ (by rw [hel]; exact ht), run_slice_l _ _ _ _ _ (by rw [hel]; exact ht) _ _ (by omega) (by omega), hel]
  simp [sizeOf, typeInfo, hi, hk]
theorem slice_lo_sl {α : Type} {k : Nat} {R : World → List Value → α → Prop} {S : Nat → Prop} {w : World} {a : Option Addr} {n c : Nat} {l : List α} {j : Nat} (h : SlR S k R w (.slice a n c) l) (hj : j ≤ l.length) : SlR S k R w (sliced a j n c k) (l.drop j) := by
  obtain ⟨a', c', e1, h1, h2, h3⟩ := h
  cases e1
  unfold sliced
  refine ⟨_, _, by rw [List.length_drop], by rw [List.length_drop]; omega, by omega, fun q x hx => ?_⟩
  rw [List.getElem?_drop] at hx
  obtain ⟨p, r, rfl, hS, hr, hc, hR⟩ := h3 _ x hx
  have hlt := (List.getElem?_eq_some_iff.1 hx).1
  rw [if_neg (by omega)]
  refine ⟨p.add (j * k), r, rfl, by rw [add_block]; exact hS, hr, fun m u hu => ?_, hR⟩
  rw [Addr.add_add, ← Nat.add_assoc, ← Nat.add_mul]
  exact hc m u hu
theorem slice_all_run {P : Program} {t e k : Nat} {i : TypeInfo} {a : Option Addr} {n c : Nat} (ht : P.underlying t = some (.slice e)) (hi : P.info? e = some i) (hk : i.size = k) (hc : n ≤ c) (w : World) : ∃ a', (Instr.sliceAt t (.slice a n c) none (some (.int .i64 n)) (some (.int .i64 n))).run P w = .ok (.slice a' n n) w ∧ (0 < n → a' = a) := by
  have hel : P.elem t = e := by simp [Program.elem, ht]
  refine ⟨if n = 0 then a else a.map (·.add (0 * k)), ?_, fun h => ?_⟩
  · rw [run_sliceAt_slice _ _ _ _ _ _ (by rw [hel]; exact ht)]
    simp [Instr.slice, run_underlying ht, Instr.sliceBounds, run_sliceBound, hc, sizeOf, typeInfo, hi, hk, Result.andThen]
  · rw [if_neg (by omega)]
    cases a with
    | none => rfl
    | some a => simp [Addr.add]
theorem run_indexAt_arr {P : Program} {t e n s : Nat} {i : TypeInfo} {k : IntKind} {a : Addr} {j : Int} {w : World} (ht : P.underlying t = some (.array n e)) (hi : P.info? e = some i) (hs : i.size = s) (h0 : 0 ≤ j) (h1 : j < n) : (Instr.indexAt t (.pointer (some a)) (.int k j)).run P w = .ok (.pointer (some (a.add (j.toNat * s)))) w := by
  simp [Instr.indexAt, Instr.sureAddr, run_underlying ht, asIntOf, sizeOf, typeInfo, hi, hs, h0, h1, Result.andThen]
theorem run_conv {P : Program} {s d : TypeId} {q k : IntKind} {n : Int} (w : World) (hs : (P.underlying s).isSome = true) (hd : P.underlying d = some (.int k)) : (convert s d (.int q n)).run P w = .ok (.int k (k.wrap n)) w := by
  obtain ⟨e, he⟩ := Option.isSome_iff_exists.mp hs
  simp [convert, run_underlying he, run_underlying hd, Conv.intToInt]
theorem run_shl {P : Program} {t : TypeId} {xo yo : Operand} {k q : IntKind} {a : Int} {n : Nat} (w : World) (hn : n ≤ k.bits) : (binS .shl t xo yo (.int k a) (.int q n)).run P w = .ok (.int k (k.wrap (a * 2 ^ n))) w := by
  have h0 : ¬ ((n : Int) < 0) := by omega
  simp [binS, eqGuard, binOp, Op.shift, Nat.min_eq_left hn, h0]
theorem run_shr {P : Program} {t : TypeId} {xo yo : Operand} {k q : IntKind} {a : Int} {n : Nat} (w : World) (hn : n ≤ k.bits) : (binS .shr t xo yo (.int k a) (.int q n)).run P w = .ok (.int k (a.fdiv (2 ^ n))) w := by
  have h0 : ¬ ((n : Int) < 0) := by omega
  simp [binS, eqGuard, binOp, Op.shift, Nat.min_eq_left hn, h0]
theorem run_bits {P : Program} {t : TypeId} {xo yo : Operand} {k : IntKind} {a b : Int} (w : World) : (binS .or t xo yo (.int k a) (.int k b)).run P w = .ok (.int k (k.wrap (BitVec.ofInt k.bits a ||| BitVec.ofInt k.bits b).toNat)) w ∧ (binS .and t xo yo (.int k a) (.int k b)).run P w = .ok (.int k (k.wrap (BitVec.ofInt k.bits a &&& BitVec.ofInt k.bits b).toNat)) w := by
  constructor <;> simp [binS, eqGuard, binOp, Op.intBits]
end Go.K
namespace Go.Proofs.YtlbaopamhkmepaaGreatDoor
open Go Go.K

theorem run_or64 {t : TypeId} {xo yo : Operand} {a b : Int} (w : World) (ha : U64 a) (hb : U64 b) : (binS .or t xo yo (.int .u64 a) (.int .u64 b)).run Tryz.prog w = .ok (.int .u64 (orN a b)) w := by
  rw [(run_bits w).1]
  have e : ((BitVec.ofInt IntKind.u64.bits a ||| BitVec.ofInt IntKind.u64.bits b).toNat : Int) = orN a b := bv_or ha hb
  rw [e, wrapu64 (orN_U ha hb)]
theorem run_and64 {t : TypeId} {xo yo : Operand} {a b : Int} (w : World) (ha : U64 a) (hb : U64 b) : (binS .and t xo yo (.int .u64 a) (.int .u64 b)).run Tryz.prog w = .ok (.int .u64 ((a.toNat &&& b.toNat : Nat) : Int)) w := by
  rw [(run_bits w).2]
  have e : ((BitVec.ofInt IntKind.u64.bits a &&& BitVec.ofInt IntKind.u64.bits b).toNat : Int) = ((a.toNat &&& b.toNat : Nat) : Int) := bv_and ha hb
  rw [e, wrapu64 ⟨by omega, ?_⟩]
  have := Nat.and_le_left (n := a.toNat) (m := b.toNat)
  have := ha.2
  have := ha.1
  omega
def shB (x : Int) (j : Nat) : Int := x * 2 ^ (8 * j)
/-- eight bytes as a word -/
def wordN (b : List Int) : Int := orN (orN (orN (orN (orN (orN (orN (b.getD 0 0) (shB (b.getD 1 0) 1)) (shB (b.getD 2 0) 2)) (shB (b.getD 3 0) 3)) (shB (b.getD 4 0) 4)) (shB (b.getD 5 0) 5)) (shB (b.getD 6 0) 6)) (shB (b.getD 7 0) 7)
abbrev ByteL (b : List Int) : Prop := ∀ x ∈ b, 0 ≤ x ∧ x < 256
theorem ByteL.getD {b : List Int} (h : ByteL b) (j : Nat) : 0 ≤ b.getD j 0 ∧ b.getD j 0 < 256 := by
  rw [List.getD_eq_getElem?_getD]
  cases e : b[j]? with
  | none => simp
  | some x => exact h x (List.mem_iff_getElem?.2 ⟨j, e⟩)
theorem ByteL.drop {b : List Int} (h : ByteL b) (j : Nat) : ByteL (b.drop j) := fun x hx => h x (List.mem_of_mem_drop hx)
theorem byte_U {x : Int} (h : 0 ≤ x ∧ x < 256) : U64 x := ⟨h.1, by omega⟩
theorem wordN_U {b : List Int} (h : ByteL b) : U64 (wordN b) := by
  have u : ∀ j, j < 8 → U64 (shB (b.getD j 0) j) := fun j hj => hib_u hj (h.getD j).1 (h.getD j).2
  unfold wordN
  exact orN_U (orN_U (orN_U (orN_U (orN_U (orN_U (orN_U (byte_U (h.getD 0)) (u 1 (by decide))) (u 2 (by decide))) (u 3 (by decide))) (u 4 (by decide))) (u 5 (by decide))) (u 6 (by decide))) (u 7 (by decide))
theorem wordN_hi {b : List Int} (h : ByteL b) {j : Nat} (hj : j < 8) (hx : 128 ≤ b.getD j 0) : HiB (wordN b) j := by
  have hh := (hib_byte hj hx (h.getD j).2).2
  unfold wordN
  rcases (show j = 0 ∨ j = 1 ∨ j = 2 ∨ j = 3 ∨ j = 4 ∨ j = 5 ∨ j = 6 ∨ j = 7 by omega) with rfl | rfl | rfl | rfl | rfl | rfl | rfl | rfl
  · rw [show b.getD 0 0 * 2 ^ (8 * 0) = b.getD 0 0 by omega] at hh
    exact .l (.l (.l (.l (.l (.l (.l hh))))))
  · exact .l (.l (.l (.l (.l (.l (.r hh))))))
  · exact .l (.l (.l (.l (.l (.r hh)))))
  · exact .l (.l (.l (.l (.r hh))))
  · exact .l (.l (.l (.r hh)))
  · exact .l (.l (.r hh))
  · exact .l (.r hh)
  · exact .r hh
theorem word_step {C : World → Prop} {p : Addr} {n c : Nat} {b : Int} {j : Nat} {m : Int} {xo yo : Operand} {k : Value → Prop} (hj : j < n) (hm : m = 8 * j) (hj8 : j < 8) (hb : 0 ≤ b ∧ b < 256) (hc : ∀ w, C w → w.cell? (p.add (j * 1)) = some (.int .u8 b)) (hk : k (.int .u64 (shB b j))) :
    ixK 1 (.slice (some p) n c) (.int .i64 j) fun t30 => qld1K C t30 fun t31 => qrunK Tryz.prog C (convert 5 34 t31) fun t32 => qrunK Tryz.prog C (binS .shl 34 xo yo t32 (.int .u64 m)) k := by
  refine ixK_n hj (qld1K_i hc ⟨.int .u64 (IntKind.u64.wrap b), fun w _ => run_conv (k := .u64) w (by kernel_rfl) (by kernel_rfl), ?_⟩)
  rw [wrapu64 (byte_U hb)]
  subst hm
  refine ⟨_, fun w _ => ?_, hk⟩
  have e := run_shl (P := Tryz.prog) (t := 34) (xo := xo) (yo := yo) (k := .u64) (q := .u64) (a := b) (n := 8 * j) w (by show 8 * j ≤ 64; omega)
  rw [wrapu64 (hib_u hj8 hb.1 hb.2)] at e
  have e2 : ((8 * j : Nat) : Int) = 8 * (j : Int) := by omega
  rw [e2] at e
  exact e
theorem word_ok {S : Nat → Prop} {v : Value} {b : List Int} {w : World} (h : RBytes S w v b) (hb : ByteL b) (hl : 8 ≤ b.length) :
    callK Tryz.prog 200 [v] (fun v' w' => v' = .int .u64 (wordN b) ∧ Grow w w') w := by
  apply S200_ok
  unfold S200
  obtain ⟨a, c, rfl, hm⟩ := h.shape
  have cell : ∀ j (hj : j < b.length), ∃ p, a = some p ∧ w.cell? (p.add (j * 1)) = some (.int .u8 (b.getD j 0)) := by
    intro j hj
    obtain ⟨p, r, rfl, _, hr, hc, rfl⟩ := h.get hj
    refine ⟨p, rfl, ?_⟩
    rw [List.getD_eq_getElem?_getD, List.getElem?_eq_getElem hj]
    exact hc 0 _ rfl
  obtain ⟨p, rfl, c0⟩ := cell 0 (by omega)
  have cellp : ∀ j, j < b.length → w.cell? (p.add (j * 1)) = some (.int .u8 (b.getD j 0)) := fun j hj => by obtain ⟨p', e, hc⟩ := cell j hj; cases e; exact hc
  refine drawK_i (fun w2 => Grow w w2) (Mod.drew _ _) ?_
  have hc : ∀ j, j < b.length → ∀ w2, Grow w w2 → w2.cell? (p.add (j * 1)) = some (.int .u8 (b.getD j 0)) := fun j hj w2 g => g.cell (cellp j hj) fun h => h
  have u : ∀ j, j < 8 → U64 (shB (b.getD j 0) j) := fun j hj => hib_u hj (hb.getD j).1 (hb.getD j).2
  refine ixK_n (j := 0) (by omega) (qld1K_i (hc 0 (by omega)) ⟨.int .u64 (IntKind.u64.wrap (b.getD 0 0)), fun w _ => run_conv (k := .u64) w (by kernel_rfl) (by kernel_rfl), ?_⟩)
  rw [wrapu64 (byte_U (hb.getD 0))]
  have u0 := byte_U (hb.getD 0)
  refine word_step (j := 1) (by omega) rfl (by decide) (hb.getD 1) (hc 1 (by omega)) ⟨_, fun w _ => run_or64 w u0 (u 1 (by decide)), ?_⟩
  have u1 := orN_U u0 (u 1 (by decide))
  refine word_step (j := 2) (by omega) rfl (by decide) (hb.getD 2) (hc 2 (by omega)) ⟨_, fun w _ => run_or64 w u1 (u 2 (by decide)), ?_⟩
  have u2 := orN_U u1 (u 2 (by decide))
  refine word_step (j := 3) (by omega) rfl (by decide) (hb.getD 3) (hc 3 (by omega)) ⟨_, fun w _ => run_or64 w u2 (u 3 (by decide)), ?_⟩
  have u3 := orN_U u2 (u 3 (by decide))
  refine word_step (j := 4) (by omega) rfl (by decide) (hb.getD 4) (hc 4 (by omega)) ⟨_, fun w _ => run_or64 w u3 (u 4 (by decide)), ?_⟩
  have u4 := orN_U u3 (u 4 (by decide))
  refine word_step (j := 5) (by omega) rfl (by decide) (hb.getD 5) (hc 5 (by omega)) ⟨_, fun w _ => run_or64 w u4 (u 5 (by decide)), ?_⟩
  have u5 := orN_U u4 (u 5 (by decide))
  refine word_step (j := 6) (by omega) rfl (by decide) (hb.getD 6) (hc 6 (by omega)) ⟨_, fun w _ => run_or64 w u5 (u 6 (by decide)), ?_⟩
  have u6 := orN_U u5 (u 6 (by decide))
  refine word_step (j := 7) (by omega) rfl (by decide) (hb.getD 7) (hc 7 (by omega)) ⟨_, fun w _ => run_or64 w u6 (u 7 (by decide)), ?_⟩
  exact fun w2 g => ⟨rfl, g⟩
/-- a word without a high bit: eight bytes of ASCII -/
theorem word_ascii {b : List Int} (hb : ByteL b) (h : ((wordN b).toNat &&& 9259542123273814144 : Nat) = 0) {j : Nat} (hj : j < 8) : b.getD j 0 < 128 := by
  have := hib_none h hj
  have hx : ¬ 128 ≤ b.getD j 0 := fun hx => this (wordN_hi hb hj hx)
  omega
end Go.Proofs.YtlbaopamhkmepaaGreatDoor

namespace Go.K
open Go
theorem addr_at (g o x : Nat) : (⟨g, o, none⟩ : Addr).add x = ⟨g, o + x, none⟩ := by unfold Addr.add; split <;> simp_all
/-- cells in a row written over -/
theorem setL_at {g off : Nat} : ∀ (vs : List Value) (q : Nat) (W : World), (∀ j, q ≤ j → j < q + vs.length → Live W ⟨g, off + j, none⟩) →
    Mod (fun x => x = g) W (setL W ⟨g, off, none⟩ q vs) ∧ (∀ j u, vs[j]? = some u → (setL W ⟨g, off, none⟩ q vs).cell? ⟨g, off + q + j, none⟩ = some u) ∧ (∀ j, (j < off + q ∨ off + q + vs.length ≤ j) → (setL W ⟨g, off, none⟩ q vs).cell? ⟨g, j, none⟩ = W.cell? ⟨g, j, none⟩) ∧ (∀ a, Live W a → Live (setL W ⟨g, off, none⟩ q vs) a) := by
  intro vs
  induction vs with
  | nil => intro q W _; exact ⟨Mod.refl _ _, fun j u hu => by simp at hu, fun _ _ => rfl, fun _ h => h⟩
  | cons x vs ih =>
    intro q W hl
    simp only [setL]
    rw [addr_at]
    have hl0 := hl q (Nat.le_refl _) (by simp)
    obtain ⟨i1, i2, i3, i4⟩ := ih (q + 1) (W.setCell ⟨g, off + q, none⟩ x) fun j h1 h2 => (hl j (by omega) (by simp; omega)).set _ _
    refine ⟨(Mod.setCell (M := fun x => x = g) W ⟨g, off + q, none⟩ x rfl).trans i1, fun j u hu => ?_, fun j hj => ?_, fun a ha => i4 a (ha.set _ _)⟩
    · cases j with
      | zero =>
        simp at hu; subst hu
        obtain ⟨u', hu'⟩ := Option.isSome_iff_exists.1 hl0.1
        rw [i3 _ (.inl (by omega))]
        exact World.cell?_setCell_same _ _ _ hu'
      | succ j =>
        have := i2 j u (by simpa using hu)
        rw [show off + q + (j + 1) = off + (q + 1) + j by omega]; exact this
    · simp only [List.length_cons] at hj
      rw [i3 j (by omega), World.cell?_setCell_other _ _ _ _ (by intro e; simp only [Addr.mk.injEq] at e; omega)]
/-- elements side by side in a block, to be written over -/
structure RowG {α : Type} (k : Nat) (cs : α → List Value) (W : World) (g : Nat) (L : List α) : Prop where
  cells : ∀ m (h : m < L.length) j u, (cs L[m])[j]? = some u → W.cell? ⟨g, m * k + j, none⟩ = some u
  live : ∀ m j, m < L.length → j < k → Live W ⟨g, m * k + j, none⟩
section
variable {α : Type} {k : Nat} {cs : α → List Value} {W W' : World} {g : Nat} {L : List α}
theorem RowG.mod {M : Nat → Prop} (h : RowG k cs W g L) (m : Mod M W W') (hg : ¬ M g) : RowG k cs W' g L := ⟨fun i hi j u hu => m.cell (h.cells i hi j u hu) hg, fun i j hi hj => (h.live i j hi hj).mod m hg⟩
theorem RowG.store {i : Nat} {x : α} {K : World → Prop} (h : RowG k cs W g L) (hi : i < L.length) (hk : ∀ y, (cs y).length = k) (h1 : ∀ v ∈ cs x, v.oneCell' = true)
    (hK : ∀ W', RowG k cs W' g (L.set i x) → Mod (fun b => b = g) W W' → K W') : stnK k (.pointer (some ⟨g, i * k, none⟩)) (.agg (cs x).toArray) K W := by
  have lv : ∀ j, j < k → Live W ((⟨g, i * k, none⟩ : Addr).add j) := fun j hj => by rw [addr_at]; exact h.live i j hi hj
  obtain ⟨q1, q2, q3, q4⟩ := setL_at (g := g) (off := i * k) (cs x) 0 W fun j _ hj => h.live i j hi (by have := hk x; omega)
  refine ⟨_, cs x, rfl, rfl, hk x, h1, fun j hj => lv j hj, hK _ ⟨fun m hm j u hu => ?_, fun m j hm hj => q4 _ (h.live m j (by simpa using hm) hj)⟩ q1⟩
  rw [List.getElem_set] at hu
  split at hu
  · rename_i e
    subst e
    have := q2 j u hu
    rwa [Nat.add_zero] at this
  · rename_i hne
    have hm' : m < L.length := by simpa using hm
    have hj : j < k := by have := (List.getElem?_eq_some_iff.1 hu).1; rw [hk] at this; exact this
    rw [q3]
    · exact h.cells m hm' j u hu
    · rw [hk]
      rcases Nat.lt_or_gt_of_ne hne with e | e
      · right
        have : (i + 1) * k ≤ m * k := Nat.mul_le_mul_right _ e
        rw [Nat.add_mul] at this; omega
      · left
        have : (m + 1) * k ≤ i * k := Nat.mul_le_mul_right _ e
        rw [Nat.add_mul] at this; omega
theorem RowG.of {B e n c : Nat} {R : World → List Value → α → Prop} (h : OwnR B e k R W (.slice (some ⟨g, 0, none⟩) n c) L) (hk : 0 < k) (hR : ∀ r x, R W r x → r = cs x) : RowG k cs W g L := by
  refine ⟨fun m hm j u hu => ?_, fun m j hm hj => ?_⟩
  · obtain ⟨rows, h1, h2, h3, h4⟩ := id h
    obtain ⟨a, r, e1, _, hr, hc, hx⟩ := (OwnR.sl h).get hm
    cases e1
    have := hc j u (by rw [hR _ _ hx]; exact hu)
    rwa [addr_at, Nat.zero_add] at this
  · obtain ⟨g', e1, _, hl⟩ := OwnR.live h hm hj
    cases e1
    rwa [addr_at, Nat.zero_add] at hl
end
theorem zero_one {zero : Array Value} {n : Nat} (hz : 0 < zero.size) (h1 : ∀ v ∈ zero.toList, v.oneCell' = true) : ∀ v ∈ (Builtin.zeroCells zero n).toList, v.oneCell' = true := by
  intro v hv
  simp only [Builtin.zeroCells, Array.toList_map, List.mem_map] at hv
  obtain ⟨i, _, rfl⟩ := hv
  refine h1 _ ?_
  have : i % zero.size < zero.size := Nat.mod_lt _ hz
  rw [getElem!_pos zero _ this]
  exact Array.getElem_mem_toList this
/-- the end of a row cleared -/
theorem clear_end {P : Program} {t e k : Nat} {i : TypeInfo} {zv : Value} {W : World} {g off m c : Nat} (hu : P.underlying t = some (.slice e)) (hi : P.info? e = some i) (hz : i.zero = some zv) (hk : zv.cells.size = k) (hk0 : 0 < k) (h1 : ∀ v ∈ zv.cells.toList, v.oneCell' = true) (hm : 0 < m)
    (hl : ∀ j, j < m * k → Live W ⟨g, off + j, none⟩) : ∃ W', (Builtin.clear_ #[t] 0 [.slice (some ⟨g, off, none⟩) m c].toArray).run P W = .ok (.tuple #[]) W' ∧ Mod (fun x => x = g) W W' ∧ ∀ j, j < off → W'.cell? ⟨g, j, none⟩ = W.cell? ⟨g, j, none⟩ := by
  have hlen : (Builtin.zeroCells zv.cells m).toList.length = m * k := by rw [Array.length_toList, size_zeroCells, hk]
  have lv : ∀ j, 0 ≤ j → j < 0 + (Builtin.zeroCells zv.cells m).toList.length → Live W ⟨g, off + j, none⟩ := fun j _ hj => hl j (by omega)
  obtain ⟨q1, _, q3, _⟩ := setL_at (g := g) (off := off) (Builtin.zeroCells zv.cells m).toList 0 W lv
  have hrun := setL_run (P := P) (⟨g, off, none⟩ : Addr) (Builtin.zeroCells zv.cells m).toList 0 W (zero_one (by omega) h1) (fun j h0 hj => by rw [addr_at]; exact lv j h0 hj)
  refine ⟨_, ?_, q1, fun j hj => q3 j (.inl (by omega))⟩
  have hv : (zeroValue e).run P W = .ok zv W := by simp [zeroValue, typeInfo, hi, hz]
  obtain ⟨m, rfl⟩ : ∃ q, m = q + 1 := ⟨m - 1, by omega⟩
  simp [Builtin.clear_, run_underlying hu, hv, hrun]
end Go.K
namespace Go.Proofs.YtlbaopamhkmepaaGreatDoor
open Go Go.K

/-- a function of changes that tells true or false -/
def Tells (G : World → Prop) (fv : Value) (del : Chg → Bool) : Prop := ∀ W c (K : Cont), G W → (∀ W', Grow W W' → K (.bool (del c)) W') → callyK Tryz.prog okf fv [.agg c.cells.toArray] K W
theorem idxc_ok {S : Nat → Prop} {v fv : Value} {p : List Chg} {del : Chg → Bool} {w : World} (h : RPat S w v p) (hf : Tells (Grow w) fv del) :
    callK Tryz.prog 218 [v, fv] (fun v' w' => Grow w w' ∧ ((v' = .int .i64 (-1) ∧ ∀ c ∈ p, del c = false) ∨ ∃ i : Nat, ∃ hi : i < p.length, v' = .int .i64 i ∧ del p[i] = true ∧ ∀ c ∈ p.take i, del c = false)) w := by
  apply S218_ok
  unfold S218
  obtain ⟨a, c, rfl, hm⟩ := h.shape
  simp only [maxLen] at hm
  rw [lenK_i]
  refine LoopK_i (fun vs W => ∃ i : Nat, i ≤ p.length ∧ vs = [.int .i64 i] ∧ Grow w W ∧ ∀ c ∈ p.take i, del c = false) (fun vs _ => p.length - iOf vs 0) ⟨0, Nat.zero_le _, rfl, Mod.refl _ _, by simp⟩ ?_
  rintro vs W ⟨i, hi, rfl, g, hall⟩ _
  rw [nth_z, List.headD_cons, ltK_i]
  refine condK_p (fun hlt => ?_) fun hge => ?_
  · have hlt' : i < p.length := by omega
    obtain ⟨q, r, rfl, _, hr, hc, rfl⟩ := (h.grow g (by decide) fun _ _ h => h).get hlt'
    refine ixK_n hlt' (ldnK_i hr (fun j u hu => by rw [Addr.add_add]; exact hc j u hu) ?_)
    refine hf W p[i] _ g fun W' g' => ?_
    cases e : del p[i] with
    | true => exact condK_t ⟨g.trans g', .inr ⟨i, hlt', rfl, e, hall⟩⟩
    | false =>
      refine condK_f ?_
      rw [addK_i, loop_step (by omega)]
      refine ⟨⟨i + 1, hlt', rfl, g.trans g', fun c hc => ?_⟩, by rw [iOf0, iOf0]; omega⟩
      rw [List.take_add_one, List.getElem?_eq_getElem hlt'] at hc
      rcases List.mem_append.1 hc with hc | hc
      · exact hall c hc
      · simp at hc; subst hc; exact e
  · have : i = p.length := by omega
    subst this
    exact ⟨g, .inl ⟨rfl, fun c hc => hall c (by rw [List.take_length]; exact hc)⟩⟩
theorem Chg.len (c : Chg) : c.cells.length = 6 := rfl
set_option maxRecDepth 20000 in
theorem delf_ok {B : Nat} {v fv : Value} {p : List Chg} {del : Chg → Bool} {w : World} (ho : OwnR B 111 6 RChg w v p) (hsz : p.length ≤ 1099511627776) (hf : Tells (Mod (fun b => v.ownBlock = some b) w) fv del) :
    callK Tryz.prog 214 [v, fv] (fun v' w' => RPat (fun b => v.ownBlock = some b) w' v' (p.filter fun c => !del c) ∧ Mod (fun b => v.ownBlock = some b) w w') w := by
  apply S214_ok
  unfold S214
  refine callK_mono (idxc_ok (OwnR.sl ho) fun W c K g hK => hf W c K (g.mono fun _ _ e => e.elim) hK) ?_
  rintro _ w1 ⟨g1, ⟨rfl, hall⟩ | ⟨i0, hi0, rfl, hd, hall⟩⟩
  · rw [eqK_i]
    refine condK_p (fun _ => ?_) fun e => (e rfl).elim
    rw [List.filter_eq_self.2 fun c hc => by rw [hall c hc]; rfl]
    exact ⟨SlR.sub (OwnR.sl (OwnR.mod ho g1 (fun _ _ h => h) fun _ _ _ h => h)) (fun b _ h => h.2) (by decide) fun _ _ h => h, g1.mono fun _ _ e => e.elim⟩
  rw [eqK_i]
  refine condK_p (fun e => absurd e (by omega)) fun _ => ?_
  obtain ⟨a, c, rfl, hlc, hcm, hp, hn⟩ := OwnR.shape ho
  cases a with
  | none => rw [hn rfl] at hi0; simp at hi0
  | some q =>
  obtain ⟨g, rfl, hgB, hgw, hown⟩ := hp q rfl
  have hoM : ∀ b, (Value.slice (some ⟨g, 0, none⟩) p.length c).ownBlock = some b ↔ b = g := fun b => ⟨fun e => by cases e; rfl, fun e => by subst e; rfl⟩
  simp only [hoM] at hf ⊢
  have R0 : RowG 6 Chg.cells w g p := RowG.of ho (by decide) fun _ _ h => h
  have R1 := R0.mod g1 fun h => h
  rw [addK_i, loop_step (by omega)]
  -- what stays of what was looked at
  refine LoopK_i (fun vs W => ∃ (i j : Nat) (L : List Chg), i < j ∧ j ≤ p.length ∧ vs = [.int .i64 i, .int .i64 j] ∧ L.length = p.length ∧ RowG 6 Chg.cells W g L ∧ L.take i = (p.take j).filter (fun c => !del c) ∧ L.drop j = p.drop j ∧ Mod (fun b => b = g) w W) (fun vs _ => p.length - iOf vs 1)
    ⟨i0, i0 + 1, p, by omega, hi0, rfl, rfl, R1, ?_, rfl, g1.mono fun _ _ e => e.elim⟩ ?_
  · rw [List.take_add_one, List.getElem?_eq_getElem hi0, List.filter_append, List.filter_eq_self.2 fun c hc => by rw [hall c hc]; rfl]
    simp [hd]
  rintro vs W ⟨i, j, L, hij, hj, rfl, hL, hR, ht, hdr, hm⟩ _
  simp only [nth_s, nth_z, List.headD_cons, List.tail_cons]
  rw [lenK_i, ltK_i]
  refine condK_p (fun hlt => ?_) fun hge => ?_
  · have hlt' : j < p.length := by omega
    have hLj : L[j]'(by omega) = p[j] := by
      have e := congrArg List.head? hdr
      rw [List.head?_drop, List.head?_drop, List.getElem?_eq_getElem (by omega), List.getElem?_eq_getElem hlt'] at e
      exact Option.some.inj e
    refine ixK_n hlt' ?_
    rw [addr0]
    refine ldnK_i (vs := p[j].cells) rfl (fun q u hu => by rw [addr_at]; exact hR.cells j (by omega) q u (by rw [hLj]; exact hu)) ?_
    refine newst_n (vs := p[j].cells) rfl rfl (RChg.one (w := W) (x := p[j]) rfl) fun b7 w4 hb7 hz7 g4 hc7 _ => ?_
    have hgW : g < W.heap.size := Nat.lt_of_lt_of_le hgw hm.size
    refine ldnK_i (vs := p[j].cells) rfl hc7 ?_
    refine hf w4 p[j] _ (hm.next g4 fun _ _ e => e.elim) fun W5 g5 => ?_
    have R5 := (hR.mod g4 fun h => h).mod g5 fun h => h
    have m5 := (hm.next g4 fun _ _ e => e.elim).next g5 fun _ _ e => e.elim
    have et : (p.take (j + 1)).filter (fun c => !del c) = (p.take j).filter (fun c => !del c) ++ if del p[j] then [] else [p[j]] := by
      rw [List.take_add_one, List.getElem?_eq_getElem hlt', List.filter_append]
      cases e : del p[j] <;> simp [e]
    have hdr1 : L.drop (j + 1) = p.drop (j + 1) := by have := congrArg (List.drop 1) hdr; simpa [List.drop_drop] using this
    cases e : del p[j] with
    | true =>
      rw [notK_i]
      refine condK_f ?_
      rw [addK_i, loop_step (by omega)]
      rw [e, if_pos rfl, List.append_nil] at et
      refine ⟨⟨i, j + 1, L, by omega, hlt', rfl, hL, R5, by rw [et]; exact ht, ?_, m5⟩, by rw [iOf1, iOf1]; omega⟩
      exact hdr1
    | false =>
      rw [notK_i]
      refine condK_t ?_
      refine ldnK_i (vs := p[j].cells) rfl (fun q u hu => g5.cell (hc7 q u hu) fun h => h) ?_
      refine ixK_n (by omega) ?_
      rw [addr0]
      refine R5.store (i := i) (x := p[j]) (by omega) Chg.len (RChg.one (w := W) (x := p[j]) rfl) fun W6 R6 m6 => ?_
      rw [addK_i, addK_i, loop_step (by omega), loop_step (by omega)]
      rw [e, if_neg (by decide)] at et
      refine ⟨⟨i + 1, j + 1, L.set i p[j], by omega, hlt', rfl, by simp [hL], R6, ?_, ?_, m5.trans m6⟩, by rw [iOf1, iOf1]; omega⟩
      · rw [et, ← ht, List.take_set, List.take_add_one, List.getElem?_eq_getElem (by omega), List.set_append_right _ _ (by simp; omega)]
        simp [Nat.min_eq_left (show i ≤ L.length by omega)]
      · rw [List.drop_set_of_lt (by omega)]
        exact hdr1
  · obtain rfl : j = p.length := by omega
    rw [List.take_length] at ht
    refine runK_i (slice_lo_run (e := 111) (k := 6) (i := Tryz.t111) (by kernel_rfl) (by kernel_rfl) (by kernel_rfl) (by omega) W) ?_
    have esl : sliced (some (⟨g, 0, none⟩ : Addr)) i p.length c 6 = .slice (some ⟨g, i * 6, none⟩) (p.length - i) (c - i) := by
      unfold sliced
      rw [if_neg (by omega)]
      simp only [Option.map_some, addr0]
    rw [esl]
    obtain ⟨W2, hr, m2, h2⟩ := clear_end (P := Tryz.prog) (t := 37) (e := 111) (k := 6) (i := Tryz.t111) (zv := .agg (⟨0, false, AVal.zero⟩ : Chg).cells.toArray) (W := W) (g := g) (off := i * 6) (m := p.length - i) (c := c - i) (by kernel_rfl) (by kernel_rfl) (by kernel_rfl) (by kernel_rfl) (by decide)
      (fun u hu => RChg.one (w := W) (x := ⟨0, false, AVal.zero⟩) rfl u (by simpa [Value.cells] using hu)) (by omega) fun q hq => by
        have := hR.live (i + q / 6) (q % 6) (by omega) (Nat.mod_lt _ (by decide))
        rwa [show (i + q / 6) * 6 + q % 6 = i * 6 + q by omega] at this
    refine runK_i hr ?_
    refine runK_i (slice_hi_run (e := 111) (k := 6) (i := Tryz.t111) (by kernel_rfl) (by kernel_rfl) (by kernel_rfl) (by omega) W2) ?_
    refine ⟨?_, hm.trans m2⟩
    rw [← ht]
    have hlt : (L.take i).length = i := by simp; omega
    refine ⟨_, _, by rw [hlt], by omega, by omega, fun m x hx => ?_⟩
    obtain ⟨hmi, hx'⟩ := List.getElem?_eq_some_iff.1 hx
    rw [List.getElem_take] at hx'
    subst hx'
    refine ⟨⟨g, 0, none⟩, _, rfl, rfl, rfl, fun q u hu => ?_, rfl⟩
    have hq : q < 6 := (List.getElem?_eq_some_iff.1 hu).1
    rw [addr0, h2 _ (by omega)]
    exact hR.cells m (by omega) q u hu
def keepC (ks : List DKey) (b : Bool) (c : Chg) : Bool := match findK ks c.key with | some k => decide (k.block = b) | none => false
theorem part1_ok {D : Nat → Prop} {sv : Value} {ks : List DKey} {b : Bool} {c : Chg} {b3 b5 : Nat} {w : World} (hS : SchR D w sv ks) (h3 : w.cell? ⟨b3, 0, none⟩ = some sv) (h5 : w.cell? ⟨b5, 0, none⟩ = some (.bool b)) :
    callK Tryz.prog 215 [.agg c.cells.toArray, .pointer (some ⟨b3, 0, none⟩), .pointer (some ⟨b5, 0, none⟩)] (fun v' w' => v' = .bool (!keepC ks b c) ∧ Grow w w') w := by
  apply S215_ok
  unfold S215
  refine boxn_i fun b0 w1 hb0 hz1 g1 hc1 _ => ?_
  refine ld1K_i (g1.cell h3 fun h => h) ?_
  rw [faK_i]
  refine ld1K_i (hc1 0 _ rfl) ?_
  refine callK_mono (sfind_ok (hS.grow g1) c.key) ?_
  rintro _ w2 ⟨rfl, g2⟩
  refine extK_i (vs := [_, _]) (by rfl) (extK_i (vs := [_, _]) (by rfl) ?_)
  refine newst_n (vs := ((findK ks c.key).getD DKey.zero).cells) rfl rfl (RKey.one (w := w2) (x := (findK ks c.key).getD DKey.zero) rfl) fun b4 w3 hb4 hz4 g3 hc3 _ => ?_
  have g13 := (g1.trans g2).trans g3
  rw [notK_i]
  unfold keepC
  cases e : findK ks c.key with
  | none => exact condK_t ⟨rfl, g13⟩
  | some k =>
    rw [e] at hc3
    refine condK_f ?_
    rw [faK_i]
    refine ld1K_i (hc3 1 _ rfl) ?_
    refine ld1K_i (g13.cell h5 fun h => h) ?_
    rw [bneK_i]
    refine ⟨?_, g13⟩
    show Value.bool (k.block != b) = .bool (!decide (k.block = b))
    cases k.block <;> cases b <;> rfl
theorem ppart_ok {D S : Nat → Prop} {sv pv : Value} {ks : List DKey} {b : Bool} {p : List Chg} {w : World} (hS : SchR D w sv ks) (hp : RPat S w pv p) (hl : p.length ≤ 1099511627776) :
    callK Tryz.prog 204 [sv, pv, .bool b] (fun v' w' => RPat (fun x => w.heap.size ≤ x) w' v' (partP ks b p) ∧ Grow w w') w := by
  apply S204_ok
  unfold S204
  have hsv : sv.cells = #[sv] := by
    obtain ⟨b, m, kv, l, rfl, _⟩ := hS
    rfl
  have hS' : SchR (fun x => D x ∧ x < w.heap.size) w sv ks := hS.sub fun x hx h => ⟨h, hx⟩
  refine ⟨hsv, newz_i fun b3 w1 hb3 hz1 g1 hc1 _ => ?_⟩
  refine ⟨rfl, newz_i fun b5 w2 hb5 hz2 g2 hc2 _ => ?_⟩
  refine callK_mono (clone_pat (hp.grow (g1.trans g2) (by decide) fun _ _ h => h) (by omega)) ?_
  rintro v3 w3 ⟨o3, g3⟩
  have c3 : w2.cell? ⟨b3, 0, none⟩ = some sv := by have := g2.cell (hc1 0 _ rfl) fun h => h; rwa [addr0] at this
  have c5 : w2.cell? ⟨b5, 0, none⟩ = some (.bool b) := by have := hc2 0 _ rfl; rwa [addr0] at this
  have hown : ∀ x, v3.ownBlock = some x → w2.heap.size ≤ x := fun x e => (OwnR.ownB o3 x e).1
  have g13 := (g1.trans g2).trans g3
  have tl : Tells (Mod (fun x => v3.ownBlock = some x) w3) (.func (.func 215) #[] #[.pointer (some ⟨b3, 0, none⟩), .pointer (some ⟨b5, 0, none⟩)]) fun c => !keepC ks b c := by
    intro W c K m hK
    refine .inl ⟨_, [], [.pointer (some ⟨b3, 0, none⟩), .pointer (some ⟨b5, 0, none⟩)], rfl, by kernel_rfl, ?_⟩
    refine callK_mono (part1_ok ((hS'.grow g13).mod m fun x _ hx e => ?_) (m.cell (g3.cell c3 fun h => h) fun e => ?_) (m.cell (g3.cell c5 fun h => h) fun e => ?_)) ?_
    · have := hown _ e; have := hx.2; have := (g1.trans g2).size; omega
    · have h : w2.heap.size ≤ b3 := hown _ e
      omega
    · have h : w2.heap.size ≤ b5 := hown _ e
      omega
    · rintro _ W' ⟨rfl, g⟩; exact hK W' g
  refine callK_mono (delf_ok o3 hl tl) ?_
  rintro v4 w4 ⟨h4, m4⟩
  have e : (p.filter fun c => !(!keepC ks b c)) = partP ks b p := by simp only [Bool.not_not]; rfl
  rw [e] at h4
  refine ⟨SlR.sub h4 (fun x _ e => by have := hown x e; have := (g1.trans g2).size; omega) (by decide) fun _ _ h => h, ?_⟩
  exact g13.next m4 fun x hx e => by have := hown x e; have := (g1.trans g2).size; omega
/-- a cell with a patch on it -/
theorem acell_ok {D S S' : Nat → Prop} {sv cv pv : Value} {ks : List DKey} {r : Int} {s : List Attr} {p : List Chg} {w : World} (hS : SchR D w sv ks) (hs : RSet S w cv s) (hp : RPat S' w pv p) (hl : s.length + p.length ≤ 1099511627776) :
    callK Tryz.prog 186 [sv, .agg #[.int .i32 r, cv], pv] (fun v' w' => ∃ cv', v' = .agg #[.int .i32 r, cv'] ∧ OSet w.heap.size w' cv' (cellP ks s p r) ∧ Grow w w') w := by
  apply S186_ok
  unfold S186
  refine boxn_i (vs := [.int .i32 r, cv]) fun b4 w1 hb4 hz1 g1 hc1 _ => ?_
  refine newz_i fun b6 w2 hb6 hz2 g2 hc2 hl2 => ?_
  have gd : Grow w2 w2.drew := Mod.drew _ _
  have zd : w2.drew.heap.size = w2.heap.size := rfl
  have g0 := (g1.trans g2).trans gd
  have c4 : ∀ j u, ([.int .i32 r, cv] : List Value)[j]? = some u → w2.drew.cell? ((⟨b4, 0, none⟩ : Addr).add j) = some u := fun j u hu => gd.cell (g2.cell (hc1 j u hu) fun h => h) fun h => h
  have ne : b4 ≠ b6 := by omega
  refine drawC_i (fun k y => k = 12 ∧ y = b6) ?_
  rw [faK_i]
  refine sld1_i ⟨c4 0 _ rfl, fun j _ e => by rw [add_block] at e; exact ne e.2⟩ ?_
  rw [faK_i]
  refine sld1_i ⟨c4 1 _ rfl, fun j _ e => by rw [add_block] at e; exact ne e.2⟩ ?_
  rw [faK_i]
  refine sld1_i ⟨c4 0 _ rfl, fun j _ e => by rw [add_block] at e; exact ne e.2⟩ ?_
  rw [eqK_i]
  refine callK_mono (ppart_ok (hS.grow g0) (hp.grow g0 (by decide) fun _ _ h => h) (by omega)) ?_
  rintro v3 w3 ⟨h3, g3⟩
  refine ⟨g3.mono fun _ _ e => e.elim, ?_⟩
  have hpl : (partP ks (decide (r = 10)) p).length ≤ p.length := List.length_filter_le _ _
  refine callK_mono (papp_ok (hs.grow (g0.trans g3) (by decide) fun _ _ h => h) h3 (by omega)) ?_
  rintro v4 w4 ⟨o4, g4⟩
  refine ⟨g4.mono fun _ _ e => e.elim, ?_⟩
  have o1 := OwnR.one o4
  obtain ⟨a4, k4, e4, _⟩ := OwnR.shape o4
  refine ⟨#[.int .i32 r, v4], by subst e4; kernel_rfl, ?_⟩
  have z3 := g3.size
  have z4 := g4.size
  refine stn_over (vs := [.int .i32 r, v4]) rfl (fun u hu => by simp at hu; rcases hu with rfl | rfl; rfl; exact o1.1) (fun j hj => (((hl2 j hj).mod gd fun h => h).mod g3 fun h => h).mod g4 fun h => h) fun w5 m5 hc5 _ => ?_
  refine ⟨m5.mono fun x _ e => ⟨rfl, e⟩, ?_⟩
  refine ldnK_i (vs := [.int .i32 r, v4]) rfl hc5 ⟨v4, rfl, ?_, ?_⟩
  · have : OSet w.heap.size w4 v4 (cellP ks s p r) := o4.base fun g hg => by have := (OwnR.ownB o4 g hg).1; have := (g0.trans g3).size; omega
    refine OwnR.mod this m5 (fun g hg e => ?_) fun _ _ _ h => h
    have := (OwnR.ownB o4 g hg).1
    omega
  · exact ((g0.trans g3).trans g4).next m5 fun x hx e => by omega
end Go.Proofs.YtlbaopamhkmepaaGreatDoor

namespace Go.K
open Go
theorem slice_lh {α : Type} {P : Program} {t e k : Nat} {i : TypeInfo} {R : World → List Value → α → Prop} {S : Nat → Prop} {w : World} {a : Option Addr} {n c : Nat} {l : List α} {j q : Nat} {K : Cont} (ht : P.underlying t = some (.slice e)) (hi : P.info? e = some i) (hk : i.size = k)
    (h : SlR S k R w (.slice a n c) l) (hjq : j ≤ q) (hq : q ≤ l.length) (hK : ∀ v', SlR S k R w v' ((l.take q).drop j) → K v' w) : runK P (Instr.sliceAt t (.slice a n c) (some (.int .i64 j)) (some (.int .i64 q)) none) K w := by
  obtain ⟨a', c', e1, h1, h2, h3⟩ := h
  cases e1
  have hel : P.elem t = e := by simp [Program.elem, ht]
  refine ⟨sliced a j q c k, w, ?_, hK _ ?_⟩
  · rw [run_sliceAt_slice _ _ _ _ _ _ (by rw [hel]; exact ht), run_slice_lh _ _ _ _ _ (by rw [hel]; exact ht) _ _ _ _ (by omega) (by omega) (by omega), hel]
    simp [sizeOf, typeInfo, hi, hk]
  · unfold sliced
    have hl : ((l.take q).drop j).length = q - j := by simp; omega
    refine ⟨_, _, by rw [hl], by rw [hl]; omega, by omega, fun m x hx => ?_⟩
    rw [List.getElem?_drop, List.getElem?_take] at hx
    split at hx
    · obtain ⟨p, r, rfl, hS, hr, hc, hR⟩ := h3 _ x hx
      rw [if_neg (by omega)]
      refine ⟨p.add (j * k), r, rfl, by rw [add_block]; exact hS, hr, fun y u hu => ?_, hR⟩
      rw [Addr.add_add, ← Nat.add_assoc, ← Nat.add_mul]
      exact hc y u hu
    · cases hx
end Go.K

namespace Go.Proofs.YtlbaopamhkmepaaGreatDoor
open Go Go.K

theorem opk_n {o : Dop} (h : Opk o) (hk : o.kind ≠ 2) : o.n = (lenN o : Nat) ∧ 1 ≤ o.n := by
  have := h.pos
  simp only [lenN, hk, if_false] at this ⊢
  omega
theorem restO_0 (o : Dop) : restO 0 o = o := by
  obtain ⟨k, n, rs, s, p⟩ := o
  unfold restO
  split
  · rename_i e; simp only at e; subst e; simp
  · simp
theorem restO_restO (a c : Nat) (o : Dop) : restO c (restO a o) = restO (a + c) o := by
  obtain ⟨k, n, rs, s, p⟩ := o
  by_cases e : k = 2
  · subst e; simp [restO, List.drop_drop]
  · simp [restO, e]; omega
/-- what a reader has still to tell -/
def remO (x : List Dop) (d : Nat) : List Dop := match x with
  | [] => []
  | o :: r => restO d o :: r
/-- a reader in memory -/
structure RdR (S D : Nat → Prop) (W : World) (b : Nat) (sv : Value) (x : List Dop) (d : Nat) : Prop where
  c0 : W.cell? ⟨b, 0, none⟩ = some sv
  c1 : W.cell? ⟨b, 1, none⟩ = some (.int .i64 d)
  live : ∀ j, j < 2 → Live W ⟨b, j, none⟩
  rd : RDops S D W sv x
  lt : ∀ y, S y ∨ D y → y < b
  opk : ∀ o ∈ x, Opk o
def RdI (S D : Nat → Prop) (W : World) (b : Nat) (u : List Dop) : Prop := ∃ sv x d, RdR S D W b sv x d ∧ (∀ o r, x = o :: r → d < lenN o) ∧ u = remO x d
/-- the first op's kind, and how much it can give -/
def kindH : List Dop → Int
  | [] => 1
  | o :: _ => o.kind
def longH : List Dop → Nat
  | [] => 536870912
  | o :: _ => lenN o
theorem longH_nil : longH [] = 536870912 := rfl
theorem longH_cons {o : Dop} {x : List Dop} : longH (o :: x) = lenN o := rfl
/-- how far a reader is from its end -/
def rank (W : World) (b : Nat) : Nat := match W.cell? ⟨b, 0, none⟩, W.cell? ⟨b, 1, none⟩ with
  | some (.slice _ n _), some (.int _ d) => n * 2147483648 - d.toNat
  | _, _ => 0
section
variable {S D M : Nat → Prop} {W W' : World} {b d : Nat} {sv : Value} {x u : List Dop}
theorem RdR.rank (h : RdR S D W b sv x d) : rank W b = x.length * 2147483648 - d := by
  obtain ⟨a, c, rfl, _⟩ := h.rd.shape
  unfold rank
  rw [h.c0, h.c1]
  simp
theorem RdI.rank_mod (h : RdI S D W b u) (m : Mod M W W') (hb : ¬ M b) : rank W' b = rank W b := by
  obtain ⟨sv, x, d, h1, _⟩ := h
  unfold rank
  rw [m.cell h1.c0 hb, m.cell h1.c1 hb, h1.c0, h1.c1]
theorem RdR.mod (h : RdR S D W b sv x d) (m : Mod M W W') (hb : ¬ M b) (hS : ∀ y, S y → ¬ M y) (hD : ∀ y, D y → ¬ M y) : RdR S D W' b sv x d :=
  ⟨m.cell h.c0 hb, m.cell h.c1 hb, fun j hj => (h.live j hj).mod m hb, RDops.mod h.rd m (fun y _ hy => hS y hy) fun y _ hy => hD y hy, h.lt, h.opk⟩
theorem RdR.grow (h : RdR S D W b sv x d) (g : Grow W W') : RdR S D W' b sv x d := h.mod g (fun h => h) (fun _ _ h => h) fun _ _ h => h
theorem RdI.mod (h : RdI S D W b u) (m : Mod M W W') (hb : ¬ M b) (hS : ∀ y, S y → ¬ M y) (hD : ∀ y, D y → ¬ M y) : RdI S D W' b u := by
  obtain ⟨sv, x, d, h1, h2, h3⟩ := h
  exact ⟨sv, x, d, h1.mod m hb hS hD, h2, h3⟩
theorem RdI.opk (h : RdI S D W b u) : ∀ o ∈ u, Opk o := by
  obtain ⟨sv, x, d, h1, h2, rfl⟩ := h
  cases x with
  | nil => intro o ho; simp [remO] at ho
  | cons o r =>
    intro q hq
    rcases List.mem_cons.1 hq with rfl | hq
    · have ho := h1.opk o (by simp)
      have hd := h2 o r rfl
      have := restO_len (n := d) (o := o) (by omega)
      exact ⟨by rw [restO_kind]; exact ho.k, by omega, by have := ho.le; omega⟩
    · exact h1.opk q (by simp [hq])
theorem rover_ok (h : RdI S D W b u) : callK Tryz.prog 142 [.pointer (some ⟨b, 0, none⟩)] (fun v' w' => v' = .bool (decide (u = [])) ∧ w' = W) W := by
  apply S142_ok
  unfold S142
  obtain ⟨sv, x, d, h1, h2, rfl⟩ := h
  obtain ⟨a, c, rfl, _⟩ := h1.rd.shape
  refine nilckK_s ?_
  rw [faK_i, addr0]
  refine ld1K_i h1.c0 ?_
  rw [lenK_i, eqK_i]
  refine ⟨?_, rfl⟩
  congr 1
  rw [decide_eq_decide]
  cases x with
  | nil => simp [remO]
  | cons o r => simp [remO]; omega
theorem rkind_ok (h : RdI S D W b u) : callK Tryz.prog 143 [.pointer (some ⟨b, 0, none⟩)] (fun v' w' => v' = .int .u8 (kindH u) ∧ w' = W) W := by
  apply S143_ok
  unfold S143
  refine callK_mono (rover_ok h) ?_
  rintro _ _ ⟨rfl, rfl⟩
  rename World => W
  obtain ⟨sv, x, d, h1, h2, rfl⟩ := h
  cases x with
  | nil =>
    rw [decide_eq_true (show remO [] d = [] from rfl)]
    exact condK_t ⟨rfl, rfl⟩
  | cons o r =>
    rw [decide_eq_false (show ¬ remO (o :: r) d = [] by simp [remO])]
    refine condK_f (nilckK_s ?_)
    rw [faK_i, addr0]
    refine ld1K_i h1.c0 ?_
    obtain ⟨a, c, rfl, _⟩ := h1.rd.shape
    obtain ⟨p, q, rfl, _, hq, hc, rv, sv, pv, rfl, _⟩ := h1.rd.get (i := 0) (by simp)
    refine ixK_n (j := 0) (by simp) ?_
    rw [faK_i, Addr.add_add]
    refine ld1K_i (hc 0 _ rfl) ⟨?_, rfl⟩
    simp [remO, restO_kind, kindH]
/-- how much is left of the first op -/
theorem rleft_ok {o : Dop} {r : List Dop} (h : RdR S D W b sv (o :: r) d) (hd : d ≤ lenN o) : callK Tryz.prog 184 [.pointer (some ⟨b, 0, none⟩)] (fun v' w' => v' = .int .i64 (lenN o - d : Nat) ∧ Grow W w') W := by
  apply S184_ok
  unfold S184
  have ho := h.opk o (by simp)
  have hle := ho.le
  obtain ⟨a, c, rfl, _⟩ := h.rd.shape
  obtain ⟨p, q, rfl, _, hq, hc, rv, sv', pv, rfl, hrv, _⟩ := h.rd.get (i := 0) (by simp)
  obtain ⟨ra, rc, rfl, _⟩ := hrv.shape
  have hc' : ∀ j u, ([.int .u8 o.kind, .int .i64 o.n, .slice ra o.runes.length rc, sv', pv] : List Value)[j]? = some u → W.cell? ((p.add (0 * 5)).add j) = some u := fun j u hu => by rw [Addr.add_add]; exact hc j u hu
  refine nilckK_s ?_
  rw [faK_i, addr0]
  refine ld1K_i h.c0 ?_
  refine ixK_n (j := 0) (by simp) ?_
  rw [faK_i]
  refine ld1K_i (hc' 0 _ rfl) ?_
  rw [eqK_i]
  refine condK_p (fun k2 => ?_) fun k2 => ?_
  · refine drawK_i (fun w => Grow W w) (Mod.drew _ _) ?_
    refine nilckK_s ?_
    rw [faK_i, addr0]
    refine qld1K_i (fun w hw => hw.cell h.c0 fun h => h) ?_
    refine ixK_n (j := 0) (by simp) ?_
    rw [faK_i]
    refine qld1K_i (fun w hw => hw.cell (hc' 2 _ rfl) fun h => h) ?_
    rw [lenK_i]
    refine nilckK_s ?_
    rw [faK_i, addr0]
    refine qld1K_i (fun w hw => hw.cell h.c1 fun h => h) ?_
    have hl : lenN o = o.runes.length := by simp [lenN, k2]
    rw [subK_i, wrap64 (by omega) (by omega)]
    intro w3 g3
    exact ⟨by rw [hl]; congr 1; omega, g3⟩
  · refine drawK_i (fun w => Grow W w) (Mod.drew _ _) ?_
    refine nilckK_s ?_
    rw [faK_i, addr0]
    refine qld1K_i (fun w hw => hw.cell h.c0 fun h => h) ?_
    refine ixK_n (j := 0) (by simp) ?_
    rw [faK_i]
    refine qld1K_i (fun w hw => hw.cell (hc' 1 _ rfl) fun h => h) ?_
    refine nilckK_s ?_
    rw [faK_i, addr0]
    refine qld1K_i (fun w hw => hw.cell h.c1 fun h => h) ?_
    have hl := opk_n ho k2
    rw [subK_i, wrap64 (by omega) (by omega)]
    intro w3 g3
    exact ⟨by congr 1; omega, g3⟩
theorem rlong_ok (h : RdI S D W b u) : callK Tryz.prog 146 [.pointer (some ⟨b, 0, none⟩)] (fun v' w' => v' = .int .i64 (longH u : Nat) ∧ Grow W w') W := by
  apply S146_ok
  unfold S146
  refine callK_mono (rover_ok h) ?_
  rintro _ _ ⟨rfl, rfl⟩
  rename World => W
  obtain ⟨sv, x, d, h1, h2, rfl⟩ := h
  cases x with
  | nil =>
    rw [decide_eq_true (show remO [] d = [] from rfl)]
    exact condK_t ⟨rfl, Mod.refl _ _⟩
  | cons o r =>
    rw [decide_eq_false (show ¬ remO (o :: r) d = [] by simp [remO])]
    refine condK_f ?_
    have hd := h2 o r rfl
    refine callK_mono (rleft_ok h1 (by omega)) ?_
    rintro _ w' ⟨rfl, g⟩
    refine ⟨?_, g⟩
    simp only [remO, longH, restO_len (show d ≤ lenN o by omega)]
theorem headO_rest (k : Nat) (o : Dop) : headO k (restO d o) = if o.kind = 2 then ⟨2, o.n, (o.runes.take (d + k)).drop d, o.set, o.patch⟩ else ⟨o.kind, k, o.runes, o.set, o.patch⟩ := by
  obtain ⟨q, n, rs, s, p⟩ := o
  by_cases e : q = 2
  · subst e
    simp only [headO, restO, if_true]
    rw [List.drop_take]; simp
  · simp [headO, restO, e]
set_option maxRecDepth 20000 in
theorem rtake_ok (h : RdI S D W b u) {n : Nat} (hn1 : 1 ≤ n) (hn2 : n ≤ 536870912) : callK Tryz.prog 145 [.pointer (some ⟨b, 0, none⟩), .int .i64 n] (fun v' w' => ∃ r o u', v' = .agg r.toArray ∧ RDop D w' r o ∧ RdI S D w' b u' ∧ Mod (fun y => y = b) W w' ∧
    ((u = [] ∧ o = ⟨1, n, [], [], []⟩ ∧ u' = [] ∧ rank w' b = rank W b) ∨ ∃ o1 u1, u = o1 :: u1 ∧ o = headO (min n (lenN o1)) o1 ∧ u' = behind (min n (lenN o1)) u ∧ rank w' b < rank W b)) W := by
  apply S145_ok
  unfold S145
  refine newz_i fun b4 w1 hb4 hz1 g1 hc1 hl1 => ?_
  have hI := h.mod g1 (fun h => h) (fun _ _ h => h) fun _ _ h => h
  refine callK_mono (rover_ok hI) ?_
  rintro _ _ ⟨rfl, rfl⟩
  rename World => w1
  have hbW : b < W.heap.size := by obtain ⟨sv, x, d, h1, _⟩ := h; exact World.block_lt_of_cell? W _ h1.c0
  obtain ⟨sv, x, d, h1, h2, rfl⟩ := hI
  cases x with
  | nil =>
    rw [decide_eq_true (show remO [] d = [] from rfl)]
    refine condK_t ⟨#[.int .u8 1, .int .i64 n, .slice none 0 0, .slice none 0 0, .slice none 0 0], by kernel_rfl, ?_⟩
    refine stn_over (vs := [.int .u8 1, .int .i64 n, .slice none 0 0, .slice none 0 0, .slice none 0 0]) rfl (fun u hu => by simp at hu; rcases hu with rfl | rfl | rfl <;> rfl) (fun j hj => hl1 j hj) fun w3 m3 hc3 _ => ?_
    refine ldnK_i (vs := [.int .u8 1, .int .i64 n, .slice none 0 0, .slice none 0 0, .slice none 0 0]) rfl hc3 ?_
    have m13 : Mod (fun y => y = b) W w3 := (g1.mono fun _ _ e => e.elim).next m3 fun y hy e => by omega
    refine ⟨_, ⟨1, n, [], [], []⟩, [], rfl, ⟨_, _, _, rfl, SlR.nil, SlR.nil, SlR.nil⟩, ?_, m13, .inl ⟨rfl, rfl, rfl, h.rank_mod ((g1.mono fun _ _ e => e.elim).next m3 fun y hy e => e : Mod (fun y => y = b4) W w3) (by omega)⟩⟩
    refine ⟨sv, [], d, ?_, h2, rfl⟩
    refine ⟨m3.cell h1.c0 (by intro e; simp only at e; omega), m3.cell h1.c1 (by intro e; simp only at e; omega), fun j hj => (h1.live j hj).mod m3 (by intro e; simp only at e; omega), ?_, h1.lt, h1.opk⟩
    have hs := h1.rd.shape
    obtain ⟨a, c, rfl, hm⟩ := hs
    obtain ⟨a', c', e, q1, q2, q3⟩ := h1.rd
    exact ⟨a', c', e, q1, q2, fun i y hy => by simp at hy⟩
  | cons o r =>
    rw [decide_eq_false (show ¬ remO (o :: r) d = [] by simp [remO])]
    refine condK_f (nilckK_s ?_)
    have hd := h2 o r rfl
    have ho := h1.opk o (by simp)
    have hle := ho.le
    rw [faK_i, addr0]
    refine ld1K_i h1.c0 ?_
    obtain ⟨a, c, rfl, _⟩ := h1.rd.shape
    obtain ⟨p, q, rfl, hSp, hq, hc, hop⟩ := h1.rd.get (i := 0) (by simp)
    refine ixK_n (j := 0) (by simp) ?_
    refine ldnK_i hq (fun j u hu => by rw [Addr.add_add]; exact hc j u hu) ?_
    refine newst_n hq rfl hop.one fun b5 w7 hb5 hz7 g7 hc7 hl7 => ?_
    have hbw : b < w1.heap.size := Nat.lt_of_lt_of_le hbW g1.size
    have h7 := h1.grow g7
    refine callK_mono (rleft_ok h7 (by omega)) ?_
    rintro _ w8 ⟨rfl, g8⟩
    have h8 := h7.grow g8
    have z7 := g7.size
    have z8 := g8.size
    have hop8 : RDop D w8 q o := hop.mod (g7.trans g8) (fun _ _ _ h => h) fun _ _ h => h
    have hc8 : ∀ j v, q[j]? = some v → w8.cell? ⟨b5, j, none⟩ = some v := fun j v hv => by have := g8.cell (hc7 j v hv) fun h => h; rwa [addr0] at this
    have hl8 : ∀ j, j < q.length → Live w8 ⟨b5, j, none⟩ := fun j hj => by have := (hl7 j hj).mod g8 fun h => h; rwa [addr0] at this
    rw [minK_i]
    obtain ⟨k, hk⟩ : ∃ k : Nat, k = min n (lenN o - d) := ⟨_, rfl⟩
    have ek : (if ((lenN o - d : Nat) : Int) < (n : Int) then ((lenN o - d : Nat) : Int) else (n : Int)) = (k : Int) := by split <;> omega
    rw [ek]
    refine JoinK_i (fun _ W4 => ∃ r', RDop D W4 r' (headO k (restO d o)) ∧ (∀ j v, r'[j]? = some v → W4.cell? ((⟨b5, 0, none⟩ : Addr).add j) = some v) ∧ Mod (fun y => y = b5) w8 W4) ?_ ?_
    · rintro _ W4 ⟨r', hr', hcr, m4⟩ _
      have z4 := m4.size
      have l4 : ∀ j, j < 5 → Live W4 ((⟨b4, 0, none⟩ : Addr).add j) := fun j hj => ((((hl1 j hj).mod g7 fun h => h).mod g8 fun h => h).mod m4 (by rw [add_block]; show ¬ b4 = b5; omega))
      have hr1 := hr'.one
      have hr5 : r'.length = 5 := by obtain ⟨_, _, _, rfl, _⟩ := hr'; rfl
      have e1 : W4.cell? ⟨b, 0, none⟩ = some (.slice (some p) (o :: r).length c) := m4.cell h8.c0 (by show ¬ b = b5; omega)
      have e2 : W4.cell? ⟨b, 1, none⟩ = some (.int .i64 d) := m4.cell h8.c1 (by show ¬ b = b5; omega)
      have e3 : ∀ j, j < 2 → Live W4 ⟨b, j, none⟩ := fun j hj => (h8.live j hj).mod m4 (by show ¬ b = b5; omega)
      have hrd4 : RDops S D W4 (.slice (some p) (o :: r).length c) (o :: r) := RDops.mod h8.rd m4 (fun y _ hy e => by have := h1.lt y (.inl hy); omega) fun y _ hy e => by have := h1.lt y (.inr hy); omega
      have g18 : Grow W w8 := (g1.trans g7).trans g8
      have hrW : rank W b = (o :: r).length * 2147483648 - d := by rw [← h1.rank, h.rank_mod g1 fun h => h]
      have fin : ∀ W6, Mod (fun y => y = b) W4 W6 → RdI S D W6 b (behind k (remO (o :: r) d)) → rank W6 b < rank W b → ldnK 5 (.pointer (some ⟨b5, 0, none⟩)) (fun t61 w18 => stnK 5 (.pointer (some ⟨b4, 0, none⟩)) t61 (fun w19 => ldnK 5 (.pointer (some ⟨b4, 0, none⟩)) (fun r0 w20 =>
          ∃ r' o' u', r0 = .agg r'.toArray ∧ RDop D w20 r' o' ∧ RdI S D w20 b u' ∧ Mod (fun y => y = b) W w20 ∧
            ((remO (o :: r) d = [] ∧ o' = ⟨1, n, [], [], []⟩ ∧ u' = [] ∧ rank w20 b = rank W b) ∨ ∃ o1 u1, remO (o :: r) d = o1 :: u1 ∧ o' = headO (min n (lenN o1)) o1 ∧ u' = behind (min n (lenN o1)) (remO (o :: r) d) ∧ rank w20 b < rank W b)) w19) w18) W6 := by
        intro W6 m6 hI6 hrk
        have z6 := m6.size
        refine ldnK_i hr5 (fun j v hv => m6.cell (hcr j v hv) (by rw [add_block]; show ¬ b5 = b; omega)) ?_
        refine stn_over hr5 hr1 (fun j hj => (l4 j hj).mod m6 (by rw [add_block]; show ¬ b4 = b; omega)) fun W7 m7 hc7 _ => ?_
        refine ldnK_i hr5 hc7 ?_
        have mW : Mod (fun y => y = b) W W7 := (((g18.mono fun _ _ e => e.elim : Mod (fun y => y = b) W w8).next m4 fun y hy e => by omega).trans m6).next m7 fun y hy e => by omega
        have hr6 : RDop D W7 r' (headO k (restO d o)) := (hr'.mod m6 (fun y _ hy e => by have := h1.lt y (.inr hy); omega) fun _ _ h => h).mod m7 (fun y _ hy e => by have := h1.lt y (.inr hy); omega) fun _ _ h => h
        have hI7 := hI6.mod m7 (by show ¬ b = b4; omega) (fun y hy e => by have := h1.lt y (.inl hy); omega) fun y hy e => by have := h1.lt y (.inr hy); omega
        refine ⟨r', _, _, rfl, hr6, hI7, mW, .inr ⟨restO d o, r, rfl, ?_, ?_, ?_⟩⟩
        · rw [restO_len (by omega), ← hk]
        · rw [restO_len (by omega), ← hk]
        · rw [hI6.rank_mod m7 (by show ¬ b = b4; omega)]; exact hrk
      refine nilckK_s ?_
      rw [faK_i, addr0]
      refine ld1K_i e2 ?_
      rw [addK_i, wrap64 (by omega) (by omega), show (d : Int) + (k : Int) = ((d + k : Nat) : Int) by omega]
      refine nilckK_s ?_
      rw [faK_i, addr0]
      refine box_store (b := b) (vs := [.slice (some p) (o :: r).length c, .int .i64 d]) (q := 1) (fun j v hv => by
        rcases (show j = 0 ∨ j = 1 by have := (List.getElem?_eq_some_iff.1 hv).1; simp at this; omega) with rfl | rfl
        · cases hv; exact e1
        · cases hv; exact e2) (fun j hj => e3 j (by simpa using hj)) (by simp) rfl rfl fun W5 m5 hc5 hl5 => ?_
      have hrd5 : RDops S D W5 (.slice (some p) (o :: r).length c) (o :: r) := RDops.mod hrd4 m5 (fun y _ hy e => by have := h1.lt y (.inl hy); omega) fun y _ hy e => by have := h1.lt y (.inr hy); omega
      have h5 : RdR S D W5 b (.slice (some p) (o :: r).length c) (o :: r) (d + k) := ⟨hc5 0 _ rfl, hc5 1 _ rfl, fun j hj => hl5 j (by simpa using hj), hrd5, h1.lt, h1.opk⟩
      refine callK_mono (rleft_ok h5 (by omega)) ?_
      rintro _ W6 ⟨rfl, g6⟩
      have h6 := h5.grow g6
      have hl6 : ∀ j, j < 2 → Live W6 ⟨b, j, none⟩ := h6.live
      rw [eqK_i]
      have m46 : Mod (fun y => y = b) W4 W6 := m5.next g6 fun _ _ e => e.elim
      refine condK_p (fun hz => ?_) fun hnz => ?_
      · refine nilckK_s ?_
        rw [faK_i, addr0]
        refine ld1K_i h6.c0 ?_
        refine slice_lo (j := 1) (e := 39) (k := 5) (i := Tryz.t39) (by kernel_rfl) (by kernel_rfl) (by kernel_rfl) h6.rd (by simp) fun v' hv' => ?_
        have hv1 : v'.oneCell' = true ∧ v'.cells = #[v'] := by obtain ⟨a', c', rfl, _⟩ := hv'.shape; exact ⟨rfl, rfl⟩
        refine nilckK_s ?_
        rw [faK_i, addr0]
        refine box_store (b := b) (vs := [.slice (some p) (o :: r).length c, .int .i64 ((d + k : Nat) : Int)]) (q := 0) (fun j v hv => by
          rcases (show j = 0 ∨ j = 1 by have := (List.getElem?_eq_some_iff.1 hv).1; simp at this; omega) with rfl | rfl
          · cases hv; exact h6.c0
          · cases hv; exact h6.c1) (fun j hj => hl6 j (by simpa using hj)) (by simp) hv1.1 hv1.2 fun W7 m7 hc7 hl7 => ?_
        refine nilckK_s ?_
        rw [faK_i, addr0]
        refine box_store (b := b) (vs := [v', .int .i64 ((d + k : Nat) : Int)]) (q := 1) (fun j v hv => hc7 j v hv) (fun j hj => hl7 j hj) (by simp) rfl rfl fun W8 m8 hc8' hl8' => ?_
        have hI8 : RdR S D W8 b v' r 0 := ⟨hc8' 0 _ rfl, hc8' 1 _ rfl, fun j hj => hl8' j (by simpa using hj), RDops.mod hv' (m7.trans m8) (fun y _ hy e => by have := h1.lt y (.inl hy); omega) fun y _ hy e => by have := h1.lt y (.inr hy); omega, h1.lt, fun u hu => h1.opk u (by simp [hu])⟩
        refine fin W8 ((m46.trans m7).trans m8) ⟨v', r, 0, ⟨hc8' 0 _ rfl, hc8' 1 _ rfl, fun j hj => hl8' j (by simpa using hj), ?_, h1.lt, fun u hu => h1.opk u (by simp [hu])⟩, fun o' r' e => by have := (h1.opk o' (by rw [e]; simp)).pos; omega, ?_⟩ (by rw [hI8.rank, hrW]; simp only [List.length_cons]; omega)
        · exact RDops.mod hv' (m7.trans m8) (fun y _ hy e => by have := h1.lt y (.inl hy); omega) fun y _ hy e => by have := h1.lt y (.inr hy); omega
        · simp only [remO, behind]
          rw [restO_len (by omega), if_neg (by omega)]
          cases r with
          | nil => rfl
          | cons o' r' => simp only [restO_0]
      · refine fin W6 m46 ⟨_, _, d + k, h6, fun o' r' e => by cases e; omega, ?_⟩ (by rw [h6.rank, hrW]; simp only [List.length_cons]; omega)
        simp only [remO, behind]
        rw [restO_len (by omega), if_pos (by omega), restO_restO]
    · obtain ⟨rv, sv', pv, rfl, q1, q2, q3⟩ := hop8
      obtain ⟨ra, rc, rfl, hrm⟩ := q1.shape
      rw [faK_i, addr0]
      refine ld1K_i (hc8 0 _ rfl) ?_
      rw [eqK_i]
      refine condK_p (fun k2 => ?_) fun k2 => ?_
      · have hlo : lenN o = o.runes.length := by simp [lenN, k2]
        have gd : Grow w8 w8.drew := Mod.drew _ _
        have h8d := h8.grow gd
        refine drawC_i (fun q y => q = 14 ∧ y = b5) ?_
        rw [faK_i, addr0]
        refine sld1_i ⟨gd.cell (hc8 2 _ rfl) fun h => h, fun j hj e => absurd hj (by rw [e.1]; decide)⟩ ?_
        refine nilckK_s ?_
        rw [faK_i, addr0]
        refine sld1_i ⟨h8d.c1, fun j hj e => absurd hj (by rw [e.1]; decide)⟩ ?_
        refine nilckK_s ?_
        rw [faK_i, addr0]
        refine sld1_i ⟨h8d.c1, fun j hj e => absurd hj (by rw [e.1]; decide)⟩ ?_
        rw [addK_i, wrap64 (by omega) (by omega), show (d : Int) + (k : Int) = ((d + k : Nat) : Int) by omega]
        refine slice_lh (j := d) (q := d + k) (e := 21) (k := 1) (i := Tryz.t21) (by kernel_rfl) (by kernel_rfl) (by kernel_rfl) (q1.grow gd (by decide) fun _ _ h => h) (by omega) (by omega) fun v' hv' => ?_
        have hv1 : v'.oneCell' = true ∧ v'.cells = #[v'] := by obtain ⟨a', c', rfl, _⟩ := hv'.shape; exact ⟨rfl, rfl⟩
        refine ⟨Mod.refl _ _, ?_⟩
        rw [faK_i, addr0]
        refine box_store (q := 2) (fun j v hv => gd.cell (hc8 j v hv) fun h => h) (fun j hj => (hl8 j hj).mod gd fun h => h) (by simp) hv1.1 hv1.2 fun W4 m4 hc4 _ => ?_
        refine ⟨m4.mono fun y _ e => ⟨rfl, e⟩, ?_⟩
        have hD : ∀ y, y < w8.drew.heap.size → D y → ¬ y = b5 := fun y _ hy e => by have := h1.lt y (.inr hy); omega
        refine ⟨_, ?_, fun j v hv => by rw [addr0]; exact hc4 j v hv, (gd.mono fun _ _ e => e.elim : Mod (fun y => y = b5) w8 w8.drew).trans m4⟩
        rw [headO_rest, if_pos k2]
        refine ⟨v', sv', pv, ?_, hv'.mono (fun _ _ h => h) (fun y hy hd => m4.same y hy (hD y hy hd)) (by decide) fun _ _ h => h, (q2.grow gd (by decide) fun _ _ h => h).mono (fun _ _ h => h) (fun y hy hd => m4.same y hy (hD y hy hd)) (by decide) fun _ _ h => h, (q3.grow gd (by decide) fun _ _ h => h).mono (fun _ _ h => h) (fun y hy hd => m4.same y hy (hD y hy hd)) (by decide) fun _ _ h => h⟩
        simp [k2]
      · rw [faK_i, addr0]
        refine box_store (q := 1) (fun j v hv => hc8 j v hv) (fun j hj => hl8 j hj) (by simp) rfl rfl fun W4 m4 hc4 _ => ?_
        have hD : ∀ y, y < w8.heap.size → D y → ¬ y = b5 := fun y _ hy e => by have := h1.lt y (.inr hy); omega
        refine ⟨_, ?_, fun j v hv => by rw [addr0]; exact hc4 j v hv, m4⟩
        rw [headO_rest, if_neg k2]
        refine ⟨_, sv', pv, rfl, q1.mono (fun _ _ h => h) (fun y hy hd => m4.same y hy (hD y hy hd)) (by decide) fun _ _ h => h, q2.mono (fun _ _ h => h) (fun y hy hd => m4.same y hy (hD y hy hd)) (by decide) fun _ _ h => h, q3.mono (fun _ _ h => h) (fun y hy hd => m4.same y hy (hD y hy hd)) (by decide) fun _ _ h => h⟩
end
end Go.Proofs.YtlbaopamhkmepaaGreatDoor

namespace Go.Proofs.YtlbaopamhkmepaaGreatDoor
open Go Go.K

theorem MkI.cut {F : Nat → Prop} {W : World} {b : Nat} {s : MkS} (h : MkI F W b s) : MkI (fun x => F x ∧ x < W.heap.size) W b s := by
  obtain ⟨dv, iv, C, hot, h⟩ := h
  refine ⟨dv, iv, C, hot, h.c0, h.c1, h.c2, h.lv, ⟨h.fb, World.block_lt_of_cell? W _ h.c0⟩, h.nb, fun x hx => ⟨h.cf x hx, (h.cf x hx).2⟩, h.done, fun g hg => ⟨⟨(h.dF g hg).1, (OwnR.ownB h.done g hg).2⟩, (h.dF g hg).2⟩, ?_⟩
  rcases h.ins with h0 | ⟨g, c, hh, e1, e2, e3, e4, e5, e6, e7, e8, e9, e10, e11, e12, e13, e14⟩
  · exact .inl h0
  · exact .inr ⟨g, c, hh, e1, e2, e3, ⟨e4, (OwnR.ownB e3 g (by rw [e1]; rfl)).2⟩, e5, e6, e7, ⟨e8, e13⟩, e9, e10, e11, e12, e13, e14⟩
/-- a maker that has been at work since a world -/
def MkL (W0 : World) (F0 : Nat → Prop) (W : World) (b : Nat) (s : MkS) : Prop := ∃ F : Nat → Prop, MkI F W b s ∧ (∀ x, F x → (F0 x ∨ W0.heap.size ≤ x) ∧ x < W.heap.size) ∧ Mod F0 W0 W
section
variable {W0 W W' : World} {F0 F F1 : Nat → Prop} {b : Nat} {s s' : MkS}
theorem MkL.start (h : MkI F0 W0 b s) : MkL W0 F0 W0 b s := ⟨_, h.cut, fun x hx => ⟨.inl hx.1, hx.2⟩, Mod.refl _ _⟩
theorem MkL.grow (h : MkL W0 F0 W b s) (g : Grow W W') : MkL W0 F0 W' b s := by
  obtain ⟨F, h1, h2, h3⟩ := h
  exact ⟨F, h1.mod g fun _ _ h => h, fun x hx => ⟨(h2 x hx).1, Nat.lt_of_lt_of_le (h2 x hx).2 g.size⟩, h3.next g fun _ _ e => e.elim⟩
/-- what a call of the maker's leaves -/
theorem MkL.next (h2 : ∀ x, F x → (F0 x ∨ W0.heap.size ≤ x)) (h3 : Mod F0 W0 W) (h4 : MkI F1 W' b s') (h5 : ∀ x, F1 x → F x ∨ W.heap.size ≤ x) (h6 : Mod F W W') : MkL W0 F0 W' b s' := by
  refine ⟨_, h4.cut, fun x hx => ⟨?_, hx.2⟩, h3.next h6 fun x hx e => ?_⟩
  · rcases h5 x hx.1 with e | e
    · exact h2 x e
    · exact .inr (Nat.le_trans h3.size e)
  · rcases h2 x e with e | e
    · exact e
    · omega
theorem MkL.trans {W1 : World} {F1 : Nat → Prop} (h : MkL W1 F1 W b s) (h2 : ∀ x, F1 x → F0 x ∨ W0.heap.size ≤ x) (h3 : Mod F0 W0 W1) : MkL W0 F0 W b s := by
  obtain ⟨F, q1, q2, q3⟩ := h
  refine ⟨F, q1, fun x hx => ⟨?_, (q2 x hx).2⟩, h3.next q3 fun x hx e => ?_⟩
  · rcases (q2 x hx).1 with e | e
    · exact h2 x e
    · exact .inr (Nat.le_trans h3.size e)
  · rcases h2 x e with e | e
    · exact e
    · omega
end
theorem valS {v : AVal} (h : ValOK v) : v.s.size ≤ 64 := by
  rcases h with ⟨_, e, _⟩ | ⟨_, e⟩ | ⟨_, e, _⟩ | ⟨_, _, h, _⟩
  · rw [e]; show noS.size ≤ 64; decide
  · rw [e]; show noS.size ≤ 64; decide
  · rw [e]; show noS.size ≤ 64; decide
  · exact h
theorem sum_le {α : Type} (f : α → Nat) (c : Nat) : ∀ (l : List α), (∀ a ∈ l, f a ≤ c) → (l.map f).sum ≤ c * l.length := by
  intro l
  induction l with
  | nil => intro _; simp
  | cons a l ih =>
    intro h
    have h1 := ih fun a ha => h a (by simp [ha])
    have h2 := h a (by simp)
    simp only [List.map_cons, List.sum_cons, List.length_cons, Nat.mul_add, Nat.mul_one]
    omega
section
variable {ks : List DKey}
theorem SetK.m {l : List Attr} (h : SetK ks l) : mSet l ≤ 4160 := by
  have := sum_le mAttr 65 l fun a ha => by have := valS (h.2.2 a ha).1; unfold mAttr; omega
  have := h.2.1
  unfold mSet
  omega
theorem PatK.m {l : List Chg} (h : PatK ks l) : mPat l ≤ 4160 := by
  have := sum_le mChg 65 l fun c hc => by
    obtain ⟨h1, h2, _⟩ := h.2.2 c hc
    unfold mChg
    cases e : c.gone with
    | true => rw [h1 e]; decide
    | false => have := valS (h2 e).1; omega
  have := h.2.1
  unfold mPat
  omega
theorem GoodK.m {o : Dop} (h : GoodK ks o) : mDop o ≤ 8322 * lenN o ∧ 1 ≤ lenN o := by
  have nil1 : mSet [] = 0 := rfl
  have nil2 : mPat [] = 0 := rfl
  rcases h with ⟨h1, h2, h3, h4, h5⟩ | ⟨h1, h2, h3, h4, h5⟩ | ⟨h1, h2, h3, h4, h5, h6⟩
  · have := h5.m
    simp only [mDop, lenN, h1, h2, h3, nil1, List.length_nil, show ¬ (1 : Int) = 2 by decide, if_false]
    omega
  · simp only [mDop, lenN, h1, h2, h3, h4, nil1, nil2, List.length_nil, show ¬ (3 : Int) = 2 by decide, if_false]
    omega
  · have := h6.m
    have := List.length_pos_iff.2 h5
    simp only [mDop, lenN, h1, h4, nil2, if_true]
    omega
theorem good_m {l : List Dop} (h : ∀ o ∈ l, GoodK ks o) : mDops l ≤ 8322 * total l ∧ l.length ≤ total l := by
  induction l with
  | nil => simp [mDops, total]
  | cons o l ih =>
    have h1 := ih fun o ho => h o (by simp [ho])
    have h2 := GoodK.m (h o (by simp))
    simp only [mDops, total, List.map_cons, List.sum_cons, List.length_cons] at *
    omega
theorem GoodM.bnd {s : MkS} {t : Nat} (h : GoodM (SetK ks) (PatK ks) s t) (ht : t ≤ 16777216) : mDops s.done + mDops s.ins ≤ 274877906944 ∧ s.done.length + s.ins.length ≤ 16777216 ∧ ∀ o ∈ s.ins, o.runes.length ≤ 16777216 := by
  have h1 := good_m h.done
  have h2 := good_m fun o ho => (h.ins o ho).1
  have h3 := h.tot
  refine ⟨by omega, by omega, fun o ho => ?_⟩
  have := total_mem ho
  have k2 := (h.ins o ho).2
  simp only [lenN, k2, if_true] at this
  omega
/-- a maker is told an op as it is -/
theorem tell_ok {F D : Nat → Prop} {W : World} {b t : Nat} {s : MkS} {r : List Value} {o : Dop} (hm : MkI F W b s) (hr : RDop D W r o) (hD : ∀ x, D x → ¬ F x) (hs : GoodM (SetK ks) (PatK ks) s t) (ho : GoodK ks o) (ht : t + lenN o ≤ 16777216) :
    callK Tryz.prog 144 [.pointer (some ⟨b, 0, none⟩), .agg r.toArray] (fun _ w' => MkL W F w' b (stepS s o)) W := by
  apply S144_ok
  unfold S144
  obtain ⟨q1, q2, q3⟩ := hs.bnd (by omega)
  have hsz := GoodK.form ho (by omega)
  have hp64 := hsz.2.2.2.1
  have hs64 := hsz.2.1.2.1
  refine boxn_i fun b3 w1 hb3 hz1 g1 hc1 _ => ?_
  have hm1 : MkI F w1 b s := hm.mod g1 fun _ _ h => h
  obtain ⟨rv, sv, pv, rfl, h1, h2, h3⟩ := hr.mod (D' := D) g1 (fun _ _ _ h => h) fun _ _ h => h
  have st : MkL W F w1 b s := (MkL.start hm).grow g1
  rw [faK_i]
  refine ld1K_i (hc1 0 _ rfl) ?_
  rw [eqK_i]
  have nx : ∀ w', MkI (fun x => F x ∨ w1.heap.size ≤ x) w' b (stepS s o) → Mod F w1 w' → MkL W F w' b (stepS s o) := fun w' q m => MkL.next (F := F) (fun x hx => .inl hx) (g1.mono fun _ _ e => e.elim) q (fun x hx => hx) m
  refine condK_p (fun k1 => ?_) fun k1 => ?_
  · rw [faK_i]
    refine ld1K_i (hc1 1 _ rfl) ?_
    rw [faK_i]
    refine ld1K_i (hc1 4 _ rfl) ?_
    refine callK_mono (retain_ok hm1 h3 hD (by omega) (by omega)) ?_
    rintro _ w' ⟨q, m⟩
    exact nx w' (by rw [stepS, if_pos k1]; exact q) m
  · rw [eqK_i]
    refine condK_p (fun k2 => ?_) fun k2 => ?_
    · have hl : lenN o = o.runes.length := by simp [lenN, k2]
      rw [faK_i]
      refine ld1K_i (hc1 2 _ rfl) ?_
      rw [faK_i]
      refine ld1K_i (hc1 3 _ rfl) ?_
      refine callK_mono (insert_ok hm1 h1 h2 hD (by omega) (fun o' ho' => by have := q3 o' ho'; omega) (by omega) (by omega)) ?_
      rintro _ w' ⟨q, m⟩
      exact nx w' (by rw [stepS, if_neg k1, if_pos k2]; exact q) m
    · rw [faK_i]
      refine ld1K_i (hc1 1 _ rfl) ?_
      refine callK_mono (delete_ok hm1) ?_
      rintro _ w' ⟨q, m⟩
      exact nx w' (by rw [stepS, if_neg k1, if_neg k2]; exact q.sub fun x hx => .inl hx) m
theorem fold_good (h64 : ks.length ≤ 64) {s : MkS} {t : Nat} (set : List Attr) (p : List Chg) (hset : SetK ks set) (hp : PatK ks p) : ∀ (rs : List Int), (∀ r ∈ rs, MayR r) → GoodM (SetK ks) (PatK ks) s t → t + rs.length ≤ 16777216 →
    GoodM (SetK ks) (PatK ks) (rs.foldl (fun s r => insS s [r] (cellP ks set p r)) s) (t + rs.length) := by
  intro rs
  induction rs using rev_ind with
  | h0 => intro _ h _; exact h
  | h1 rs r ih =>
    intro hr h ht
    simp only [List.length_append, List.length_cons, List.length_nil] at ht ⊢
    rw [List.foldl_append]
    have h1 := ih (fun q hq => hr q (by simp [hq])) h (by omega)
    have := good_step h1 (o := ⟨2, 0, [r], cellP ks set p r, []⟩) (.inr (.inr ⟨rfl, by simpa using hr r (by simp), rfl, rfl, by simp, cellP_may h64 hset hp r⟩)) (by simp [lenN]; omega)
    simpa [stepS, lenN, Nat.add_assoc] using this
set_option maxRecDepth 20000 in
/-- what a retain or delete of the one does to what the other makes -/
theorem both_ok {E F D D' : Nat → Prop} {W : World} {b t : Nat} {sv : Value} {s : MkS} {r r' : List Value} {u v : Dop} (h64 : ks.length ≤ 64) (hS : SchR E W sv ks) (hE : ∀ x, E x → ¬ F x) (hm : MkI F W b s) (hF : ∀ x, F x → x < W.heap.size) (hr : RDop D W r u) (hD : ∀ x, D x → ¬ F x) (hr' : RDop D' W r' v) (hD' : ∀ x, D' x → ¬ F x)
    (hs : GoodM (SetK ks) (PatK ks) s t) (hu : GoodK ks u) (hv : GoodK ks v) (ht : t + lenN u ≤ 16777216) (hl : lenN u = lenN v) (hk : v.kind ≠ 2) :
    callK Tryz.prog 147 [sv, .pointer (some ⟨b, 0, none⟩), .agg r.toArray, .agg r'.toArray] (fun _ w' => MkL W F w' b (bothS ks s u v)) W := by
  apply S147_ok
  unfold S147
  obtain ⟨q1, q2, q3⟩ := hs.bnd (by omega)
  have fu := GoodK.form hu (by omega)
  have fv := GoodK.form hv (by omega)
  have hup := fu.2.2.2.1
  have hvp := fv.2.2.2.1
  have hus := fu.2.1.2.1
  refine boxn_i fun b6 w1 hb6 hz1 g1 hc1 _ => ?_
  refine boxn_i fun b7 w2 hb7 hz2 g2 hc2 _ => ?_
  have g12 := g1.trans g2
  have hm2 : MkI F w2 b s := hm.mod g12 fun _ _ h => h
  have st : MkL W F w2 b s := (MkL.start hm).grow g12
  obtain ⟨rv, uv, pv, rfl, h1, h2, h3⟩ := hr.mod (D' := D) g12 (fun _ _ _ h => h) fun _ _ h => h
  obtain ⟨rv', uv', pv', rfl, k1, k2, k3⟩ := hr'.mod (D' := D') g12 (fun _ _ _ h => h) fun _ _ h => h
  have c6 : ∀ j x, ([.int .u8 u.kind, .int .i64 u.n, rv, uv, pv] : List Value)[j]? = some x → w2.cell? ((⟨b6, 0, none⟩ : Addr).add j) = some x := fun j x hx => g2.cell (hc1 j x hx) fun h => h
  have n6 : ¬ F b6 := fun e => by have := hF b6 e; omega
  have n7 : ¬ F b7 := fun e => by have := hF b7 e; omega
  have nx : ∀ {w3 w' s'}, Grow w2 w3 → MkI (fun x => F x ∨ w3.heap.size ≤ x) w' b s' → Mod F w3 w' → MkL W F w' b s' := fun g q m => MkL.next (F := F) (fun x hx => .inl hx) ((g12.trans g).mono fun _ _ e => e.elim) q (fun x hx => hx) m
  refine JoinK_i (fun vs w3 => w3 = w2 ∧ vs = [.bool (decide (u.kind = 1) && decide (v.kind = 1))]) ?_ ?_
  rotate_left
  · rw [faK_i]
    refine ld1K_i (c6 0 _ rfl) ?_
    rw [eqK_i]
    refine condK_p (fun ku => ?_) fun ku => ?_
    · rw [faK_i]
      refine ld1K_i (hc2 0 _ rfl) ?_
      rw [eqK_i]
      exact ⟨rfl, by rw [decide_eq_true ku, Bool.true_and]⟩
    · exact ⟨rfl, by rw [decide_eq_false ku, Bool.false_and]⟩
  rintro _ _ ⟨rfl, rfl⟩ _
  rename World => w2
  rw [nth_z, List.headD_cons]
  by_cases ku : u.kind = 1
  · rw [decide_eq_true ku, Bool.true_and]
    refine condK_p (fun kv => ?_) fun kv => ?_
    · have gd : Grow w2 w2.drew := Mod.drew _ _
      refine drawC_i (fun q y => q = 8 ∧ F y) ?_
      rw [faK_i]
      refine sld1_i ⟨gd.cell (hc2 1 _ rfl) fun h => h, fun j _ e => n7 (by rw [add_block] at e; exact e.2)⟩ ?_
      rw [faK_i]
      refine sld1_i ⟨gd.cell (c6 4 _ rfl) fun h => h, fun j _ e => n6 (by rw [add_block] at e; exact e.2)⟩ ?_
      rw [faK_i]
      refine sld1_i ⟨gd.cell (hc2 4 _ rfl) fun h => h, fun j _ e => n7 (by rw [add_block] at e; exact e.2)⟩ ?_
      refine callK_mono (pcom_ok (h3.grow gd (by decide) fun _ _ h => h) (k3.grow gd (by decide) fun _ _ h => h) (by omega)) ?_
      rintro cv w4 ⟨o4, g4⟩
      refine ⟨g4.mono fun _ _ e => e.elim, ?_⟩
      have hc64 := (comP_may h64 fu.2.2 fv.2.2).2.1
      refine callK_mono (retain_ok (hm2.mod (gd.trans g4) fun _ _ h => h) (SlR.sub (OwnR.sl o4) (fun x _ h => h.1) (by decide) fun _ _ h => h) (fun x hx hf => by have := hF x hf; have h5 : w2.drew.heap.size ≤ x := hx; have := (g12.trans gd).size; omega) (by omega) (by omega)) ?_
      rintro _ w5 ⟨q, m⟩
      refine ⟨m.mono fun x _ e => ⟨rfl, e⟩, nx (gd.trans g4) ?_ m⟩
      rw [bothS, if_pos ku, if_pos kv]; exact q
    · rw [faK_i]
      refine ld1K_i (c6 0 _ rfl) ?_
      rw [eqK_i]
      refine condK_p (fun _ => ?_) fun e => (e ku).elim
      rw [faK_i]
      refine ld1K_i (hc2 1 _ rfl) ?_
      refine callK_mono (delete_ok hm2) ?_
      rintro _ w5 ⟨q, m⟩
      refine nx (Mod.refl _ _) ?_ m
      rw [bothS, if_pos ku, if_neg kv]; exact q.sub fun x hx => .inl hx
  · rw [decide_eq_false ku, Bool.false_and]
    refine condK_f ?_
    rw [faK_i]
    refine ld1K_i (c6 0 _ rfl) ?_
    rw [eqK_i]
    refine condK_p (fun e => (ku e).elim) fun _ => ?_
    rw [faK_i]
    refine ld1K_i (hc2 0 _ rfl) ?_
    rw [eqK_i]
    refine condK_p (fun kv => ?_) fun kv => ?_
    rotate_left
    · rw [bothS, if_neg ku, if_neg kv]; exact st
    have k2u : u.kind = 2 ∨ u.kind = 3 := by rcases hu with ⟨h, _⟩ | ⟨h, _⟩ | ⟨h, _⟩ <;> omega
    -- a delete has no runes
    have hrun : u.runes.length ≤ lenN u ∧ ∀ x ∈ u.runes, MayR x := by
      rcases hu with ⟨h, _⟩ | ⟨h, e, _⟩ | ⟨h, e, _⟩
      · omega
      · rw [e]; simp
      · exact ⟨by simp [lenN, h], e⟩
    obtain ⟨ra, rc, rfl, _⟩ := h1.shape
    rw [faK_i]
    refine ld1K_i (c6 2 _ rfl) ?_
    rw [lenK_i]
    rw [bothS, if_neg ku, if_pos kv]
    refine LoopK_i (fun vs W3 => ∃ (i : Nat) (F3 : Nat → Prop), i ≤ u.runes.length ∧ vs = [.int .i64 i] ∧ MkI F3 W3 b ((u.runes.take i).foldl (fun s r => insS s [r] (cellP ks u.set v.patch r)) s) ∧ (∀ x, F3 x → (F x ∨ w2.heap.size ≤ x) ∧ x < W3.heap.size) ∧ Mod F w2 W3) (fun vs _ => u.runes.length - iOf vs 0)
      ⟨0, _, Nat.zero_le _, rfl, hm2.cut, fun x hx => ⟨.inl hx.1, hx.2⟩, Mod.refl _ _⟩ ?_
    rintro vs W3 ⟨i, F3, hi, rfl, hm3, hF3, m3⟩ _
    rw [nth_z, List.headD_cons, ltK_i]
    have hs3 := fold_good h64 u.set v.patch fu.2.1 fv.2.2 (u.runes.take i) (fun x hx => hrun.2 x (List.mem_of_mem_take hx)) hs (by have := List.length_take_le i u.runes; omega)
    obtain ⟨e1, e2, e3⟩ := hs3.bnd (by have := List.length_take_le i u.runes; omega)
    refine condK_p (fun hlt => ?_) fun hge => ?_
    rotate_left
    · have : i = u.runes.length := by omega
      subst this
      rw [List.take_length] at hm3
      exact ⟨_, hm3, fun x hx => ⟨by rcases (hF3 x hx).1 with e | e; exact .inl e; exact .inr (Nat.le_trans g12.size e), (hF3 x hx).2⟩, (g12.mono fun _ _ e => e.elim : Mod F W w2).trans m3⟩
    have hlt' : i < u.runes.length := by omega
    have z3 := m3.size
    have lD : ∀ {x}, D x → ¬ F x := fun h => hD _ h
    have h1' : RRun D W3 (.slice ra u.runes.length rc) u.runes := h1.mono (fun _ _ h => h) (fun y hy hd => m3.same y hy (hD y hd)) (by decide) fun _ _ h => h
    have h2' : RSet D W3 uv u.set := h2.mono (fun _ _ h => h) (fun y hy hd => m3.same y hy (hD y hd)) (by decide) fun _ _ h => h
    have k3' : RPat D' W3 pv' v.patch := k3.mono (fun _ _ h => h) (fun y hy hd => m3.same y hy (hD' y hd)) (by decide) fun _ _ h => h
    have hS3 : SchR E W3 sv ks := (hS.grow g12).mod m3 fun x _ hx => hE x hx
    have c6' : ∀ j x, ([.int .u8 u.kind, .int .i64 u.n, .slice ra u.runes.length rc, uv, pv] : List Value)[j]? = some x → W3.cell? ((⟨b6, 0, none⟩ : Addr).add j) = some x := fun j x hx => m3.cell (c6 j x hx) (by rw [add_block]; exact n6)
    have c7' : ∀ j x, ([.int .u8 v.kind, .int .i64 v.n, rv', uv', pv'] : List Value)[j]? = some x → W3.cell? ((⟨b7, 0, none⟩ : Addr).add j) = some x := fun j x hx => m3.cell (hc2 j x hx) (by rw [add_block]; exact n7)
    obtain ⟨p, q, rfl, _, hq, hc, rfl⟩ := h1'.get hlt'
    refine ixK_n hlt' ?_
    refine ld1K_i (by have := hc 0 _ rfl; rwa [Nat.mul_one] at this ⊢) ?_
    rw [faK_i]
    refine ld1K_i (c6' 3 _ rfl) ?_
    obtain ⟨ua, uc, rfl, _⟩ := h2'.shape
    refine ⟨#[.int .i32 u.runes[i], .slice ua u.set.length uc], by kernel_rfl, ?_⟩
    dsimp only
    rw [faK_i]
    refine ld1K_i (c7' 4 _ rfl) ?_
    refine callK_mono (acell_ok hS3 h2' k3' (by omega)) ?_
    rintro _ w4 ⟨cv, rfl, o4, g4⟩
    have cv1 := (OwnR.one o4).1
    refine newst_n (vs := [.int .i32 u.runes[i], cv]) rfl rfl (fun y hy => by simp at hy; rcases hy with rfl | rfl; rfl; exact cv1) fun b10 w5 hb10 hz5 g5 hc5 _ => ?_
    rw [faK_i]
    refine ld1K_i (hc5 0 _ rfl) ?_
    refine rowK_i (cs := [.int .i32 u.runes[i]]) (by kernel_rfl) ?_
    have g6 : Grow w5 (w5.alloc (.cells [Value.int .i32 u.runes[i]].toArray 21)) := Mod.alloc _ _ _
    have o6 : OwnR w5.heap.size 21 1 RRune (w5.alloc (.cells [Value.int .i32 u.runes[i]].toArray 21)) (.slice (some ⟨w5.heap.size, 0, none⟩) 1 1) [u.runes[i]] := OwnR.row1 (Nat.le_refl _) rfl (fun y hy => by simp at hy; subst hy; rfl) rfl
    generalize w5.alloc (.cells [Value.int .i32 u.runes[i]].toArray 21) = w6 at g6 o6 ⊢
    rw [faK_i]
    refine ld1K_i (g6.cell (hc5 1 _ rfl) fun h => h) ?_
    have g36 := (g4.trans g5).trans g6
    have z36 := g36.size
    have z5 := (g4.trans g5).size
    have hm6 : MkI F3 w6 b _ := hm3.mod g36 fun _ _ h => h
    have hset64 := (cellP_may h64 fu.2.1 fv.2.2 u.runes[i]).2.1
    refine callK_mono (insert_ok (S := fun x => W3.heap.size ≤ x) hm6 (SlR.sub (OwnR.sl o6) (fun x _ h => Nat.le_trans z5 h.1) (by decide) fun _ _ h => h) (SlR.sub (OwnR.sl (OwnR.mod o4 (g5.trans g6) (fun _ _ h => h) fun _ _ _ h => h)) (fun x _ h => h.1) (by decide) fun _ _ h => h)
      (fun x hx hf => by have := (hF3 x hf).2; omega) (by omega) (fun o ho => by have := e3 o ho; simp only [List.length_cons, List.length_nil]; omega) (by simp) (by omega)) ?_
    rintro _ w7 ⟨hm7, m7⟩
    rw [addK_i, loop_step (by omega)]
    refine ⟨⟨i + 1, fun x => (F3 x ∨ w6.heap.size ≤ x) ∧ x < w7.heap.size, hlt', rfl, ?_, fun x hx => ?_, (m3.next g36 fun _ _ e => e.elim).next m7 fun x hx e => ?_⟩, by rw [iOf0, iOf0]; omega⟩
    · rw [List.take_add_one, List.getElem?_eq_getElem hlt', Option.toList, List.foldl_append]
      exact hm7.cut
    · refine ⟨?_, hx.2⟩
      rcases hx.1 with e | e
      · exact (hF3 x e).1
      · exact .inr (by omega)
    · rcases (hF3 x e).1 with e | e
      · exact e
      · omega
end
end Go.Proofs.YtlbaopamhkmepaaGreatDoor

namespace Go.Proofs.YtlbaopamhkmepaaGreatDoor
open Go Go.K

/-- the library's table of first bytes, from 128 on; the ranges of second bytes -/
def firstT (x : Int) : Int := if x < 194 then 241 else if x < 224 then 2 else if x = 224 then 19 else if x = 237 then 35 else if x < 240 then 3 else if x = 240 then 52 else if x < 244 then 4 else if x = 244 then 68 else 241
def accLo (j : Nat) : Int := if j = 1 then 160 else if j = 3 then 144 else if j < 5 then 128 else 0
def accHi (j : Nat) : Int := if j = 2 then 159 else if j = 4 then 143 else if j < 5 then 191 else 0
/-- the tables lie in memory -/
structure Tabs (w : World) : Prop where
  size : 1 < w.heap.size
  first : ∀ j : Nat, 128 ≤ j → j < 256 → w.cell? ⟨0, j, none⟩ = some (.int .u8 (firstT j))
  acc : ∀ j : Nat, j < 16 → w.cell? ⟨1, j * 2, none⟩ = some (.int .u8 (accLo j)) ∧ w.cell? ⟨1, j * 2 + 1, none⟩ = some (.int .u8 (accHi j))
theorem Tabs.grow {w w' : World} (h : Tabs w) (g : Grow w w') : Tabs w' :=
  ⟨Nat.lt_of_lt_of_le h.size g.size, fun j h1 h2 => g.cell (h.first j h1 h2) fun h => h, fun j hj => ⟨g.cell (h.acc j hj).1 fun h => h, g.cell (h.acc j hj).2 fun h => h⟩⟩
theorem Tabs.mod {M : Nat → Prop} {w w' : World} (h : Tabs w) (g : Mod M w w') (hM : ∀ b, b < 3 → ¬ M b) : Tabs w' :=
  ⟨Nat.lt_of_lt_of_le h.size g.size, fun j h1 h2 => g.cell (h.first j h1 h2) (hM 0 (by decide)), fun j hj => ⟨g.cell (h.acc j hj).1 (hM 1 (by decide)), g.cell (h.acc j hj).2 (hM 1 (by decide))⟩⟩

/-- what a first byte's entry says -/
theorem tab_ok {x : Int} (h0 : 128 ≤ x) (h1 : x < 256) : ∃ (f : Int) (z j : Nat), firstT x = f ∧ 0 ≤ f ∧ f < 256 ∧ (f.toNat &&& 7) = z ∧ f / 16 = j ∧ j < 16 ∧ (z = hdSize x ∨ hdSize x = 0 ∧ z = 1) ∧ (hdSize x ≠ 0 → accLo j = hdLo x ∧ accHi j = hdHi x) := by
  unfold firstT hdSize hdLo hdHi
  by_cases a1 : x < 194
  · exact ⟨241, 1, 15, by rw [if_pos a1], by decide, by decide, by decide, by decide, by decide, by rw [if_pos a1]; exact .inr ⟨rfl, rfl⟩, by rw [if_pos a1]; exact fun h => absurd rfl h⟩
  rw [if_neg a1, if_neg a1]
  by_cases a2 : x < 224
  · rw [if_pos a2, if_pos a2]
    exact ⟨2, 2, 0, rfl, by decide, by decide, by decide, by decide, by decide, .inl rfl, fun _ => ⟨by rw [if_neg (by omega), if_neg (by omega)]; rfl, by rw [if_neg (by omega), if_neg (by omega)]; rfl⟩⟩
  rw [if_neg a2, if_neg a2]
  by_cases a3 : x = 224
  · subst a3
    exact ⟨19, 3, 1, rfl, by decide, by decide, by decide, by decide, by decide, .inl rfl, fun _ => ⟨rfl, rfl⟩⟩
  rw [if_neg a3, if_neg a3]
  by_cases a4 : x = 237
  · subst a4
    exact ⟨35, 3, 2, rfl, by decide, by decide, by decide, by decide, by decide, .inl rfl, fun _ => ⟨rfl, rfl⟩⟩
  rw [if_neg a4, if_neg a4]
  by_cases a5 : x < 240
  · rw [if_pos a5, if_pos a5]
    exact ⟨3, 3, 0, rfl, by decide, by decide, by decide, by decide, by decide, .inl rfl, fun _ => ⟨by rw [if_neg (by omega)]; rfl, by rw [if_neg (by omega)]; rfl⟩⟩
  rw [if_neg a5, if_neg a5]
  by_cases a6 : x = 240
  · subst a6
    exact ⟨52, 4, 3, rfl, by decide, by decide, by decide, by decide, by decide, .inl rfl, fun _ => ⟨rfl, rfl⟩⟩
  rw [if_neg a6, if_neg a6]
  by_cases a7 : x < 244
  · rw [if_pos a7, if_pos (by omega)]
    exact ⟨4, 4, 0, rfl, by decide, by decide, by decide, by decide, by decide, .inl rfl, fun _ => ⟨rfl, by rw [if_neg (by omega)]; rfl⟩⟩
  rw [if_neg a7]
  by_cases a8 : x = 244
  · subst a8
    exact ⟨68, 4, 4, rfl, by decide, by decide, by decide, by decide, by decide, .inl rfl, fun _ => ⟨rfl, rfl⟩⟩
  rw [if_neg a8, if_neg (by omega)]
  exact ⟨241, 1, 15, rfl, by decide, by decide, by decide, by decide, by decide, .inr ⟨rfl, rfl⟩, fun h => absurd rfl h⟩
theorem hdSize_v (x : Int) : hdSize x = 0 ∨ hdSize x = 2 ∨ hdSize x = 3 ∨ hdSize x = 4 := by
  unfold hdSize
  (repeat' split) <;> simp
theorem run_and8 {t : TypeId} {xo yo : Operand} {a : Int} {z : Nat} (w : World) (h0 : 0 ≤ a) (h1 : a < 256) (hz : (a.toNat &&& 7) = z) : (binS .and t xo yo (.int .u8 a) (.int .u8 7)).run Tryz.prog w = .ok (.int .u8 z) w := by
  rw [(run_bits w).2]
  have e : ((BitVec.ofInt IntKind.u8.bits a &&& BitVec.ofInt IntKind.u8.bits 7).toNat : Int) = ((a.toNat &&& 7 : Nat) : Int) := by
    show ((BitVec.ofInt 8 a &&& BitVec.ofInt 8 7).toNat : Int) = _
    rw [BitVec.toNat_and, BitVec.toNat_ofInt, BitVec.toNat_ofInt]
    have e : ((2 ^ 8 : Nat) : Int) = 256 := by decide
    rw [e, Int.emod_eq_of_lt h0 h1]
    rfl
  have hz8 : z ≤ 7 := hz ▸ Nat.and_le_right
  rw [e, hz]
  congr 2
  have e1 : (2 : Int) ^ IntKind.u8.bits = 256 := by decide
  simp only [IntKind.wrap, e1, IntKind.signed, Bool.false_and]
  rw [if_neg (by decide)]
  omega
/-- how long a slice is -/
def slLen (v : Value) : Nat := match v with | .slice _ n _ => n | _ => 0
theorem skip_ok {l : List Int} {k : Nat} (hl : ByteL l) (hk : k ≤ l.length) (h : ∀ j, j < k → l.getD j 0 < 128) : (readB l).isSome = (readB (l.drop k)).isSome := by
  refine readB_skip hk fun j x hj hx => ?_
  have := h j hj
  rw [List.getD_eq_getElem?_getD, hx] at this
  exact ⟨(hl x (List.mem_iff_getElem?.2 ⟨j, hx⟩)).1, this⟩
theorem getD_drop (l : List Int) (k j : Nat) : (l.drop k).getD j 0 = l.getD (k + j) 0 := by
  rw [List.getD_eq_getElem?_getD, List.getD_eq_getElem?_getD, List.getElem?_drop]
theorem and_or_zero {a b c : Nat} (h : ((a ||| b) &&& c) = 0) : (a &&& c) = 0 ∧ (b &&& c) = 0 := by
  rw [Nat.and_or_distrib_right] at h
  exact Nat.or_eq_zero_iff.1 h
theorem hi_zero {n : Nat} (h : ((n &&& (9259542123273814144 : Int).toNat : Nat) : Int) = 0) : (n &&& 9259542123273814144) = 0 := Int.ofNat_inj.1 h
set_option maxRecDepth 10000 in
theorem valid_ok {S : Nat → Prop} {v : Value} {b : List Int} {w : World} (h : RBytes S w v b) (hb : ByteL b) (hT : Tabs w) :
    callK Tryz.prog 174 [v] (fun v' w' => v' = .bool (readB b).isSome ∧ Grow w w') w := by
  apply S174_ok
  unfold S174
  have hu : Tryz.prog.underlying 70 = some (.slice 5) := by kernel_rfl
  have hi : Tryz.prog.info? 5 = some Tryz.t5 := by kernel_rfl
  have hs : Tryz.t5.size = 1 := by kernel_rfl
  obtain ⟨a, c, rfl, hm⟩ := h.shape
  obtain ⟨_, _, e0, hc0, _, _⟩ := id h
  cases e0
  rw [lenK_i, lenK_i]
  obtain ⟨a', hr0, ha'⟩ := slice_all_run (a := a) (n := b.length) (c := c) hu hi hs hc0 w
  refine runK_i hr0 ?_
  have h' : RBytes S w (.slice a' b.length b.length) b := by
    obtain ⟨_, _, e0, h1, h2, h3⟩ := h
    cases e0
    refine ⟨_, _, rfl, Nat.le_refl _, hm, fun i x hx => ?_⟩
    obtain ⟨p, r, rfl, q⟩ := h3 i x hx
    have := (List.getElem?_eq_some_iff.1 hx).1
    exact ⟨p, r, ha' (by omega), q⟩
  refine LoopK_i (fun vs W => ∃ l v1, vs = [v1] ∧ RBytes S W v1 l ∧ ByteL l ∧ (readB b).isSome = (readB l).isSome ∧ Grow w W) (fun vs _ => slLen (nth vs 0)) ⟨b, _, rfl, h', hb, rfl, Mod.refl _ _⟩ ?_
  rintro vs W ⟨l, v1, rfl, hl, hB, hrd, gW⟩ _
  rw [nth_z, List.headD_cons]
  obtain ⟨p1, c1, rfl, hm1⟩ := hl.shape
  simp only [maxLen] at hm1
  rw [lenK_i, gtK_i]
  refine condK_p (fun hpos => ?_) fun hneg => ?_
  rotate_left
  · have : l = [] := List.eq_nil_of_length_eq_zero (by omega)
    subst this
    exact ⟨by rw [hrd, readB_nil]; rfl, gW⟩
  -- the round ends with a rest that is shorter
  have again : ∀ {W' : World} {v' : Value} {l' : List Int}, RBytes S W' v' l' → ByteL l' → (readB l).isSome = (readB l').isSome → l'.length < l.length → Grow w W' →
      ((∃ l v1, [v'] = [v1] ∧ RBytes S W' v1 l ∧ ByteL l ∧ (readB b).isSome = (readB l).isSome ∧ Grow w W') ∧ slLen (nth [v'] 0) < slLen (nth [Value.slice p1 l.length c1] 0)) := by
    intro W' v' l' h1 h2 h3 h4 h5
    obtain ⟨q, d, rfl, _⟩ := h1.shape
    exact ⟨⟨l', _, rfl, h1, h2, hrd.trans h3, h5⟩, h4⟩
  have sl : ∀ {W' : World} {q : Option Addr} {n d j : Nat} {l' : List Int} {K : Cont}, RBytes S W' (.slice q n d) l' → j ≤ l'.length → (∀ v', RBytes S W' v' (l'.drop j) → K v' W') → runK Tryz.prog (Instr.sliceAt 70 (.slice q n d) (some (.int .i64 j)) none none) K W' :=
    fun h1 h2 h3 => slice_lo (e := 5) (i := Tryz.t5) hu hi hs h1 h2 h3
  have ge : ∀ {W1 W2 : World} {v' : Value} {l' : List Int}, RBytes S W1 v' l' → Grow W1 W2 → RBytes S W2 v' l' := fun h1 g => h1.grow g (by decide) fun _ _ h => h
  -- a word's call, in a region
  have wq : ∀ {W1 : World} {v' : Value} {l' : List Int} {K : Value → Prop}, RBytes S W1 v' l' → ByteL l' → 8 ≤ l'.length → K (.int .u64 (wordN l')) → qcallK Tryz.prog (fun W2 => Grow W1 W2) 200 [v'] K := by
    intro W1 v' l' K h1 h2 h3 h4
    refine ⟨_, fun w2 g => callK_mono (word_ok (ge h1 g) h2 h3) ?_, h4⟩
    rintro _ w3 ⟨rfl, g3⟩
    exact ⟨rfl, g.trans g3⟩
  obtain ⟨x, t, rfl⟩ : ∃ x t, l = x :: t := by cases l with | nil => simp at hpos | cons x t => exact ⟨x, t, rfl⟩
  have hx := hB x List.mem_cons_self
  have hBt : ByteL t := fun y hy => hB y (List.mem_cons_of_mem _ hy)
  obtain ⟨p, r, rfl, _, hr, hc, rfl⟩ := hl.get (i := 0) (by simp)
  have cx : W.cell? (p.add (0 * 1 + 0)) = some (.int .u8 x) := hc 0 _ rfl
  refine ixK_n (j := 0) (by simp) (ld1K_i cx ?_)
  show ltK .u8 (.int .u8 x) _ _
  rw [ltK_i]
  refine condK_p (fun hlo => ?_) fun hhi => ?_
  · -- ASCII
    have hrt : (readB (x :: t)).isSome = (readB t).isSome := by
      have := skip_ok (l := x :: t) (k := 1) hB (by simp) fun j hj => by
        have : j = 0 := by omega
        subst this; exact hlo
      simpa using this
    refine sl hl (j := 1) (by simp) fun v2 hv2 => ?_
    rw [List.drop_succ_cons, List.drop_zero] at hv2
    obtain ⟨q2, d2, rfl, _⟩ := hv2.shape
    refine JoinK_i (fun vs W2 => Grow W W2 ∧ ∃ q : Bool, vs = [.bool q] ∧ (q = true → 8 ≤ t.length ∧ ∀ j, j < 8 → t.getD j 0 < 128)) ?_ ?_
    · rintro vs W2 ⟨g2, q, rfl, hq⟩ _
      rw [nth_z, List.headD_cons]
      cases q with
      | false => exact condK_f (again (ge hv2 g2) hBt hrt (by simp) (gW.trans g2))
      | true =>
        obtain ⟨h8, hq8⟩ := hq rfl
        refine condK_t (sl (ge hv2 g2) (j := 8) h8 fun v3 hv3 => ?_)
        have hB3 : ByteL (t.drop 8) := ByteL.drop hBt 8
        have hr3 : (readB (x :: t)).isSome = (readB (t.drop 8)).isSome := hrt.trans (skip_ok hBt h8 hq8)
        have hl3 : (t.drop 8).length < (x :: t).length := by simp; omega
        generalize t.drop 8 = l3 at hv3 hB3 hr3 hl3
        obtain ⟨q3, d3, rfl, _⟩ := hv3.shape
        refine JoinK_i (fun vs W3 => Grow W W3 ∧ Grow W2 W3 ∧ ∃ q : Bool, vs = [.bool q] ∧ (q = true → 16 ≤ l3.length ∧ ∀ j, j < 16 → l3.getD j 0 < 128)) ?_ ?_
        · rintro vs W3 ⟨g3, g23, q, rfl, hq⟩ _
          rw [nth_z, List.headD_cons]
          cases q with
          | false => exact condK_f (again (ge hv3 g23) hB3 hr3 hl3 (gW.trans g3))
          | true =>
            obtain ⟨h16, hq16⟩ := hq rfl
            refine condK_t (sl (ge hv3 g23) (j := 16) h16 fun v4 hv4 => ?_)
            refine LoopK_i (fun vs W4 => ∃ l4 v5, vs = [v5] ∧ RBytes S W4 v5 l4 ∧ ByteL l4 ∧ (readB (x :: t)).isSome = (readB l4).isSome ∧ l4.length < (x :: t).length ∧ Grow W W4) (fun vs _ => slLen (nth vs 0))
              ⟨_, _, rfl, hv4, ByteL.drop hB3 16, hr3.trans (skip_ok hB3 h16 hq16), by simp only [List.length_drop]; omega, g3⟩ ?_
            rintro vs W4 ⟨l4, v5, rfl, hv5, hB4, hr4, hl4, g4⟩ _
            rw [nth_z, List.headD_cons]
            obtain ⟨q5, d5, rfl, _⟩ := hv5.shape
            refine drawK_i (fun W' => Grow W4 W') (Mod.drew _ _) ?_
            rw [lenK_i, gtK_i]
            refine condK_p (fun h32 => ?_) fun _ => fun W' g' => again (ge hv5 g') hB4 hr4 hl4 (gW.trans (g4.trans g'))
            have h32' : 32 < l4.length := by omega
            have run := fun (j : Nat) (hj : j ≤ l4.length) (w' : World) => slice_lo_run (a := q5) (n := l4.length) (c := d5) hu hi hs hj w'
            have sls := fun (j : Nat) (hj : j ≤ l4.length) => slice_lo_sl hv5 hj
            refine wq hv5 hB4 (by omega) ?_
            refine ⟨_, fun w' _ => run 8 (by omega) w', ?_⟩
            refine wq (sls 8 (by omega)) (ByteL.drop hB4 8) (by simp only [List.length_drop]; omega) ?_
            have u0 := wordN_U hB4
            have u1 := wordN_U (ByteL.drop hB4 8)
            have u2 := wordN_U (ByteL.drop hB4 16)
            have u3 := wordN_U (ByteL.drop hB4 24)
            refine ⟨_, fun w' _ => run_or64 w' u0 u1, ?_⟩
            refine ⟨_, fun w' _ => run 16 (by omega) w', ?_⟩
            refine wq (sls 16 (by omega)) (ByteL.drop hB4 16) (by simp only [List.length_drop]; omega) ?_
            refine ⟨_, fun w' _ => run 24 (by omega) w', ?_⟩
            refine wq (sls 24 (by omega)) (ByteL.drop hB4 24) (by simp only [List.length_drop]; omega) ?_
            refine ⟨_, fun w' _ => run_or64 w' u2 u3, ?_⟩
            refine ⟨_, fun w' _ => run_or64 w' (orN_U u0 u1) (orN_U u2 u3), ?_⟩
            refine ⟨_, fun w' _ => run_and64 w' (orN_U (orN_U u0 u1) (orN_U u2 u3)) (by unfold U64; decide), ?_⟩
            show eqK .u64 (.int .u64 _) _ _
            rw [eqK_i]
            intro W' g'
            refine condK_p (fun hz => ?_) fun _ => again (ge hv5 g') hB4 hr4 hl4 (gW.trans (g4.trans g'))
            have hz' : ((orN (orN (wordN l4) (wordN (l4.drop 8))) (orN (wordN (l4.drop 16)) (wordN (l4.drop 24)))).toNat &&& 9259542123273814144 : Nat) = 0 := hi_zero hz
            simp only [orN, Int.toNat_natCast] at hz'
            obtain ⟨z1, z2⟩ := and_or_zero hz'
            obtain ⟨z3, z4⟩ := and_or_zero z1
            obtain ⟨z5, z6⟩ := and_or_zero z2
            have a32 : ∀ j, j < 32 → l4.getD j 0 < 128 := by
              intro j hj
              rcases (show j < 8 ∨ 8 ≤ j ∧ j < 16 ∨ 16 ≤ j ∧ j < 24 ∨ 24 ≤ j by omega) with h | h | h | h
              · exact word_ascii hB4 z3 h
              · have := word_ascii (ByteL.drop hB4 8) z4 (j := j - 8) (by omega)
                rw [getD_drop, show 8 + (j - 8) = j by omega] at this; exact this
              · have := word_ascii (ByteL.drop hB4 16) z5 (j := j - 16) (by omega)
                rw [getD_drop, show 16 + (j - 16) = j by omega] at this; exact this
              · have := word_ascii (ByteL.drop hB4 24) z6 (j := j - 24) (by omega)
                rw [getD_drop, show 24 + (j - 24) = j by omega] at this; exact this
            refine sl (ge hv5 g') (j := 32) (by omega) fun v6 hv6 => ?_
            obtain ⟨q6, d6, rfl, _⟩ := hv6.shape
            refine ⟨⟨_, _, rfl, hv6, ByteL.drop hB4 32, hr4.trans (skip_ok hB4 (by omega) a32), by simp only [List.length_drop]; omega, g4.trans g'⟩, ?_⟩
            show (l4.drop 32).length < l4.length
            rw [List.length_drop]; omega
        · refine drawK_i (fun W' => Grow W2 W') (Mod.drew _ _) ?_
          rw [lenK_i, gtK_i]
          refine condK_p (fun h16 => ?_) fun _ => fun W' g' => ⟨g2.trans g', g', false, rfl, fun h => (nomatch h)⟩
          have h16' : 16 < l3.length := by omega
          refine wq hv3 hB3 (by omega) ?_
          refine ⟨_, fun w' _ => slice_lo_run (a := q3) (n := l3.length) (c := d3) hu hi hs (j := 8) (by omega) w', ?_⟩
          refine wq (slice_lo_sl hv3 (by omega)) (ByteL.drop hB3 8) (by simp only [List.length_drop]; omega) ?_
          have u0 := wordN_U hB3
          have u1 := wordN_U (ByteL.drop hB3 8)
          refine ⟨_, fun w' _ => run_or64 w' u0 u1, ?_⟩
          refine ⟨_, fun w' _ => run_and64 w' (orN_U u0 u1) (by unfold U64; decide), ?_⟩
          show eqK .u64 (.int .u64 _) _ _
          rw [eqK_i]
          intro W' g'
          refine ⟨g2.trans g', g', _, rfl, fun hz => ?_⟩
          rw [decide_eq_true_eq] at hz
          have hz' : ((orN (wordN l3) (wordN (l3.drop 8))).toNat &&& 9259542123273814144 : Nat) = 0 := hi_zero hz
          simp only [orN, Int.toNat_natCast] at hz'
          obtain ⟨z1, z2⟩ := and_or_zero hz'
          refine ⟨by omega, fun j hj => ?_⟩
          rcases (show j < 8 ∨ 8 ≤ j by omega) with h | h
          · exact word_ascii hB3 z1 h
          · have := word_ascii (ByteL.drop hB3 8) z2 (j := j - 8) (by omega)
            rw [getD_drop, show 8 + (j - 8) = j by omega] at this; exact this
    · rw [lenK_i, gtK_i]
      refine condK_p (fun h8 => ?_) fun _ => ⟨Mod.refl _ _, false, rfl, fun h => (nomatch h)⟩
      have h8' : 8 < t.length := by omega
      refine callK_mono (word_ok hv2 hBt (by omega)) ?_
      rintro _ W2 ⟨rfl, g2⟩
      refine runK_i (run_and64 W2 (wordN_U hBt) (by unfold U64; decide)) ?_
      rw [eqK_i]
      refine ⟨g2, _, rfl, fun hz => ?_⟩
      rw [decide_eq_true_eq] at hz
      exact ⟨by omega, fun j hj => word_ascii hBt (hi_zero hz) hj⟩
  · -- the first byte of several
    have bad : nextB (x :: t) = (0, 0) → ∀ {W'}, Grow w W' → Value.bool false = .bool (readB b).isSome ∧ Grow w W' := fun e W' g => ⟨by rw [hrd, readB_step (by simp), e]; rfl, g⟩
    have good : ∀ {n : Nat} {r : Int}, nextB (x :: t) = (r, n) → 0 < n → (readB (x :: t)).isSome = (readB ((x :: t).drop n)).isSome := by
      intro n r e hn
      rw [readB_step (by simp), e]
      show (decide (n ≠ 0) && _) = _
      rw [decide_eq_true (show n ≠ 0 by omega), Bool.true_and]
    obtain ⟨f, z, j, hf, hf0, hf1, hz, hj, hj16, hzs, hacc⟩ := tab_ok (x := x) (by omega) hx.2
    have hTW := hT.grow gW
    have cf : W.cell? (Addr.add ⟨0, 0, none⟩ (x.toNat * 1)) = some (.int .u8 f) := by
      rw [addr0, Nat.mul_one, ← hf]
      have := hTW.first x.toNat (by omega) (by omega)
      rwa [show ((x.toNat : Nat) : Int) = x by omega] at this
    refine runK_i (run_indexAt_arr (n := 256) (e := 5) (i := Tryz.t5) (s := 1) (by kernel_rfl) (by kernel_rfl) (by kernel_rfl) hx.1 (by omega)) (ld1K_i cf ?_)
    refine runK_i (run_and8 W hf0 hf1 hz) ?_
    refine runK_i (run_conv (k := .i64) W (by kernel_rfl) (by kernel_rfl)) ?_
    have hz7 : z ≤ 7 := hz ▸ Nat.and_le_right
    rw [wrap64 (by omega) (by omega)]
    refine runK_i (run_shr (n := 4) W (by decide)) ?_
    have ej : f.fdiv (2 ^ 4) = (j : Int) := by
      rw [Int.fdiv_eq_ediv_of_nonneg _ (by decide), ← hj]; rfl
    rw [ej]
    refine runK_i (run_indexAt_arr (n := 16) (e := 244) (i := Tryz.t244) (s := 2) (by kernel_rfl) (by kernel_rfl) (by kernel_rfl) (by omega) (by omega)) ?_
    rw [Int.toNat_natCast, addr0]
    obtain ⟨ca, cb⟩ := hTW.acc j hj16
    refine ldnK_i (vs := [.int .u8 (accLo j), .int .u8 (accHi j)]) rfl (fun q u hu => ?_) ?_
    · rcases q with _ | _ | q
      · cases hu; exact ca
      · cases hu; exact cb
      · simp at hu
    refine newst_n (vs := [.int .u8 (accLo j), .int .u8 (accHi j)]) rfl rfl (fun u hu => by simp at hu; rcases hu with rfl | rfl <;> rfl) fun b6 W2 hb6 hz6 g6 hc6 _ => ?_
    have c6a := hc6 0 _ rfl
    have c6b := hc6 1 _ rfl
    have gW2 := gW.trans g6
    have hl2 := ge hl g6
    have lenpos : 0 < (x :: t).length := by simp
    -- the second byte's test, the third's
    rw [eqK_i]
    refine condK_p (fun h2 => ?_) fun h2 => ?_
    · have hz2 : z = 2 := by omega
      have hsz : hdSize x = 2 := by omega
      obtain ⟨elo, ehi⟩ := hacc (by omega)
      refine JoinK_i (fun _ W3 => Grow W2 W3 ∧ 2 ≤ (x :: t).length ∧ (readB (x :: t)).isSome = (readB ((x :: t).drop 2)).isSome) ?_ ?_
      · rintro vs W3 ⟨g3, hle, hrr⟩ _
        refine sl (ge hl2 g3) (j := 2) hle fun v3 hv3 => ?_
        exact again hv3 (ByteL.drop hB 2) hrr (by rw [List.length_drop]; omega) (gW2.trans g3)
      refine drawK_i (fun W' => Grow W2 W') (Mod.drew _ _) ?_
      rw [lenK_i, ltK_i]
      refine condK_p (fun hsh => fun W' g' => bad (next_short hx.2 (by rw [hsz]; omega)) (gW2.trans g')) fun hlg => ?_
      obtain ⟨y1, t1, rfl⟩ : ∃ y t', t = y :: t' := by cases t with | nil => simp at hlg | cons y t' => exact ⟨y, t', rfl⟩
      have hy1 := hBt y1 List.mem_cons_self
      have hn := next_2 (t := t1) hsz hy1.1 hy1.2
      obtain ⟨_, r1, e1, _, hr1, hc1, rfl⟩ := hl2.get (i := 1) (by simp)
      cases e1
      have cy1 := hc1 0 _ rfl
      refine ixK_n (j := 1) (by simp) (qld1K_i (fun w' g => g.cell cy1 fun h => h) ?_)
      rw [faK_i]
      refine qld1K_i (fun w' g => g.cell c6a fun h => h) ?_
      show ltK .u8 (.int .u8 y1) _ _
      rw [ltK_i]
      refine condK_p (fun hb1 => fun W' g' => bad (by rw [hn, if_neg (by omega)]) (gW2.trans g')) fun hb1 => ?_
      rw [faK_i]
      refine qld1K_i (fun w' g => g.cell c6b fun h => h) ?_
      refine ixK_n (j := 1) (by simp) (qld1K_i (fun w' g => g.cell cy1 fun h => h) ?_)
      show ltK .u8 _ (.int .u8 y1) _
      rw [ltK_i]
      intro W' g'
      refine condK_p (fun hb2 => bad (by rw [hn, if_neg (by omega)]) (gW2.trans g')) fun hb2 => ?_
      exact ⟨g', by simp, good (by rw [hn, if_pos (by omega)]) (by decide)⟩
    rw [eqK_i]
    refine condK_p (fun h3 => ?_) fun h3 => ?_
    · have hz3 : z = 3 := by omega
      have hsz : hdSize x = 3 := by omega
      obtain ⟨elo, ehi⟩ := hacc (by omega)
      refine JoinK_i (fun _ W3 => Grow W2 W3 ∧ 3 ≤ (x :: t).length ∧ (readB (x :: t)).isSome = (readB ((x :: t).drop 3)).isSome) ?_ ?_
      · rintro vs W3 ⟨g3, hle, hrr⟩ _
        refine sl (ge hl2 g3) (j := 3) hle fun v3 hv3 => ?_
        exact again hv3 (ByteL.drop hB 3) hrr (by rw [List.length_drop]; omega) (gW2.trans g3)
      refine drawK_i (fun W' => Grow W2 W') (Mod.drew _ _) ?_
      rw [lenK_i, ltK_i]
      refine condK_p (fun hsh => fun W' g' => bad (next_short hx.2 (by rw [hsz]; omega)) (gW2.trans g')) fun hlg => ?_
      obtain ⟨y1, y2, t1, rfl⟩ : ∃ y y2 t', t = y :: y2 :: t' := by
        rcases t with _ | ⟨y, _ | ⟨y2, t'⟩⟩
        · simp at hlg
        · simp at hlg
        · exact ⟨y, y2, t', rfl⟩
      have hy1 := hBt y1 List.mem_cons_self
      have hy2 := hBt y2 (List.mem_cons_of_mem _ List.mem_cons_self)
      have hn := next_3 (t := t1) hsz hy1.1 hy1.2 hy2.1 hy2.2
      obtain ⟨_, r1, e1, _, hr1, hc1, rfl⟩ := hl2.get (i := 1) (by simp)
      cases e1
      have cy1 := hc1 0 _ rfl
      obtain ⟨_, r2, e2, _, hr2, hc2, rfl⟩ := hl2.get (i := 2) (by simp)
      cases e2
      have cy2 := hc2 0 _ rfl
      refine ixK_n (j := 1) (by simp) (qld1K_i (fun w' g => g.cell cy1 fun h => h) ?_)
      rw [faK_i]
      refine qld1K_i (fun w' g => g.cell c6a fun h => h) ?_
      show ltK .u8 (.int .u8 y1) _ _
      rw [ltK_i]
      refine condK_p (fun hb1 => fun W' g' => bad (by rw [hn, if_neg (by omega)]) (gW2.trans g')) fun hb1 => ?_
      rw [faK_i]
      refine qld1K_i (fun w' g => g.cell c6b fun h => h) ?_
      refine ixK_n (j := 1) (by simp) (qld1K_i (fun w' g => g.cell cy1 fun h => h) ?_)
      show ltK .u8 _ (.int .u8 y1) _
      rw [ltK_i]
      refine condK_p (fun hb2 => fun W' g' => bad (by rw [hn, if_neg (by omega)]) (gW2.trans g')) fun hb2 => ?_
      refine ixK_n (j := 2) (by simp) (qld1K_i (fun w' g => g.cell cy2 fun h => h) ?_)
      show ltK .u8 (.int .u8 y2) _ _
      rw [ltK_i]
      refine condK_p (fun hb3 => fun W' g' => bad (by rw [hn, if_neg (by omega)]) (gW2.trans g')) fun hb3 => ?_
      refine ixK_n (j := 2) (by simp) (qld1K_i (fun w' g => g.cell cy2 fun h => h) ?_)
      show ltK .u8 _ (.int .u8 y2) _
      rw [ltK_i]
      intro W' g'
      refine condK_p (fun hb4 => bad (by rw [hn, if_neg (by omega)]) (gW2.trans g')) fun hb4 => ?_
      exact ⟨g', by simp, good (by rw [hn, if_pos (by omega)]) (by decide)⟩
    rw [eqK_i]
    refine condK_p (fun h4 => ?_) fun h4 => ?_
    · have hz4 : z = 4 := by omega
      have hsz : hdSize x = 4 := by omega
      obtain ⟨elo, ehi⟩ := hacc (by omega)
      refine JoinK_i (fun _ W3 => Grow W2 W3 ∧ 4 ≤ (x :: t).length ∧ (readB (x :: t)).isSome = (readB ((x :: t).drop 4)).isSome) ?_ ?_
      · rintro vs W3 ⟨g3, hle, hrr⟩ _
        refine sl (ge hl2 g3) (j := 4) hle fun v3 hv3 => ?_
        exact again hv3 (ByteL.drop hB 4) hrr (by rw [List.length_drop]; omega) (gW2.trans g3)
      refine drawK_i (fun W' => Grow W2 W') (Mod.drew _ _) ?_
      rw [lenK_i, ltK_i]
      refine condK_p (fun hsh => fun W' g' => bad (next_short hx.2 (by rw [hsz]; omega)) (gW2.trans g')) fun hlg => ?_
      obtain ⟨y1, y2, y3, t1, rfl⟩ : ∃ y y2 y3 t', t = y :: y2 :: y3 :: t' := by
        rcases t with _ | ⟨y, _ | ⟨y2, _ | ⟨y3, t'⟩⟩⟩
        · simp at hlg
        · simp at hlg
        · simp at hlg
        · exact ⟨y, y2, y3, t', rfl⟩
      have hy1 := hBt y1 List.mem_cons_self
      have hy2 := hBt y2 (List.mem_cons_of_mem _ List.mem_cons_self)
      have hy3 := hBt y3 (List.mem_cons_of_mem _ (List.mem_cons_of_mem _ List.mem_cons_self))
      have hn := next_4 (t := t1) hsz hy1.1 hy1.2 hy2.1 hy2.2 hy3.1 hy3.2
      obtain ⟨_, r1, e1, _, hr1, hc1, rfl⟩ := hl2.get (i := 1) (by simp)
      cases e1
      have cy1 := hc1 0 _ rfl
      obtain ⟨_, r2, e2, _, hr2, hc2, rfl⟩ := hl2.get (i := 2) (by simp)
      cases e2
      have cy2 := hc2 0 _ rfl
      obtain ⟨_, r3, e3, _, hr3, hc3, rfl⟩ := hl2.get (i := 3) (by simp)
      cases e3
      have cy3 := hc3 0 _ rfl
      refine ixK_n (j := 1) (by simp) (qld1K_i (fun w' g => g.cell cy1 fun h => h) ?_)
      rw [faK_i]
      refine qld1K_i (fun w' g => g.cell c6a fun h => h) ?_
      show ltK .u8 (.int .u8 y1) _ _
      rw [ltK_i]
      refine condK_p (fun hb1 => fun W' g' => bad (by rw [hn, if_neg (by omega)]) (gW2.trans g')) fun hb1 => ?_
      rw [faK_i]
      refine qld1K_i (fun w' g => g.cell c6b fun h => h) ?_
      refine ixK_n (j := 1) (by simp) (qld1K_i (fun w' g => g.cell cy1 fun h => h) ?_)
      show ltK .u8 _ (.int .u8 y1) _
      rw [ltK_i]
      refine condK_p (fun hb2 => fun W' g' => bad (by rw [hn, if_neg (by omega)]) (gW2.trans g')) fun hb2 => ?_
      refine ixK_n (j := 2) (by simp) (qld1K_i (fun w' g => g.cell cy2 fun h => h) ?_)
      show ltK .u8 (.int .u8 y2) _ _
      rw [ltK_i]
      refine condK_p (fun hb3 => fun W' g' => bad (by rw [hn, if_neg (by omega)]) (gW2.trans g')) fun hb3 => ?_
      refine ixK_n (j := 2) (by simp) (qld1K_i (fun w' g => g.cell cy2 fun h => h) ?_)
      show ltK .u8 _ (.int .u8 y2) _
      rw [ltK_i]
      refine condK_p (fun hb4 => fun W' g' => bad (by rw [hn, if_neg (by omega)]) (gW2.trans g')) fun hb4 => ?_
      refine ixK_n (j := 3) (by simp) (qld1K_i (fun w' g => g.cell cy3 fun h => h) ?_)
      show ltK .u8 (.int .u8 y3) _ _
      rw [ltK_i]
      refine condK_p (fun hb5 => fun W' g' => bad (by rw [hn, if_neg (by omega)]) (gW2.trans g')) fun hb5 => ?_
      refine ixK_n (j := 3) (by simp) (qld1K_i (fun w' g => g.cell cy3 fun h => h) ?_)
      show ltK .u8 _ (.int .u8 y3) _
      rw [ltK_i]
      intro W' g'
      refine condK_p (fun hb6 => bad (by rw [hn, if_neg (by omega)]) (gW2.trans g')) fun hb6 => ?_
      exact ⟨g', by simp, good (by rw [hn, if_pos (by omega)]) (by decide)⟩
    · exact bad (next_bad hB (by omega) (by have := hdSize_v x; omega)) gW2
end Go.Proofs.YtlbaopamhkmepaaGreatDoor

namespace Go.Proofs.YtlbaopamhkmepaaGreatDoor
open Go Go.K

/-- a natural number in groups of seven bits, the lowest first -/
def uvB : Nat → Nat → List Int
  | 0, n => [(n : Int)]
  | f + 1, n => if n ≤ 127 then [(n : Int)] else ((n % 128 + 128 : Nat) : Int) :: uvB f (n / 128)
def uv (n : Nat) : List Int := uvB 9 n
def zigN (n : Int) : Nat := if 0 ≤ n then (2 * n).toNat else (-2 * n - 1).toNat
theorem zigN_inj {a b : Int} (h : zigN a = zigN b) : a = b := by
  unfold zigN at h
  split at h <;> split at h <;> omega
theorem zigN_lt {n : Int} (h0 : -9223372036854775808 ≤ n) (h1 : n ≤ 9223372036854775807) : zigN n < 18446744073709551616 := by
  unfold zigN; split <;> omega
theorem uvB_pre : ∀ {f n m : Nat} {x y : List Int}, n < 128 ^ (f + 1) → m < 128 ^ (f + 1) → uvB f n ++ x = uvB f m ++ y → n = m ∧ x = y := by
  intro f
  induction f with
  | zero =>
    intro n m x y _ _ h
    simp only [uvB, List.singleton_append, List.cons.injEq] at h
    exact ⟨by omega, h.2⟩
  | succ f ih =>
    intro n m x y hn hm h
    rw [Nat.pow_succ] at hn hm
    simp only [uvB] at h
    by_cases h1 : n ≤ 127 <;> by_cases h2 : m ≤ 127
    · rw [if_pos h1, if_pos h2] at h
      simp only [List.singleton_append, List.cons.injEq] at h
      exact ⟨by omega, h.2⟩
    · rw [if_pos h1, if_neg h2] at h
      simp only [List.cons_append, List.cons.injEq] at h
      omega
    · rw [if_neg h1, if_pos h2] at h
      simp only [List.cons_append, List.cons.injEq] at h
      omega
    · rw [if_neg h1, if_neg h2] at h
      simp only [List.cons_append, List.cons.injEq] at h
      have := ih (Nat.div_lt_of_lt_mul (by omega)) (Nat.div_lt_of_lt_mul (by omega)) h.2
      exact ⟨by omega, this.2⟩
theorem uv_pre {n m : Nat} {x y : List Int} (hn : n < 18446744073709551616) (hm : m < 18446744073709551616) (h : uv n ++ x = uv m ++ y) : n = m ∧ x = y := by
  have e : (18446744073709551616 : Nat) ≤ 128 ^ (9 + 1) := by decide
  exact uvB_pre (by omega) (by omega) h
theorem uvB_len : ∀ (f n : Nat), 1 ≤ (uvB f n).length ∧ (uvB f n).length ≤ f + 1 := by
  intro f
  induction f with
  | zero => intro n; simp [uvB]
  | succ f ih =>
    intro n
    simp only [uvB]
    split
    · simp
    · have := ih (n / 128)
      simp only [List.length_cons]; omega
theorem uvB_byte : ∀ (f n : Nat), n < 128 ^ (f + 1) → ∀ x ∈ uvB f n, 0 ≤ x ∧ x < 256 := by
  intro f
  induction f with
  | zero => intro n hn x hx; simp only [uvB, List.mem_singleton] at hx; subst hx; simp at hn; omega
  | succ f ih =>
    intro n hn x hx
    rw [Nat.pow_succ] at hn
    simp only [uvB] at hx
    split at hx
    · simp only [List.mem_singleton] at hx; omega
    · rcases List.mem_cons.1 hx with rfl | hx
      · omega
      · exact ih _ (Nat.div_lt_of_lt_mul (by omega)) x hx
theorem uv_byte {n : Nat} (hn : n < 18446744073709551616) : ∀ x ∈ uv n, 0 ≤ x ∧ x < 256 := by
  have e : (18446744073709551616 : Nat) ≤ 128 ^ (9 + 1) := by decide
  exact uvB_byte 9 n (by omega)

/-- an attribute whose numbers lie in their types -/
def InA (a : Attr) : Prop := (-9223372036854775808 ≤ a.key ∧ a.key ≤ 9223372036854775807) ∧ (0 ≤ a.val.kind ∧ a.val.kind < 256) ∧ (-9223372036854775808 ≤ a.val.n ∧ a.val.n ≤ 9223372036854775807) ∧ (0 ≤ a.val.f ∧ a.val.f < 18446744073709551616) ∧ a.val.s.size < 18446744073709551616
def encA (a : Attr) : List Int := uv (zigN a.key) ++ (uv a.val.kind.toNat ++ (uv (zigN a.val.n) ++ (uv a.val.f.toNat ++ (uv a.val.s.size ++ bytesL a.val.s))))
def encS (l : List Attr) : List Int := l.flatMap encA
theorem bytesL_inj {s t : ByteArray} (h : bytesL s = bytesL t) : s = t := by
  unfold bytesL at h
  have h2 := (List.map_inj_right (f := fun b : UInt8 => (b.toNat : Int)) (fun a b e => UInt8.toNat_inj.1 (Int.ofNat_inj.1 e))).1 h
  cases s; cases t
  simp only [ByteArray.mk.injEq]
  exact Array.toList_inj.1 h2
theorem bytesL_len (s : ByteArray) : (bytesL s).length = s.size := by simp [bytesL]
theorem encA_pre {a b : Attr} (ha : InA a) (hb : InA b) {x y : List Int} (h : encA a ++ x = encA b ++ y) : a = b ∧ x = y := by
  obtain ⟨a1, a2, a3, a4, a5⟩ := ha
  obtain ⟨b1, b2, b3, b4, b5⟩ := hb
  unfold encA at h
  simp only [List.append_assoc] at h
  obtain ⟨e1, h⟩ := uv_pre (zigN_lt a1.1 a1.2) (zigN_lt b1.1 b1.2) h
  obtain ⟨e2, h⟩ := uv_pre (by omega) (by omega) h
  obtain ⟨e3, h⟩ := uv_pre (zigN_lt a3.1 a3.2) (zigN_lt b3.1 b3.2) h
  obtain ⟨e4, h⟩ := uv_pre (by omega) (by omega) h
  obtain ⟨e5, h⟩ := uv_pre a5 b5 h
  obtain ⟨e6, h⟩ := List.append_inj h (by rw [bytesL_len, bytesL_len, e5])
  refine ⟨?_, h⟩
  obtain ⟨ak, av⟩ := a
  obtain ⟨bk, bv⟩ := b
  obtain ⟨v1, v2, v3, v4⟩ := av
  obtain ⟨u1, u2, u3, u4⟩ := bv
  simp only at *
  have := zigN_inj e1
  have := zigN_inj e3
  have := bytesL_inj e6
  have : v1 = u1 := by omega
  have : v3 = u3 := by omega
  subst_vars
  rfl
theorem encS_inj : ∀ {l m : List Attr}, (∀ a ∈ l, InA a) → (∀ a ∈ m, InA a) → encS l = encS m → l = m := by
  have ne : ∀ a x, encA a ++ x ≠ [] := fun a x e => by
    have := uvB_len 9 (zigN a.key)
    have h := congrArg List.length e
    simp only [encA, List.length_append, List.length_nil, uv] at h
    omega
  intro l
  induction l with
  | nil =>
    intro m _ hm h
    cases m with
    | nil => rfl
    | cons b m => exact absurd h.symm (by simpa [encS] using ne b (encS m))
  | cons a l ih =>
    intro m hl hm h
    cases m with
    | nil => exact absurd h (by simpa [encS] using ne a (encS l))
    | cons b m =>
      simp only [encS, List.flatMap_cons] at h
      obtain ⟨rfl, h'⟩ := encA_pre (hl a List.mem_cons_self) (hm b List.mem_cons_self) h
      rw [ih (fun x hx => hl x (List.mem_cons_of_mem _ hx)) (fun x hx => hm x (List.mem_cons_of_mem _ hx)) (show encS l = encS m from h')]
end Go.Proofs.YtlbaopamhkmepaaGreatDoor

namespace Go.K
open Go

structure Ent (α : Type) where
  set : α
  held : Nat
/-- the table: of each place its set and how often it is held; the free places, the one freed last at the end; how often the empty set is held -/
structure Tab (α : Type) where
  places : List (Ent α)
  free : List Nat
  empty : Nat
def Tab.z (α : Type) : Tab α := ⟨[], [], 0⟩
structure Tab.Inv {α : Type} (G : α → Prop) (t : Tab α) : Prop where
  nod : t.free.Nodup
  fre : ∀ i : Nat, i ∈ t.free ↔ ∃ p, t.places[i]? = some p ∧ p.held = 0
  uni : ∀ (i j : Nat) (p q : Ent α), t.places[i]? = some p → t.places[j]? = some q → 0 < p.held → 0 < q.held → p.set = q.set → i = j
  ok : ∀ (i : Nat) (p : Ent α), t.places[i]? = some p → 0 < p.held → G p.set
/-- a set that is not there, at a place that nobody has, held once -/
def Tab.put {α : Type} (t : Tab α) (s : α) : Nat × Tab α := match t.free.getLast? with
  | some i => (i, { t with places := t.places.set i ⟨s, 1⟩, free := t.free.dropLast })
  | none => (t.places.length, { t with places := t.places ++ [⟨s, 1⟩] })
/-- a place is freed -/
def Tab.drop {α : Type} (t : Tab α) (z : α) (i : Nat) : Tab α := { t with places := t.places.set i ⟨z, 0⟩, free := t.free ++ [i] }
theorem Tab.Inv.z {α : Type} (G : α → Prop) : (Tab.z α).Inv G := ⟨List.nodup_nil, fun i => by simp [Tab.z], fun i j p q h => by simp [Tab.z] at h, fun i p h => by simp [Tab.z] at h⟩
theorem dropLast_mem {l : List Nat} (h : l.Nodup) {i : Nat} (hi : l.getLast? = some i) (j : Nat) : j ∈ l.dropLast ↔ j ∈ l ∧ j ≠ i := by
  have e : l = l.dropLast ++ [i] := by
    cases l with
    | nil => simp at hi
    | cons a l =>
      rw [List.getLast?_eq_some_getLast (by simp)] at hi
      conv => lhs; rw [← List.dropLast_concat_getLast (l := a :: l) (by simp)]
      rw [Option.some.inj hi]
  have hn : (l.dropLast ++ [i]).Nodup := e ▸ h
  have hm : j ∈ l ↔ j ∈ l.dropLast ++ [i] := by rw [← e]
  rw [List.nodup_append] at hn
  rw [hm, List.mem_append, List.mem_singleton]
  constructor
  · intro hj
    exact ⟨.inl hj, fun e => hn.2.2 j hj i (List.mem_singleton.2 rfl) e⟩
  · rintro ⟨h1 | h1, h2⟩
    · exact h1
    · exact absurd h1 h2
theorem Tab.put_spec {α : Type} {G : α → Prop} {t : Tab α} (h : t.Inv G) {s : α} (hg : G s) (hs : ∀ (i : Nat) (p : Ent α), t.places[i]? = some p → 0 < p.held → p.set ≠ s) :
    (t.put s).2.Inv G ∧ (t.put s).2.places[(t.put s).1]? = some ⟨s, 1⟩ ∧ (∀ p : Ent α, t.places[(t.put s).1]? = some p → p.held = 0) ∧ (∀ j : Nat, j ≠ (t.put s).1 → (t.put s).2.places[j]? = t.places[j]?) ∧ (t.put s).2.empty = t.empty := by
  unfold Tab.put
  cases hl : t.free.getLast? with
  | some i =>
    have him : i ∈ t.free := List.mem_of_getLast? hl
    obtain ⟨p, hp, hp0⟩ := (h.fre i).1 him
    have hi := (List.getElem?_eq_some_iff.1 hp).1
    have hsame : (t.places.set i ⟨s, 1⟩)[i]? = some ⟨s, 1⟩ := by rw [List.getElem?_set_self hi]
    have hoth : ∀ j : Nat, j ≠ i → (t.places.set i ⟨s, 1⟩)[j]? = t.places[j]? := fun j hj => List.getElem?_set_ne (Ne.symm hj)
    refine ⟨⟨h.nod.sublist (List.dropLast_sublist _), fun j => ?_, fun j k p1 p2 h1 h2 h3 h4 h5 => ?_, fun j p1 h1 h2 => ?_⟩, hsame, fun q hq => ?_, hoth, rfl⟩
    · show j ∈ t.free.dropLast ↔ ∃ q : Ent α, (t.places.set i ⟨s, 1⟩)[j]? = some q ∧ q.held = 0
      rw [dropLast_mem h.nod hl, h.fre]
      by_cases e : j = i
      · subst e
        rw [hsame]
        constructor
        · rintro ⟨_, h2⟩; exact absurd rfl h2
        · rintro ⟨q, e1, e2⟩; cases e1; cases e2
      · rw [hoth j e]
        exact ⟨fun h => h.1, fun h => ⟨h, e⟩⟩
    · simp only at h1 h2
      by_cases e1 : j = i <;> by_cases e2 : k = i
      · rw [e1, e2]
      · subst e1
        rw [hsame] at h1; cases h1
        rw [hoth k e2] at h2
        exact absurd h5.symm (hs k p2 h2 h4)
      · subst e2
        rw [hsame] at h2; cases h2
        rw [hoth j e1] at h1
        exact absurd h5 (hs j p1 h1 h3)
      · rw [hoth j e1] at h1; rw [hoth k e2] at h2
        exact h.uni j k p1 p2 h1 h2 h3 h4 h5
    · simp only at h1
      by_cases e1 : j = i
      · subst e1; rw [hsame] at h1; cases h1; exact hg
      · rw [hoth j e1] at h1; exact h.ok j p1 h1 h2
    · simp only at hq; rw [hp] at hq; cases hq; exact hp0
  | none =>
    have hf : t.free = [] := List.getLast?_eq_none_iff.1 hl
    have hsame : (t.places ++ [(⟨s, 1⟩ : Ent α)])[t.places.length]? = some ⟨s, 1⟩ := by simp
    have hoth : ∀ j : Nat, j ≠ t.places.length → (t.places ++ [(⟨s, 1⟩ : Ent α)])[j]? = t.places[j]? := by
      intro j hj
      by_cases hlt : j < t.places.length
      · rw [List.getElem?_append_left hlt]
      · rw [List.getElem?_eq_none (by simp; omega), List.getElem?_eq_none (by omega)]
    refine ⟨⟨h.nod, fun j => ?_, fun j k p1 p2 h1 h2 h3 h4 h5 => ?_, fun j p1 h1 h2 => ?_⟩, hsame, fun q hq => ?_, hoth, rfl⟩
    · show j ∈ t.free ↔ ∃ q : Ent α, (t.places ++ [(⟨s, 1⟩ : Ent α)])[j]? = some q ∧ q.held = 0
      by_cases e : j = t.places.length
      · subst e
        rw [hsame, hf]
        constructor
        · intro h; simp at h
        · rintro ⟨q, e1, e2⟩; cases e1; cases e2
      · rw [hoth j e, h.fre]
    · simp only at h1 h2
      by_cases e1 : j = t.places.length <;> by_cases e2 : k = t.places.length
      · rw [e1, e2]
      · subst e1
        rw [hsame] at h1; cases h1
        rw [hoth k e2] at h2
        exact absurd h5.symm (hs k p2 h2 h4)
      · subst e2
        rw [hsame] at h2; cases h2
        rw [hoth j e1] at h1
        exact absurd h5 (hs j p1 h1 h3)
      · rw [hoth j e1] at h1; rw [hoth k e2] at h2
        exact h.uni j k p1 p2 h1 h2 h3 h4 h5
    · simp only at h1
      by_cases e1 : j = t.places.length
      · subst e1; rw [hsame] at h1; cases h1; exact hg
      · rw [hoth j e1] at h1; exact h.ok j p1 h1 h2
    · simp only at hq; rw [List.getElem?_eq_none (Nat.le_refl _)] at hq; cases hq
end Go.K
