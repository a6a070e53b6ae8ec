/- Contracts: the document's sets and patches that may be; keys that may be a schema's. Conditions: the sizes of texts. Contracts: keys that may be a schema's; how much a delta has; deltas that may be; what is tame. Conditions: the sizes. The plain law of normal forms: the program's maker and the document's form agree, and what holds of a form. No program in sight. Contracts: deltas that may be; what is tame; whether deltas are alike. Conditions: the sizes. Contracts: a delta in memory of its own. Conditions: the sizes. Contracts: slices.Grow of nothing, slices.Concat of two rows of ops. Conditions: the sizes. The maker of normal forms in memory; contracts: New, gap, Delete. Conditions: the sizes. Contract: the maker is told an insert. Conditions: the sizes; what is told lies apart from the maker. Contract: the maker is told a retain. Conditions: the sizes; what is told lies apart from the maker. Contracts: what a maker has made; a delta's normal form; whether it is normal. Conditions: the sizes. Contracts of the document's side: whether two deltas are the same. No conditions. Adding onto an empty row that has no room: the row itself stays. No conditions but the sizes. Stacks: rows of the holder's own, or slices without room. No conditions but the sizes. By a program of ours: of each function below the predicate that its code comes to, and that it is sound. No conditions. Maps whose keys are ints, in memory. No conditions. -/
import Derived.Test.YtlbaopamhkmepaaGreatDoorZHistoryMostUpto2
import Derived.Lib.AppendZeros
import Derived.MapKept
namespace Go.Proofs.YtlbaopamhkmepaaGreatDoor
open Go Go.K

/-- keys that rise, up to a place -/
def RisN {α : Type} (key : α → Int) (l : List α) (n : Nat) : Prop := ∀ i, 1 ≤ i → i < n → ∀ a b, l[i - 1]? = some a → l[i]? = some b → key a < key b
theorem ris_loop {α : Type} {k : Nat} {R : World → List Value → α → Prop} {key : α → Int} {S : Nat → Prop} {w : World} {a : Option Addr} {c : Nat} {l : List α} {K : Cont} (h : SlR S k R w (.slice a l.length c) l) (hm : l.length ≤ maxLen) (hk : 0 < k)
    (hR : ∀ w r x, R w r x → r[0]? = some (.int .i64 (key x))) (h1 : ∀ w', Grow w w' → RisN key l l.length → K (.bool true) w') (h0 : ∀ w', Grow w w' → ¬ RisN key l l.length → K (.bool false) w') :
    LoopK [(.int .i64 1)] (fun vs again w1 => ∀ _ : Env, lenK (.slice a l.length c) fun t6 => ltK .i64 (nth vs 0) t6 fun t7 => condK t7
      (DrawK w1 (fun C => subK .i64 (nth vs 0) (.int .i64 1) fun t12 => ixK k (.slice a l.length c) t12 fun t13 => faK 0 t13 fun t14 => qld1K C t14 fun t15 => ixK k (.slice a l.length c) (nth vs 0) fun t18 => faK 0 t18 fun t19 => qld1K C t19 fun t20 => geK .i64 t15 t20 fun t21 =>
        ∀ w2 : World, C w2 → condK t21 (K (.bool false) w2) (addK .i64 (nth vs 0) (.int .i64 1) fun t9 => again [t9] w2)))
      (K (.bool true) w1)) w := by
  simp only [maxLen] at hm
  refine LoopK_i (fun vs w1 => ∃ i : Nat, 1 ≤ i ∧ vs = [.int .i64 i] ∧ Grow w w1 ∧ (i ≤ l.length ∨ i = 1) ∧ RisN key l i) (fun vs _ => l.length - iOf vs 0) ⟨1, Nat.le_refl _, rfl, Mod.refl _ _, .inr rfl, fun i h1 h2 => by omega⟩ ?_
  rintro vs w1 ⟨i, hi1, rfl, hg, hi2, hris⟩ _
  rw [lenK_i, nth_z, List.headD_cons, ltK_i]
  refine condK_p (fun hlt => ?_) fun hge => ?_
  · have hlt' : i < l.length := by omega
    refine ⟨fun w2 => Grow w1 w2, Mod.drew _ _, ?_⟩
    obtain ⟨p, r, rfl, _, hr, hc, hx⟩ := h.get (show i - 1 < l.length by omega)
    obtain ⟨_, r', e, _, hr', hc', hx'⟩ := h.get hlt'
    cases e
    rw [subK_i, wrap64 (by omega) (by omega), show ((i : Int) - 1) = ((i - 1 : Nat) : Int) by omega]
    refine ixK_n (by omega) ?_
    rw [faK_i, Addr.add_add]
    refine qld1K_i (fun w2 h2 => h2.cell (hg.cell (hc 0 _ (hR _ _ _ hx)) fun h => h) fun h => h) ?_
    refine ixK_n hlt' ?_
    rw [faK_i, Addr.add_add]
    refine qld1K_i (fun w2 h2 => h2.cell (hg.cell (hc' 0 _ (hR _ _ _ hx')) fun h => h) fun h => h) ?_
    rw [geK_i]
    intro w2 h2
    refine condK_p (fun hx => ?_) fun hx => ?_
    · refine h0 _ (hg.trans h2) fun hall => ?_
      have := hall i hi1 hlt' _ _ (List.getElem?_eq_getElem (by omega)) (List.getElem?_eq_getElem hlt')
      omega
    · rw [addK_i, loop_step (by omega)]
      refine ⟨⟨i + 1, by omega, rfl, hg.trans h2, .inl hlt', fun j h1 h2 a b ha hb => ?_⟩, by rw [iOf0, iOf0]; omega⟩
      by_cases e : j = i
      · subst e
        rw [List.getElem?_eq_getElem (by omega)] at ha
        rw [List.getElem?_eq_getElem hlt'] at hb
        cases ha; cases hb; omega
      · exact hris j h1 (by omega) a b ha hb
  · refine h1 _ hg fun j h1 h2 => ?_
    by_cases e : i ≤ l.length
    · exact hris j h1 (by omega)
    · omega
abbrev RisA (l : List Attr) : Prop := RisN Attr.key l l.length
abbrev RisC (l : List Chg) : Prop := RisN Chg.key l l.length
open Classical in
theorem risa_ok {S : Nat → Prop} {v : Value} {l : List Attr} {w : World} (h : RSet S w v l) : callK Tryz.prog 164 [v] (fun v' w' => v' = .bool (decide (RisA l)) ∧ Grow w w') w := by
  apply S164_ok
  unfold S164
  obtain ⟨a, c, rfl, hm⟩ := h.shape
  exact ris_loop (K := fun v' w' => v' = .bool (decide (RisA l)) ∧ Grow w w') (key := Attr.key) h hm (by decide) (fun w r x hx => by subst hx; rfl) (fun w' g hr => ⟨by rw [decide_eq_true hr], g⟩) fun w' g hr => ⟨by rw [decide_eq_false hr], g⟩
open Classical in
theorem risc_ok {S : Nat → Prop} {v : Value} {l : List Chg} {w : World} (h : RPat S w v l) : callK Tryz.prog 167 [v] (fun v' w' => v' = .bool (decide (RisC l)) ∧ Grow w w') w := by
  apply S167_ok
  unfold S167
  obtain ⟨a, c, rfl, hm⟩ := h.shape
  exact ris_loop (K := fun v' w' => v' = .bool (decide (RisC l)) ∧ Grow w w') (key := Chg.key) h hm (by decide) (fun w r x hx => by subst hx; rfl) (fun w' g hr => ⟨by rw [decide_eq_true hr], g⟩) fun w' g hr => ⟨by rw [decide_eq_false hr], g⟩

/-- why a set may not be -/
def SetBad (l : List Attr) : Prop := ¬ RisA l ∨ 64 < l.length ∨ ∃ a ∈ l, ¬ ValOK a.val
def SetNoKey (keys : List DKey) (l : List Attr) : Prop := ∃ a ∈ l, ¬ FitsK keys a.key a.val
open Classical in
noncomputable def maySet (keys : List DKey) (l : List Attr) : Int := if SetBad l then 3 else if SetNoKey keys l then 4 else 0
open Classical in
theorem mayset_ok {S S' : Nat → Prop} {kv v : Value} {keys : List DKey} {l : List Attr} {w : World} (hk : RKeys S w kv keys) (h : RSet S' w v l) (hs : ∀ a ∈ l, a.val.s.size * 4 ≤ 140737488355328) :
    callK Tryz.prog 102 [kv, v] (fun v' w' => v' = .int .i64 (maySet keys l) ∧ Grow w w') w := by
  apply S102_ok
  unfold S102
  obtain ⟨a, c, rfl, hm⟩ := h.shape
  simp only [maxLen] at hm
  have bad : ∀ w', Grow w w' → SetBad l → Value.int .i64 3 = .int .i64 (maySet keys l) ∧ Grow w w' := fun w' g hb => ⟨by rw [maySet, if_pos hb], g⟩
  refine JoinK_i (fun vs w1 => Grow w w1 ∧ RisA l ∧ l.length ≤ 64) ?_ ?_
  · rintro vs w1 ⟨g1, hris, h64⟩ _
    refine LoopK_i (fun vs w2 => ∃ i : Nat, i ≤ l.length ∧ vs = [.int .i64 i] ∧ Grow w w2 ∧ ∀ a ∈ l.take i, ValOK a.val) (fun vs _ => l.length - iOf vs 0) ⟨0, Nat.zero_le _, rfl, g1, by simp⟩ ?_
    rintro vs w2 ⟨i, hi, rfl, g2, hv⟩ _
    rw [lenK_i, nth_z, List.headD_cons, ltK_i]
    refine condK_p (fun hlt => ?_) fun hge => ?_
    · have hlt' : i < l.length := by omega
      obtain ⟨p, r, rfl, _, hr, hc, rfl⟩ := (h.grow g2 (by decide) fun _ _ h => h).get hlt'
      refine ixK_n hlt' ?_
      rw [faK_i, Addr.add_add]
      refine ldnK_i (vs := l[i].val.cells) rfl (fun j u hu => by rw [Addr.add_add, Nat.add_assoc]; exact hc (1 + j) u (by rw [Nat.add_comm]; exact hu)) ?_
      refine callK_mono (rval_ok (hs _ (by simp))) ?_
      rintro v3 w3 ⟨rfl, g3⟩
      rw [notK_i]
      refine condK_neg (fun ho => ?_) fun ho => bad _ (g2.trans g3) (.inr (.inr ⟨_, by simp, ho⟩))
      rw [addK_i, loop_step (by omega)]
      refine ⟨⟨i + 1, hlt', rfl, g2.trans g3, fun a ha => ?_⟩, by rw [iOf0, iOf0]; omega⟩
      rw [List.take_add_one, List.getElem?_eq_getElem hlt'] at ha
      rcases List.mem_append.1 ha with ha | ha
      · exact hv a ha
      · simp at ha; subst ha; exact ho
    · have : i = l.length := by omega
      subst this
      rw [List.take_length] at hv
      have ok : ¬ SetBad l := by
        rintro (h | h | ⟨a, ha, h⟩)
        · exact h hris
        · omega
        · exact h (hv a ha)
      refine LoopK_i (fun vs w3 => ∃ i : Nat, i ≤ l.length ∧ vs = [.int .i64 i] ∧ Grow w w3 ∧ ∀ a ∈ l.take i, FitsK keys a.key a.val) (fun vs _ => l.length - iOf vs 0) ⟨0, Nat.zero_le _, rfl, g2, by simp⟩ ?_
      rintro vs w3 ⟨i, hi, rfl, g3, hf⟩ _
      rw [lenK_i, nth_z, List.headD_cons, ltK_i]
      refine condK_p (fun hlt => ?_) fun hge => ?_
      · have hlt' : i < l.length := by omega
        have g3d : Grow w w3.drew := g3.trans (Mod.drew _ _)
        obtain ⟨p, r, rfl, hS, hr, hc, rfl⟩ := ((h.old (by decide)).grow g3d (by decide) fun _ _ h => h).get hlt'
        refine drawC_i (fun _ b => False) ?_
        refine ixK_n hlt' ?_
        rw [faK_i, Addr.add_add]
        refine sld1_i ⟨hc 0 _ rfl, fun j _ h => h⟩ ?_
        refine ixK_n hlt' ?_
        rw [faK_i, Addr.add_add]
        refine sldn_i (vs := l[i].val.cells) rfl (fun j u hu => ⟨by rw [Addr.add_add, Nat.add_assoc]; exact hc (1 + j) u (by rw [Nat.add_comm]; exact hu), fun j _ h => h⟩) ?_
        refine callK_mono (rfits_ok (hk.grow g3d (by decide) fun _ _ h => h) (hs _ (by simp))) ?_
        rintro v4 w4 ⟨rfl, g4⟩
        refine ⟨g4, ?_⟩
        rw [notK_i]
        refine condK_neg (fun ho => ?_) fun ho => ⟨by rw [maySet, if_neg ok, if_pos ⟨_, by simp, ho⟩], g3d.trans g4⟩
        rw [addK_i, loop_step (by omega)]
        refine ⟨⟨i + 1, hlt', rfl, g3d.trans g4, fun a ha => ?_⟩, by rw [iOf0, iOf0]; omega⟩
        rw [List.take_add_one, List.getElem?_eq_getElem hlt'] at ha
        rcases List.mem_append.1 ha with ha | ha
        · exact hf a ha
        · simp at ha; subst ha; exact ho
      · have : i = l.length := by omega
        subst this
        rw [List.take_length] at hf
        refine ⟨?_, g3⟩
        rw [maySet, if_neg ok, if_neg]
        rintro ⟨a, ha, h⟩; exact h (hf a ha)
  · refine callK_mono (risa_ok h) ?_
    rintro v2 w2 ⟨rfl, g2⟩
    rw [notK_i]
    refine condK_neg (fun hr => ?_) fun hr => bad _ g2 (.inl hr)
    rw [lenK_i, gtK_i]
    refine condK_p (fun h6 => bad _ g2 (.inr (.inl (by omega)))) fun h6 => ⟨g2, hr, by omega⟩
def AVal.zero : AVal := ⟨0, 0, 0, noS⟩
def PatBad (p : List Chg) : Prop := ¬ RisC p ∨ 64 < p.length ∨ ∃ c ∈ p, (c.gone = true ∧ c.val ≠ AVal.zero) ∨ (c.gone = false ∧ ¬ ValOK c.val)
def PatNoKey (keys : List DKey) (p : List Chg) : Prop := ∃ c ∈ p, findK keys c.key = none ∨ (c.gone = false ∧ ¬ FitsK keys c.key c.val)
open Classical in
noncomputable def mayPat (keys : List DKey) (p : List Chg) : Int := if PatBad p then 3 else if PatNoKey keys p then 4 else 0
open Classical in
theorem maypat_ok {S S' : Nat → Prop} {kv v : Value} {keys : List DKey} {l : List Chg} {w : World} (hk : RKeys S w kv keys) (h : RPat S' w v l) (hs : ∀ a ∈ l, a.val.s.size * 4 ≤ 140737488355328) :
    callK Tryz.prog 103 [kv, v] (fun v' w' => v' = .int .i64 (mayPat keys l) ∧ Grow w w') w := by
  apply S103_ok
  unfold S103
  obtain ⟨a, c, rfl, hm⟩ := h.shape
  simp only [maxLen] at hm
  have bad : ∀ w', Grow w w' → PatBad l → Value.int .i64 3 = .int .i64 (mayPat keys l) ∧ Grow w w' := fun w' g hb => ⟨by rw [mayPat, if_pos hb], g⟩
  refine JoinK_i (fun vs w1 => Grow w w1 ∧ RisC l ∧ l.length ≤ 64) ?_ ?_
  · rintro vs w1 ⟨g1, hris, h64⟩ _
    refine LoopK_i (fun vs w2 => ∃ i : Nat, i ≤ l.length ∧ vs = [.int .i64 i] ∧ Grow w w2 ∧ ∀ c ∈ l.take i, ¬ ((c.gone = true ∧ c.val ≠ AVal.zero) ∨ (c.gone = false ∧ ¬ ValOK c.val))) (fun vs _ => l.length - iOf vs 0) ⟨0, Nat.zero_le _, rfl, g1, by simp⟩ ?_
    rintro vs w2 ⟨i, hi, rfl, g2, hv⟩ _
    rw [lenK_i, nth_z, List.headD_cons, ltK_i]
    refine condK_p (fun hlt => ?_) fun hge => ?_
    · have hlt' : i < l.length := by omega
      refine JoinK_i (fun vs w3 => Grow w w3 ∧ ¬ ((l[i].gone = true ∧ l[i].val ≠ AVal.zero) ∨ (l[i].gone = false ∧ ¬ ValOK l[i].val))) ?_ ?_
      · rintro vs w3 ⟨g3, ho⟩ _
        rw [addK_i, loop_step (by omega)]
        refine ⟨⟨i + 1, hlt', rfl, g3, fun a ha => ?_⟩, by rw [iOf0, iOf0]; omega⟩
        rw [List.take_add_one, List.getElem?_eq_getElem hlt'] at ha
        rcases List.mem_append.1 ha with ha | ha
        · exact hv a ha
        · simp at ha; subst ha; exact ho
      · have bad' : ∀ w', Grow w w' → ((l[i].gone = true ∧ l[i].val ≠ AVal.zero) ∨ (l[i].gone = false ∧ ¬ ValOK l[i].val)) → Value.int .i64 3 = .int .i64 (mayPat keys l) ∧ Grow w w' := fun w' g hb => bad w' g (.inr (.inr ⟨_, by simp, hb⟩))
        obtain ⟨p, r, rfl, _, hr, hc, hx⟩ := (h.grow g2 (by decide) fun _ _ h => h).get hlt'
        subst hx
        have cv : ∀ j u, l[i].val.cells[j]? = some u → w2.cell? (((p.add (i * 6)).add 2).add j) = some u := fun j u hu => by rw [Addr.add_add, Addr.add_add]; exact hc (2 + j) u (by rw [Nat.add_comm]; exact hu)
        have cg : w2.cell? ((p.add (i * 6)).add 1) = some (.bool l[i].gone) := by rw [Addr.add_add]; exact hc 1 _ rfl
        refine ixK_n hlt' ?_
        rw [faK_i]
        refine ld1K_i cg ?_
        cases hg : l[i].gone with
        | true =>
          rw [condK_b, if_pos rfl]
          refine ixK_n hlt' ?_
          rw [faK_i]
          refine ldnK_i (vs := l[i].val.cells) rfl cv ?_
          refine ⟨AVal.zero.cells.toArray, by kernel_rfl, runK_i (run_ne_val _ _ l[i].val AVal.zero w2) ?_⟩
          refine condK_neg (fun hz => ?_) fun hz => bad' _ g2 (.inl ⟨hg, hz⟩)
          refine ixK_n hlt' ?_
          rw [faK_i]
          refine ld1K_i cg ?_
          rw [hg, notK_i, condK_b]
          refine (if_neg (by simp)).mpr ⟨g2, ?_⟩
          rintro (h | h)
          · exact h.2 hz
          · cases h.1
        | false =>
          rw [condK_b]
          refine (if_neg (by simp)).mpr ?_
          refine ixK_n hlt' ?_
          rw [faK_i]
          refine ld1K_i cg ?_
          rw [hg, notK_i, condK_b]
          refine (if_pos (by simp)).mpr ?_
          refine ixK_n hlt' ?_
          rw [faK_i]
          refine ldnK_i (vs := l[i].val.cells) rfl cv ?_
          refine callK_mono (rval_ok (hs _ (by simp))) ?_
          rintro v3 w3 ⟨rfl, g3⟩
          rw [notK_i]
          refine condK_neg (fun ho => ⟨g2.trans g3, ?_⟩) fun ho => bad' _ (g2.trans g3) (.inr ⟨hg, ho⟩)
          rintro (h | h)
          · cases h.1
          · exact h.2 ho
    · have : i = l.length := by omega
      subst this
      rw [List.take_length] at hv
      have ok : ¬ PatBad l := by
        rintro (h | h | ⟨a, ha, h⟩)
        · exact h hris
        · omega
        · exact hv a ha h
      refine LoopK_i (fun vs w3 => ∃ i : Nat, i ≤ l.length ∧ vs = [.int .i64 i] ∧ Grow w w3 ∧ ∀ c ∈ l.take i, ¬ (findK keys c.key = none ∨ (c.gone = false ∧ ¬ FitsK keys c.key c.val))) (fun vs _ => l.length - iOf vs 0) ⟨0, Nat.zero_le _, rfl, g2, by simp⟩ ?_
      rintro vs w3 ⟨i, hi, rfl, g3, hf⟩ _
      rw [lenK_i, nth_z, List.headD_cons, ltK_i]
      refine condK_p (fun hlt => ?_) fun hge => ?_
      · have hlt' : i < l.length := by omega
        refine JoinK_i (fun vs w4 => Grow w w4 ∧ ¬ (findK keys l[i].key = none ∨ (l[i].gone = false ∧ ¬ FitsK keys l[i].key l[i].val))) ?_ ?_
        · rintro vs w4 ⟨g4, ho⟩ _
          rw [addK_i, loop_step (by omega)]
          refine ⟨⟨i + 1, hlt', rfl, g4, fun a ha => ?_⟩, by rw [iOf0, iOf0]; omega⟩
          rw [List.take_add_one, List.getElem?_eq_getElem hlt'] at ha
          rcases List.mem_append.1 ha with ha | ha
          · exact hf a ha
          · simp at ha; subst ha; exact ho
        · have bad' : ∀ w', Grow w w' → (findK keys l[i].key = none ∨ (l[i].gone = false ∧ ¬ FitsK keys l[i].key l[i].val)) → Value.int .i64 4 = .int .i64 (mayPat keys l) ∧ Grow w w' := fun w' g hb => ⟨by rw [mayPat, if_neg ok, if_pos ⟨_, by simp, hb⟩], g⟩
          obtain ⟨p, r, rfl, _, hr, hc, hx⟩ := h.get hlt'
          subst hx
          have cell : ∀ {W : World}, Grow w W → ∀ j u, l[i].cells[j]? = some u → W.cell? ((p.add (i * 6)).add j) = some u := fun hW j u hu => by rw [Addr.add_add]; exact hW.cell (hc j u hu) fun h => h
          refine ixK_n hlt' ?_
          rw [faK_i]
          refine ld1K_i (cell g3 0 _ rfl) ?_
          refine callK_mono (find_ok (hk.grow g3 (by decide) fun _ _ h => h)) ?_
          rintro v4 w4 ⟨rfl, g4⟩
          refine extK_i (vs := [_, _]) (by rfl) (extK_i (vs := [_, _]) (by rfl) ?_)
          generalize hkk : (findK keys l[i].key).getD DKey.zero = kk
          refine newst_i (vs := kk.cells) rfl (RKey.one (w := w) (x := kk) rfl) fun b5 w5 _ _ g5 _ _ => ?_
          have g05 : Grow w w5.drew := ((g3.trans g4).trans g5).trans (Mod.drew _ _)
          refine drawC_i (fun _ b => False) ?_
          rw [notK_i]
          cases hfk : findK keys l[i].key with
          | none =>
            rw [Option.isSome_none, condK_b]
            exact (if_pos (by rfl)).mpr (bad' _ g05 (.inl hfk))
          | some k' =>
            rw [Option.isSome_some, condK_b]
            refine (if_neg (by simp)).mpr ?_
            refine ixK_n hlt' ?_
            rw [faK_i]
            refine sld1_i ⟨cell g05 1 _ rfl, fun j _ h => h⟩ ?_
            rw [notK_i]
            cases hg : l[i].gone with
            | true =>
              rw [condK_b]
              refine (if_neg (by simp)).mpr ⟨g05, ?_⟩
              rintro (h | h)
              · first | cases h | (rw [hfk] at h; cases h)
              · first | cases h.1 | (rw [hg] at h; cases h.1)
            | false =>
              rw [condK_b]
              refine (if_pos (by simp)).mpr ?_
              refine ixK_n hlt' ?_
              rw [faK_i]
              refine sld1_i ⟨cell g05 0 _ rfl, fun j _ h => h⟩ ?_
              refine ixK_n hlt' ?_
              rw [faK_i]
              refine sldn_i (vs := l[i].val.cells) rfl (fun j u hu => ⟨by rw [Addr.add_add]; exact cell g05 (2 + j) u (by rw [Nat.add_comm]; exact hu), fun j _ h => h⟩) ?_
              refine callK_mono (rfits_ok (hk.grow g05 (by decide) fun _ _ h => h) (hs _ (by simp))) ?_
              rintro v6 w6 ⟨rfl, g6⟩
              refine ⟨g6, ?_⟩
              rw [notK_i]
              refine condK_neg (fun ho => ⟨g05.trans g6, ?_⟩) fun ho => bad' _ (g05.trans g6) (.inr ⟨hg, ho⟩)
              rintro (h | h)
              · first | cases h | (rw [hfk] at h; cases h)
              · exact h.2 ho
      · have : i = l.length := by omega
        subst this
        rw [List.take_length] at hf
        refine ⟨?_, g3⟩
        rw [mayPat, if_neg ok, if_neg]
        rintro ⟨a, ha, h⟩; exact hf a ha h
  · refine callK_mono (risc_ok h) ?_
    rintro v2 w2 ⟨rfl, g2⟩
    rw [notK_i]
    refine condK_neg (fun hr => ?_) fun hr => bad _ g2 (.inl hr)
    rw [lenK_i, gtK_i]
    refine condK_p (fun h6 => bad _ g2 (.inr (.inl (by omega)))) fun h6 => ⟨g2, hr, by omega⟩
end Go.Proofs.YtlbaopamhkmepaaGreatDoor

namespace Go.Proofs.YtlbaopamhkmepaaGreatDoor
open Go Go.K

def KeyOK (k : DKey) : Prop := 1 ≤ k.id ∧ k.id ≤ 1000 ∧ 1 ≤ k.kind ∧ k.kind ≤ 4 ∧ 0 ≤ k.group ∧ k.group ≤ 8 ∧ (k.block = false → k.group = 0) ∧ (k.block = true → k.before = false)
def MayN (keys : List DKey) (n : Nat) : Prop := ∀ i, i < n → ∀ k, keys[i]? = some k → KeyOK k ∧ ∀ j, j < i → ∀ k', keys[j]? = some k' → k'.id ≠ k.id
def MayKeys (keys : List DKey) : Prop := keys.length ≤ 64 ∧ MayN keys keys.length
def szA (l : List Attr) : Nat := (l.map fun a => a.val.s.size).sum
def szC (l : List Chg) : Nat := (l.map fun a => a.val.s.size).sum
theorem mSet_eq (l : List Attr) : mSet l = l.length + szA l := by
  induction l with
  | nil => rfl
  | cons a l ih => simp only [mSet, szA, List.map_cons, List.sum_cons, List.length_cons, mAttr] at ih ⊢; omega
theorem mPat_eq (l : List Chg) : mPat l = l.length + szC l := by
  induction l with
  | nil => rfl
  | cons a l ih => simp only [mPat, szC, List.map_cons, List.sum_cons, List.length_cons, mChg] at ih ⊢; omega
theorem szA_take {l : List Attr} {k : Nat} (h : k < l.length) : szA (l.take (k + 1)) = szA (l.take k) + l[k].val.s.size := by
  rw [List.take_add_one, List.getElem?_eq_getElem h]; simp only [szA, Option.toList, List.map_append, List.sum_append, List.map_cons, List.map_nil, List.sum_cons, List.sum_nil, Nat.add_zero]
theorem szC_take {l : List Chg} {k : Nat} (h : k < l.length) : szC (l.take (k + 1)) = szC (l.take k) + l[k].val.s.size := by
  rw [List.take_add_one, List.getElem?_eq_getElem h]; simp only [szC, Option.toList, List.map_append, List.sum_append, List.map_cons, List.map_nil, List.sum_cons, List.sum_nil, Nat.add_zero]
theorem mDops_take {l : List Dop} {k : Nat} (h : k < l.length) : mDops (l.take (k + 1)) = mDops (l.take k) + mDop l[k] := by
  rw [List.take_add_one, List.getElem?_eq_getElem h]; simp only [mDops, Option.toList, List.map_append, List.sum_append, List.map_cons, List.map_nil, List.sum_cons, List.sum_nil, Nat.add_zero]
theorem mDops_mem {l : List Dop} {o : Dop} (h : o ∈ l) : mDop o ≤ mDops l := by
  induction l with
  | nil => simp at h
  | cons a l ih =>
    have e : mDops (a :: l) = mDop a + mDops l := by simp [mDops]
    rcases List.mem_cons.1 h with rfl | h
    · omega
    · have := ih h; omega
theorem mDops_len (l : List Dop) : l.length ≤ mDops l := by
  induction l with
  | nil => exact Nat.zero_le _
  | cons a l ih => simp only [mDops, List.map_cons, List.sum_cons, List.length_cons, mDop] at ih ⊢; omega
theorem mDops_le (l : List Dop) (k : Nat) : mDops (l.take k) ≤ mDops l := by
  have : mDops l = mDops (l.take k) + mDops (l.drop k) := by
    conv => lhs; rw [← List.take_append_drop k l]
    simp only [mDops, List.map_append, List.sum_append]
  omega
theorem szA_le (l : List Attr) (k : Nat) : szA (l.take k) ≤ szA l := by
  have : szA l = szA (l.take k) + szA (l.drop k) := by
    conv => lhs; rw [← List.take_append_drop k l]
    simp only [szA, List.map_append, List.sum_append]
  omega
theorem szC_le (l : List Chg) (k : Nat) : szC (l.take k) ≤ szC l := by
  have : szC l = szC (l.take k) + szC (l.drop k) := by
    conv => lhs; rw [← List.take_append_drop k l]
    simp only [szC, List.map_append, List.sum_append]
  omega
theorem mSet_mem {l : List Attr} {a : Attr} (h : a ∈ l) : a.val.s.size + 1 ≤ mSet l := by
  induction l with
  | nil => simp at h
  | cons b l ih =>
    have e : mSet (b :: l) = mAttr b + mSet l := by simp [mSet]
    rcases List.mem_cons.1 h with rfl | h
    · simp only [mAttr] at e; omega
    · have := ih h; omega
theorem mPat_mem {l : List Chg} {a : Chg} (h : a ∈ l) : a.val.s.size + 1 ≤ mPat l := by
  induction l with
  | nil => simp at h
  | cons b l ih =>
    have e : mPat (b :: l) = mChg b + mPat l := by simp [mPat]
    rcases List.mem_cons.1 h with rfl | h
    · simp only [mChg] at e; omega
    · have := ih h; omega
theorem size_ok {S D : Nat → Prop} {v : Value} {x : List Dop} {w : World} (h : RDops S D w v x) (hb : mDops x ≤ 1099511627776) :
    callK Tryz.prog 34 [v] (fun v' w' => v' = .int .i64 (mDops x) ∧ Grow w w') w := by
  apply S34_ok
  unfold S34
  obtain ⟨a, c, rfl, hm⟩ := h.shape
  simp only [maxLen] at hm
  refine LoopK_i (fun vs w1 => ∃ k : Nat, k ≤ x.length ∧ vs = [.int .i64 (mDops (x.take k)), .int .i64 k] ∧ Grow w w1) (fun vs _ => x.length - iOf vs 1) ⟨0, Nat.zero_le _, rfl, Mod.refl _ _⟩ ?_
  rintro vs w1 ⟨k, hk, rfl, hg⟩ _
  simp only [nth_s, nth_z, List.headD_cons, List.tail_cons]
  rw [lenK_i, ltK_i]
  refine condK_p (fun hlt => ?_) fun hge => ?_
  · have hlt' : k < x.length := by omega
    have hmk := mDops_take hlt'
    have hmk1 := mDops_le x (k + 1)
    obtain ⟨p, r, rfl, _, hr, hc, rv, sv, pv, rfl, h1, h2, h3⟩ := (RDops.grow h hg).get hlt'
    obtain ⟨a1, c1, rfl, m1⟩ := h1.shape
    obtain ⟨a2, c2, rfl, m2⟩ := h2.shape
    obtain ⟨a3, c3, rfl, m3⟩ := h3.shape
    have cl : ∀ {W}, Grow w1 W → ∀ j u, [Value.int .u8 x[k].kind, .int .i64 x[k].n, .slice a1 x[k].runes.length c1, .slice a2 x[k].set.length c2, .slice a3 x[k].patch.length c3][j]? = some u → W.cell? ((p.add (k * 5)).add j) = some u := fun hW j u hu => by rw [Addr.add_add]; exact hW.cell (hc j u hu) fun h => h
    simp only [mDop, mSet_eq, mPat_eq] at hmk
    refine drawK_i (fun w2 => Grow w1 w2) (Mod.drew _ _) ?_
    rw [addK_i, wrap64 (by omega) (by omega)]
    refine ixK_n hlt' ?_
    rw [faK_i]
    refine qld1K_i (fun W hW => cl hW 2 _ rfl) ?_
    rw [lenK_i, addK_i, wrap64 (by omega) (by omega)]
    refine ixK_n hlt' ?_
    rw [faK_i]
    refine qld1K_i (fun W hW => cl hW 3 _ rfl) ?_
    rw [lenK_i, addK_i, wrap64 (by omega) (by omega)]
    refine ixK_n hlt' ?_
    rw [faK_i]
    refine qld1K_i (fun W hW => cl hW 4 _ rfl) ?_
    rw [lenK_i, addK_i, wrap64 (by omega) (by omega)]
    intro w2 g2
    generalize hN : ((mDops (x.take k) : Nat) : Int) + 1 + x[k].runes.length + x[k].set.length + x[k].patch.length = N
    refine LoopK_i (fun vs w3 => ∃ i : Nat, i ≤ x[k].set.length ∧ vs = [.int .i64 (N + szA (x[k].set.take i)), .int .i64 i] ∧ Grow w1 w3) (fun vs _ => x[k].set.length - iOf vs 1) ⟨0, Nat.zero_le _, by simp [szA], g2⟩ ?_
    rintro vs w3 ⟨i, hi, rfl, g3⟩ _
    simp only [nth_s, nth_z, List.headD_cons, List.tail_cons]
    refine ixK_n hlt' ?_
    rw [faK_i]
    refine ld1K_i (cl g3 3 _ rfl) ?_
    rw [lenK_i, ltK_i]
    refine condK_p (fun hil => ?_) fun hig => ?_
    · have hil' : i < x[k].set.length := by omega
      have hsk := szA_take hil'
      have hsk1 := szA_le x[k].set (i + 1)
      refine ixK_n hlt' ?_
      rw [faK_i]
      refine ld1K_i (cl g3 3 _ rfl) ?_
      obtain ⟨q, r', rfl, _, hr', hc', hx'⟩ := (h2.grow g3 (by decide) fun _ _ h => h).get hil'
      subst hx'
      refine ixK_n hil' ?_
      rw [faK_i, faK_i, Addr.add_add, Addr.add_add]
      refine ld1K_i (hc' 4 _ rfl) ?_
      rw [slenK_i, addK_i, addK_i, loop_step (by omega), wrap64 (by omega) (by omega)]
      refine ⟨⟨i + 1, hil', by rw [hsk]; congr 2; omega, g3⟩, by rw [iOf1, iOf1]; omega⟩
    · have : i = x[k].set.length := by omega
      subst this
      rw [List.take_length]
      generalize hN2 : N + szA x[k].set = N2
      refine LoopK_i (fun vs w4 => ∃ i : Nat, i ≤ x[k].patch.length ∧ vs = [.int .i64 (N2 + szC (x[k].patch.take i)), .int .i64 i] ∧ Grow w1 w4) (fun vs _ => x[k].patch.length - iOf vs 1) ⟨0, Nat.zero_le _, by simp [szC], g3⟩ ?_
      rintro vs w4 ⟨i, hi, rfl, g4⟩ _
      simp only [nth_s, nth_z, List.headD_cons, List.tail_cons]
      refine ixK_n hlt' ?_
      rw [faK_i]
      refine ld1K_i (cl g4 4 _ rfl) ?_
      rw [lenK_i, ltK_i]
      refine condK_p (fun hil => ?_) fun hig => ?_
      · have hil' : i < x[k].patch.length := by omega
        have hsk := szC_take hil'
        have hsk1 := szC_le x[k].patch (i + 1)
        refine ixK_n hlt' ?_
        rw [faK_i]
        refine ld1K_i (cl g4 4 _ rfl) ?_
        obtain ⟨q, r', rfl, _, hr', hc', hx'⟩ := (h3.grow g4 (by decide) fun _ _ h => h).get hil'
        subst hx'
        refine ixK_n hil' ?_
        rw [faK_i, faK_i, Addr.add_add, Addr.add_add]
        refine ld1K_i (hc' 5 _ rfl) ?_
        rw [slenK_i, addK_i, addK_i, loop_step (by omega), wrap64 (by omega) (by omega)]
        refine ⟨⟨i + 1, hil', by rw [hsk]; congr 2; omega, g4⟩, by rw [iOf1, iOf1]; omega⟩
      · have : i = x[k].patch.length := by omega
        subst this
        rw [List.take_length, addK_i, loop_step (by omega)]
        refine ⟨⟨k + 1, hlt', ?_, hg.trans g4⟩, by rw [iOf1, iOf1]; omega⟩
        congr 2
        omega
  · have : k = x.length := by omega
    subst this
    rw [List.take_length]
    exact ⟨rfl, hg⟩
end Go.Proofs.YtlbaopamhkmepaaGreatDoor

namespace Go.Proofs.YtlbaopamhkmepaaGreatDoor
open Go Go.K

structure MkS where
  done : List Dop
  ins : List Dop
  gone : Int
def MkS.z : MkS := ⟨[], [], 0⟩
def gapL (ins : List Dop) (gone : Int) : List Dop := if 0 < gone then ins ++ [⟨3, gone, [], [], []⟩] else ins
def putS (d : List Dop) (n : Int) (p : List Chg) : List Dop :=
  match d.getLast? with
  | some o => if o.kind = 1 ∧ o.patch = p then d.set (d.length - 1) ⟨o.kind, IntKind.i64.wrap (o.n + n), o.runes, o.set, o.patch⟩ else d ++ [⟨1, n, [], [], p⟩]
  | none => d ++ [⟨1, n, [], [], p⟩]
def retS (s : MkS) (n : Int) (p : List Chg) : MkS := if n < 1 then s else ⟨putS (s.done ++ gapL s.ins s.gone) n p, [], 0⟩
def addI (ins : List Dop) (rs : List Int) (set : List Attr) : List Dop :=
  match ins.getLast? with
  | some o => if o.set = set then ins.set (ins.length - 1) ⟨o.kind, o.n, o.runes ++ rs, o.set, o.patch⟩ else ins ++ [⟨2, 0, rs, set, []⟩]
  | none => ins ++ [⟨2, 0, rs, set, []⟩]
def insS (s : MkS) (rs : List Int) (set : List Attr) : MkS := if rs = [] then s else ⟨s.done, addI s.ins rs set, s.gone⟩
def delS (s : MkS) (n : Int) : MkS := ⟨s.done, s.ins, IntKind.i64.wrap (s.gone + maxI n 0)⟩
def stepS (s : MkS) (o : Dop) : MkS := if o.kind = 1 then retS s o.n o.patch else if o.kind = 2 then insS s o.runes o.set else delS s o.n
def trimL (l : List Dop) : List Dop := match l.getLast? with | some o => if o.kind = 1 ∧ o.patch = [] then l.dropLast else l | none => l
def opsS (s : MkS) : List Dop := trimL (s.done ++ gapL s.ins s.gone)
def runS (x : List Dop) : MkS := x.foldl stepS MkS.z
def normB (x : List Dop) : List Dop := opsS (runS x)

/-! ### the document's -/
/-- an op's right form -/
def Form1 (o : Dop) : Prop := (o.kind = 1 ∧ o.runes = [] ∧ o.set = [] ∧ 1 ≤ o.n ∧ o.n ≤ 536870912) ∨ (o.kind = 3 ∧ o.runes = [] ∧ o.set = [] ∧ o.patch = [] ∧ 1 ≤ o.n ∧ o.n ≤ 536870912) ∨ (o.kind = 2 ∧ o.n = 0 ∧ o.patch = [] ∧ o.runes ≠ [])
/-! ### what is canonical -/
inductive InsC : List Dop → Prop
  | nil : InsC []
  | snoc (i : List Dop) (rs : List Int) (set : List Attr) (h : InsC i) (hr : rs ≠ []) (hs : ∀ q, i.getLast? = some q → q.set ≠ set) : InsC (i ++ [⟨2, 0, rs, set, []⟩])
inductive DoneC : List Dop → Prop
  | nil : DoneC []
  | snoc (d ins : List Dop) (gone n : Int) (p : List Chg) (h : DoneC d) (hi : InsC ins) (hg : 0 ≤ gone) (hb : gone ≤ 4611686018427387904) (hn : 1 ≤ n) (hp : ins = [] → gone = 0 → ∀ q, d.getLast? = some q → q.patch ≠ p) : DoneC (d ++ gapL ins gone ++ [⟨1, n, [], [], p⟩])
theorem InsC.add {ins : List Dop} (h : InsC ins) {rs : List Int} (hr : rs ≠ []) (set : List Attr) : InsC (addI ins rs set) := by
  cases h with
  | nil => exact InsC.snoc [] rs set .nil hr fun q hq => by simp at hq
  | snoc i rs' set' h hr' hs =>
    unfold addI
    simp only [List.getLast?_append, List.getLast?_singleton, Option.some_or]
    by_cases e : set' = set
    · rw [if_pos e]
      have : (i ++ [(⟨2, 0, rs', set', []⟩ : Dop)]).set ((i ++ [(⟨2, 0, rs', set', []⟩ : Dop)]).length - 1) ⟨2, 0, rs' ++ rs, set', []⟩ = i ++ [⟨2, 0, rs' ++ rs, set', []⟩] := by simp
      rw [this]
      exact InsC.snoc i _ set' h (by simp [hr']) hs
    · rw [if_neg e]
      exact InsC.snoc _ rs set (InsC.snoc i rs' set' h hr' hs) hr fun q hq => by
        simp only [List.getLast?_append, List.getLast?_singleton, Option.some_or, Option.some.injEq] at hq
        subst hq; exact e
theorem InsC.kinds {ins : List Dop} (h : InsC ins) : ∀ o ∈ ins, o.kind = 2 := by
  induction h with
  | nil => intro o ho; simp at ho
  | snoc i rs set h hr hs ih =>
    intro o ho
    rcases List.mem_append.1 ho with ho | ho
    · exact ih o ho
    · simp at ho; subst ho; rfl
theorem InsC.run {ins : List Dop} (h : InsC ins) (d : List Dop) (g : Int) : ins.foldl stepS ⟨d, [], g⟩ = ⟨d, ins, g⟩ := by
  induction h with
  | nil => rfl
  | snoc i rs set h hr hs ih =>
    rw [List.foldl_append, ih]
    simp only [List.foldl_cons, List.foldl_nil, stepS, show ¬ (2 : Int) = 1 by decide, if_true, if_false, insS, if_neg hr, addI]
    cases e : i.getLast? with
    | none => rfl
    | some q => simp only; rw [if_neg (hs q e)]
theorem gapL_last {ins : List Dop} {gone : Int} (h : InsC ins) : ∀ o, (gapL ins gone).getLast? = some o → o.kind ≠ 1 := by
  intro o ho
  unfold gapL at ho
  split at ho
  · simp only [List.getLast?_append, List.getLast?_singleton, Option.some_or, Option.some.injEq] at ho
    subst ho; intro h; cases h
  · have := h.kinds o (List.mem_of_getLast? ho)
    omega
theorem gapL_nil {ins : List Dop} {gone : Int} (h0 : 0 ≤ gone) (h : gapL ins gone = []) : ins = [] ∧ gone = 0 := by
  unfold gapL at h
  split at h
  · simp at h
  · exact ⟨h, by omega⟩
theorem last_app {d g : List Dop} : (d ++ g).getLast? = match g.getLast? with | some o => some o | none => d.getLast? := by
  rw [List.getLast?_append]; cases g.getLast? <;> rfl
theorem gap_run {ins : List Dop} (h : InsC ins) (d : List Dop) {g : Int} (hg : 0 ≤ g) (hb : g ≤ 4611686018427387904) : (gapL ins g).foldl stepS ⟨d, [], 0⟩ = ⟨d, ins, g⟩ := by
  unfold gapL
  split
  · rw [List.foldl_append, h.run]
    simp only [List.foldl_cons, List.foldl_nil, stepS, show ¬ (3 : Int) = 1 by decide, show ¬ (3 : Int) = 2 by decide, if_false, delS]
    have : maxI g 0 = g := by unfold maxI; rw [if_neg (by omega)]
    rw [this, wrap64 (by omega) (by omega)]
    congr 1; omega
  · rw [h.run]; congr 1; omega
theorem put_new {d g : List Dop} {n : Int} {p : List Chg} (h1 : ∀ o, g.getLast? = some o → o.kind ≠ 1) (h2 : g = [] → ∀ q, d.getLast? = some q → q.patch ≠ p) : putS (d ++ g) n p = d ++ g ++ [⟨1, n, [], [], p⟩] := by
  unfold putS
  rw [last_app]
  cases e : g.getLast? with
  | some o => simp only; rw [if_neg (fun h => h1 o e h.1)]
  | none =>
    have : g = [] := List.getLast?_eq_none_iff.1 e
    subst this
    simp only [List.append_nil]
    cases e2 : d.getLast? with
    | none => rfl
    | some q => simp only; rw [if_neg (fun h => h2 rfl q e2 h.2)]
theorem DoneC.run {d : List Dop} (h : DoneC d) : d.foldl stepS MkS.z = ⟨d, [], 0⟩ := by
  induction h with
  | nil => rfl
  | snoc d ins gone n p h hi hg hb hn hp ih =>
    rw [List.foldl_append, List.foldl_append, ih, gap_run hi d hg hb]
    simp only [List.foldl_cons, List.foldl_nil, stepS, if_true, retS, if_neg (show ¬ n < 1 by omega)]
    rw [put_new (gapL_last hi) fun e => hp (gapL_nil hg e).1 (gapL_nil hg e).2]
def sumN (l : List Dop) : Int := (l.map (·.n)).sum
theorem sumN_app (l m : List Dop) : sumN (l ++ m) = sumN l + sumN m := by simp [sumN]
theorem sumN_one (o : Dop) : sumN [o] = o.n := by simp [sumN]
theorem InsC.sum {ins : List Dop} (h : InsC ins) : sumN ins = 0 := by
  induction h with
  | nil => rfl
  | snoc i rs set h hr hs ih => rw [sumN_app, sumN_one, ih]; rfl
theorem gapL_sum {ins : List Dop} {g : Int} (h : InsC ins) (hg : 0 ≤ g) : sumN (gapL ins g) = g := by
  unfold gapL; split
  · rw [sumN_app, sumN_one, h.sum]; simp
  · rw [h.sum]; omega
theorem DoneC.nn {d : List Dop} (h : DoneC d) : 0 ≤ sumN d := by
  induction h with
  | nil => simp [sumN]
  | snoc d ins gone n p h hi hg hb hn hp ih => rw [sumN_app, sumN_app, sumN_one, gapL_sum hi hg]; simp only; omega
structure Canon (s : MkS) (t : Int) : Prop where
  done : DoneC s.done
  ins : InsC s.ins
  gone : 0 ≤ s.gone
  sum : sumN s.done + s.gone = t
theorem Canon.step {s : MkS} {t : Int} (h : Canon s t) {o : Dop} (ho : Form1 o) (ht : t + o.n ≤ 4611686018427387904) : Canon (stepS s o) (t + o.n) := by
  obtain ⟨done, ins, gone⟩ := s
  obtain ⟨h1, h2, h3, h4⟩ := h
  simp only at h1 h2 h3 h4
  obtain ⟨k, n, rs, set, p⟩ := o
  have hnn := h1.nn
  rcases ho with ⟨e1, e2, e3, e4, e5⟩ | ⟨e1, e2, e3, e4, e5, e6⟩ | ⟨e1, e2, e3, e4⟩
  · simp only at e1 e2 e3 e4 e5 ht
    subst e1
    simp only [stepS, if_true, retS, if_neg (show ¬ n < 1 by omega)]
    have key : DoneC (putS (done ++ gapL ins gone) n p) ∧ sumN (putS (done ++ gapL ins gone) n p) = t + n := by
      by_cases hgap : gapL ins gone = []
      · obtain ⟨e8, e9⟩ := gapL_nil h3 hgap
        subst e8; subst e9
        rw [hgap, List.append_nil]
        cases h1 with
        | nil => exact ⟨DoneC.snoc [] [] 0 n p .nil .nil (by omega) (by omega) e4 fun _ _ q hq => by simp at hq, by simp only [putS, List.getLast?_nil, sumN_app, sumN_one] at h4 ⊢; omega⟩
        | snoc d ins gone n' p' h hi hg hb hn hp =>
          unfold putS
          rw [List.getLast?_append, List.getLast?_singleton, Option.some_or]
          simp only [true_and]
          rw [sumN_app, sumN_app, sumN_one, gapL_sum hi hg] at h4
          simp only at h4
          have hdn := h.nn
          by_cases e : p' = p
          · rw [if_pos e]
            have e10 : (d ++ gapL ins gone ++ [(⟨1, n', [], [], p'⟩ : Dop)]).set ((d ++ gapL ins gone ++ [(⟨1, n', [], [], p'⟩ : Dop)]).length - 1) ⟨1, IntKind.i64.wrap (n' + n), [], [], p'⟩ = d ++ gapL ins gone ++ [⟨1, IntKind.i64.wrap (n' + n), [], [], p'⟩] := by
              rw [List.set_append_right _ _ (by simp)]; simp
            rw [e10, wrap64 (by omega) (by omega)]
            refine ⟨DoneC.snoc d ins gone (n' + n) p' h hi hg hb (by omega) hp, ?_⟩
            rw [sumN_app, sumN_app, sumN_one, gapL_sum hi hg]; simp only; omega
          · rw [if_neg e]
            have := DoneC.snoc (d ++ gapL ins gone ++ [⟨1, n', [], [], p'⟩]) [] 0 n p (DoneC.snoc d ins gone n' p' h hi hg hb hn hp) .nil (by omega) (by omega) e4 fun _ _ q hq => by
              rw [List.getLast?_append, List.getLast?_singleton, Option.some_or] at hq; cases hq; exact e
            simp only [gapL, show ¬ (0 : Int) < 0 by decide, if_false, List.append_nil] at this
            refine ⟨this, ?_⟩
            simp only [sumN_app, sumN_one, gapL_sum hi hg]; omega
      · rw [put_new (gapL_last h2) fun e => (hgap e).elim]
        refine ⟨DoneC.snoc done ins gone n p h1 h2 h3 (by omega) e4 fun e8 e9 => (hgap (by subst e8; subst e9; rfl)).elim, ?_⟩
        rw [sumN_app, sumN_app, sumN_one, gapL_sum h2 h3]; simp only; omega
    exact ⟨key.1, .nil, by simp, by simp only; omega⟩
  · simp only at e1 e2 e3 e4 e5 e6 ht
    subst e1
    simp only [stepS, show ¬ (3 : Int) = 1 by decide, show ¬ (3 : Int) = 2 by decide, if_false, delS]
    have : maxI n 0 = n := by unfold maxI; rw [if_neg (by omega)]
    rw [this, wrap64 (by omega) (by omega)]
    exact ⟨h1, h2, by simp only; omega, by simp only; omega⟩
  · simp only at e1 e2 e3 e4 ht
    subst e1; subst e2
    simp only [stepS, show ¬ (2 : Int) = 1 by decide, if_true, if_false, insS, if_neg e4]
    exact ⟨h1, h2.add e4 set, h3, by simp only; omega⟩
theorem Form1.nn {o : Dop} (h : Form1 o) : 0 ≤ o.n ∧ o.n ≤ 536870912 := by
  rcases h with ⟨_, _, _, h, h'⟩ | ⟨_, _, _, _, h, h'⟩ | ⟨_, h, _⟩ <;> omega
theorem DoneC.last {d : List Dop} (h : DoneC d) : ∀ q, d.getLast? = some q → q.kind = 1 := by
  cases h with
  | nil => intro q hq; simp at hq
  | snoc d ins gone n p h hi hg hb hn hp =>
    intro q hq
    rw [List.getLast?_append, List.getLast?_singleton, Option.some_or] at hq; cases hq; rfl
end Go.Proofs.YtlbaopamhkmepaaGreatDoor

namespace Go.Proofs.YtlbaopamhkmepaaGreatDoor
open Go Go.K

def OpsBad (keys : List DKey) (x : List Dop) : Prop := (∃ o ∈ x, ¬ FormO o ∨ maySet keys o.set = 3 ∨ mayPat keys o.patch = 3) ∨ 536870912 < sumW takesF x ∨ 536870912 < sumW makesF x
def OpsNoKey (keys : List DKey) (x : List Dop) : Prop := ∃ o ∈ x, maySet keys o.set ≠ 0 ∨ mayPat keys o.patch ≠ 0
open Classical in
noncomputable def mayOps (keys : List DKey) (x : List Dop) : Int := if OpsBad keys x then 3 else if OpsNoKey keys x then 4 else 0
open Classical in
theorem mayops_ok {S S' D : Nat → Prop} {kv v : Value} {keys : List DKey} {x : List Dop} {w : World} (hk : RKeys S w kv keys) (h : RDops S' D w v x) (hb : mDops x ≤ 1099511627776) :
    callK Tryz.prog 62 [kv, v] (fun v' w' => v' = .int .i64 (mayOps keys x) ∧ Grow w w') w := by
  apply S62_ok
  unfold S62
  obtain ⟨a, c, rfl, hm⟩ := h.shape
  simp only [maxLen] at hm
  have hss : ∀ o ∈ x, (∀ a ∈ o.set, a.val.s.size * 4 ≤ 140737488355328) ∧ (∀ a ∈ o.patch, a.val.s.size * 4 ≤ 140737488355328) := by
    intro o ho
    have := mDops_mem ho
    simp only [mDop] at this
    exact ⟨fun a ha => by have := mSet_mem ha; omega, fun a ha => by have := mPat_mem ha; omega⟩
  have bad : ∀ w', Grow w w' → OpsBad keys x → Value.int .i64 3 = .int .i64 (mayOps keys x) ∧ Grow w w' := fun w' g hb => ⟨by rw [mayOps, if_pos hb], g⟩
  refine LoopK_i (fun vs w1 => ∃ k : Nat, k ≤ x.length ∧ vs = [.int .i64 k] ∧ Grow w w1 ∧ ∀ o ∈ x.take k, FormO o ∧ maySet keys o.set ≠ 3 ∧ mayPat keys o.patch ≠ 3) (fun vs _ => x.length - iOf vs 0) ⟨0, Nat.zero_le _, rfl, Mod.refl _ _, by simp⟩ ?_
  rintro vs w1 ⟨k, hkl, rfl, g1, hall⟩ _
  rw [lenK_i, nth_z, List.headD_cons, ltK_i]
  refine condK_p (fun hlt => ?_) fun hge => ?_
  · have hlt' : k < x.length := by omega
    refine JoinK_i (fun vs w2 => Grow w w2 ∧ FormO x[k] ∧ maySet keys x[k].set ≠ 3 ∧ mayPat keys x[k].patch ≠ 3) ?_ ?_
    · rintro vs w2 ⟨g2, ho⟩ _
      rw [addK_i, loop_step (by omega)]
      refine ⟨⟨k + 1, hlt', rfl, g2, fun o hoo => ?_⟩, by rw [iOf0, iOf0]; omega⟩
      rw [List.take_add_one, List.getElem?_eq_getElem hlt'] at hoo
      rcases List.mem_append.1 hoo with hoo | hoo
      · exact hall o hoo
      · simp at hoo; subst hoo; exact ho
    · obtain ⟨p, r, rfl, _, hr, hc, ho⟩ := (RDops.grow h g1).get hlt'
      have hmem : x[k] ∈ x := by simp
      refine ixK_n hlt' (ldnK_i hr (fun j u hu => by rw [Addr.add_add]; exact hc j u hu) ?_)
      refine callK_mono (form_ok ho) ?_
      rintro v2 w2 ⟨rfl, g2⟩
      have g02 := g1.trans g2
      rw [notK_i]
      refine condK_neg (fun hf => ?_) fun hf => bad _ g02 (.inl ⟨_, hmem, .inl hf⟩)
      obtain ⟨rv, sv, pv, rfl, h1, h2, h3⟩ := ho.mod (D' := D) g2 (fun _ _ _ h => h) fun _ _ h => h
      refine ixK_n hlt' ?_
      rw [faK_i, Addr.add_add]
      refine ld1K_i (g2.cell (hc 3 _ rfl) fun h => h) ?_
      refine callK_mono (mayset_ok (hk.grow g02 (by decide) fun _ _ h => h) h2 (hss _ hmem).1) ?_
      rintro v3 w3 ⟨rfl, g3⟩
      rw [eqK_i]
      refine condK_p (fun hs => bad _ (g02.trans g3) (.inl ⟨_, hmem, .inr (.inl hs)⟩)) fun hs => ?_
      refine ixK_n hlt' ?_
      rw [faK_i, Addr.add_add]
      refine ld1K_i ((g2.trans g3).cell (hc 4 _ rfl) fun h => h) ?_
      refine callK_mono (maypat_ok (hk.grow (g02.trans g3) (by decide) fun _ _ h => h) (h3.grow g3 (by decide) fun _ _ h => h) (hss _ hmem).2) ?_
      rintro v4 w4 ⟨rfl, g4⟩
      rw [eqK_i]
      exact condK_p (fun hs => bad _ ((g02.trans g3).trans g4) (.inl ⟨_, hmem, .inr (.inr hs)⟩)) fun hp => ⟨(g02.trans g3).trans g4, hf, hs, hp⟩
  · have : k = x.length := by omega
    subst this
    rw [List.take_length] at hall
    refine JoinK_i (fun vs w2 => Grow w w2 ∧ ¬ OpsBad keys x) ?_ ?_
    · rintro vs w2 ⟨g2, ok⟩ _
      refine LoopK_i (fun vs w3 => ∃ k : Nat, k ≤ x.length ∧ vs = [.int .i64 k] ∧ Grow w w3 ∧ ∀ o ∈ x.take k, maySet keys o.set = 0 ∧ mayPat keys o.patch = 0) (fun vs _ => x.length - iOf vs 0) ⟨0, Nat.zero_le _, rfl, g2, by simp⟩ ?_
      rintro vs w3 ⟨k, hkl, rfl, g3, hz⟩ _
      rw [lenK_i, nth_z, List.headD_cons, ltK_i]
      refine condK_p (fun hlt => ?_) fun hge => ?_
      · have hlt' : k < x.length := by omega
        have hmem : x[k] ∈ x := by simp
        have four : ∀ w', Grow w w' → (maySet keys x[k].set ≠ 0 ∨ mayPat keys x[k].patch ≠ 0) → Value.int .i64 4 = .int .i64 (mayOps keys x) ∧ Grow w w' := fun w' g hb => ⟨by rw [mayOps, if_neg ok, if_pos ⟨_, hmem, hb⟩], g⟩
        obtain ⟨p, r, rfl, _, hr, hc, rv, sv, pv, rfl, h1, h2, h3⟩ := (RDops.grow h g3).get hlt'
        refine ixK_n hlt' ?_
        rw [faK_i, Addr.add_add]
        refine ld1K_i (hc 3 _ rfl) ?_
        refine callK_mono (mayset_ok (hk.grow g3 (by decide) fun _ _ h => h) h2 (hss _ hmem).1) ?_
        rintro v4 w4 ⟨rfl, g4⟩
        rw [neK_i]
        refine condK_neg (fun hs => ?_) fun hs => four _ (g3.trans g4) (.inl hs)
        refine ixK_n hlt' ?_
        rw [faK_i, Addr.add_add]
        refine ld1K_i (g4.cell (hc 4 _ rfl) fun h => h) ?_
        refine callK_mono (maypat_ok (hk.grow (g3.trans g4) (by decide) fun _ _ h => h) (h3.grow g4 (by decide) fun _ _ h => h) (hss _ hmem).2) ?_
        rintro v5 w5 ⟨rfl, g5⟩
        rw [neK_i]
        refine condK_neg (fun hp => ?_) fun hp => four _ ((g3.trans g4).trans g5) (.inr hp)
        rw [addK_i, loop_step (by omega)]
        refine ⟨⟨k + 1, hlt', rfl, (g3.trans g4).trans g5, fun o hoo => ?_⟩, by rw [iOf0, iOf0]; omega⟩
        rw [List.take_add_one, List.getElem?_eq_getElem hlt'] at hoo
        rcases List.mem_append.1 hoo with hoo | hoo
        · exact hz o hoo
        · simp at hoo; subst hoo; exact ⟨hs, hp⟩
      · have : k = x.length := by omega
        subst this
        rw [List.take_length] at hz
        refine ⟨?_, g3⟩
        rw [mayOps, if_neg ok, if_neg]
        rintro ⟨o, ho, h | h⟩
        · exact h (hz o ho).1
        · exact h (hz o ho).2
    · refine callK_mono (takes_ok (RDops.grow h g1)) ?_
      rintro v2 w2 ⟨rfl, g2⟩
      rw [gtK_i]
      refine condK_p (fun ht => bad _ (g1.trans g2) (.inr (.inl ht))) fun ht => ?_
      refine callK_mono (makes_ok (RDops.grow h (g1.trans g2))) ?_
      rintro v3 w3 ⟨rfl, g3⟩
      rw [gtK_i]
      refine condK_p (fun hm => bad _ ((g1.trans g2).trans g3) (.inr (.inr hm))) fun hm => ⟨(g1.trans g2).trans g3, ?_⟩
      rintro (⟨o, ho, h⟩ | h | h)
      · obtain ⟨q1, q2, q3⟩ := hall o ho
        rcases h with h | h | h
        · exact h q1
        · exact q2 h
        · exact q3 h
      · exact ht h
      · exact hm h
def TameX (keys : List DKey) (x : List Dop) : Prop := keys.length ≤ 64 ∧ mDops x ≤ 20000 ∧ MayKeys keys ∧ mayOps keys x = 0
theorem TameX.forms {keys : List DKey} {x : List Dop} (h : TameX keys x) : ∀ o ∈ x, FormO o := by
  intro o ho
  have := h.2.2.2
  unfold mayOps at this
  split at this
  · cases this
  · rename_i hb
    cases Classical.em (FormO o) with
    | inl h => exact h
    | inr h => exact (hb (.inl ⟨o, ho, .inl h⟩)).elim
theorem FormO.f1 {o : Dop} (h : FormO o) : Form1 o := by
  rcases h.form1 with h | h | h
  · exact .inl h
  · exact .inr (.inl h)
  · exact .inr (.inr h)
theorem TameX.form1 {keys : List DKey} {x : List Dop} (h : TameX keys x) : ∀ o ∈ x, Form1 o := fun o ho => (h.forms o ho).f1

/-! ### ops.Same -/
end Go.Proofs.YtlbaopamhkmepaaGreatDoor

namespace Go.K
open Go
theorem OwnR.conv {α : Type} {B e k : Nat} {R0 R : World → List Value → α → Prop} {w : World} {g n c : Nat} {l : List α} (h : OwnR B e k R0 w (.slice (some ⟨g, 0, none⟩) n c) l)
    (hR : ∀ i (hi : i < l.length) (r : List Value), r.length = k → (∀ u ∈ r, u.oneCell' = true) → (∀ q u, r[q]? = some u → w.cell? ⟨g, i * k + q, none⟩ = some u) → R w r l[i]) : OwnR B e k R w (.slice (some ⟨g, 0, none⟩) n c) l := by
  obtain ⟨rows, h1, h2, h3, h4⟩ := h
  have hrl : ∀ r ∈ rows, r.length = k := fun r hr => (h3 r hr).1
  have hn : n = l.length := by
    rcases h1.2 with ⟨h', _⟩ | ⟨g', cap', cur, h', _⟩
    · simp at h'
    · simp only [Value.slice.injEq] at h'; exact h'.2.1
  subst hn
  refine ⟨rows, h1, h2, h3, fun i r x hr hx => ?_⟩
  have hi : i < l.length := (List.getElem?_eq_some_iff.1 hx).1
  have hx' : x = l[i] := by rw [List.getElem?_eq_getElem hi] at hx; exact (Option.some.inj hx).symm
  subst hx'
  have hm := List.mem_of_getElem? hr
  refine hR i hi r (hrl r hm) (h3 r hm).2 fun q u hu => ?_
  have hq : q < k := by rw [← hrl r hm]; exact (List.getElem?_eq_some_iff.1 hu).1
  have hlt : i * k + q < l.length * k := by
    have : (i + 1) * k ≤ l.length * k := Nat.mul_le_mul_right _ hi
    rw [Nat.add_mul] at this; omega
  have := h1.cellAt _ hlt
  rw [flat_get rows i q r hrl hr hq] at this
  rw [← hu]; exact this
theorem OwnR.any {α : Type} {B e k : Nat} {R0 : World → List Value → α → Prop} {w : World} {v : Value} {l : List α} (h : OwnR B e k R0 w v l) : OwnR B e k (fun _ _ _ => True) w v l := by
  obtain ⟨rows, h1, h2, h3, _⟩ := h
  exact ⟨rows, h1, h2, h3, fun _ _ _ _ _ => trivial⟩
theorem OwnR.setAny {α : Type} {B e k : Nat} {w : World} {g n c : Nat} {l : List α} (h : OwnR B e k (fun _ _ _ => True) w (.slice (some ⟨g, 0, none⟩) n c) l) {i j : Nat} (hi : i < l.length) (hj : j < k) {u : Value} (hu : u.oneCell' = true) :
    OwnR B e k (fun _ _ _ => True) (w.setCell ⟨g, i * k + j, none⟩ u) (.slice (some ⟨g, 0, none⟩) n c) l := by
  have hs := (OwnR.store (R' := fun _ _ _ => True) (x' := l[i]) h hi hj hu (fun _ _ _ _ => trivial) fun _ _ => trivial).2.2.1
  have e : l.set i l[i] = l := List.set_getElem_self hi
  rw [e] at hs
  have hadd : (⟨g, 0, none⟩ : Addr).add (i * k + j) = ⟨g, i * k + j, none⟩ := by unfold Addr.add; split <;> simp_all
  rw [hadd] at hs
  exact hs
theorem setA (W : World) (g o : Nat) (u : Value) : Mod (fun b => b = g) W (W.setCell ⟨g, o, none⟩ u) := Mod.setCell _ _ _ rfl
theorem OwnR.cellsOf {α : Type} {B e k : Nat} {R : World → List Value → α → Prop} {w : World} {g n c : Nat} {l : List α} (h : OwnR B e k R w (.slice (some ⟨g, 0, none⟩) n c) l) {i : Nat} (hi : i < l.length) :
    ∃ r, r.length = k ∧ (∀ q u, r[q]? = some u → w.cell? ⟨g, i * k + q, none⟩ = some u) ∧ R w r l[i] ∧ ∀ q, q < k → Live w ⟨g, i * k + q, none⟩ := by
  obtain ⟨p, r, e1, _, hr, hc, hR⟩ := (OwnR.sl h).get hi
  cases e1
  have hadd : ∀ q, (⟨g, 0, none⟩ : Addr).add (i * k + q) = ⟨g, i * k + q, none⟩ := fun q => by unfold Addr.add; split <;> simp_all
  refine ⟨r, hr, fun q u hu => by rw [← hadd]; exact hc q u hu, hR, fun q hq => ?_⟩
  obtain ⟨g', e2, _, hl⟩ := OwnR.live h hi hq
  cases e2
  rw [hadd] at hl; exact hl
end Go.K
namespace Go.Proofs.YtlbaopamhkmepaaGreatDoor
open Go Go.K

/-- the cells of an op at a place of a row -/
def OpAt (W : World) (g j : Nat) (o : Dop) (rv sv pv : Value) : Prop := ∀ q u, [Value.int .u8 o.kind, .int .i64 o.n, rv, sv, pv][q]? = some u → W.cell? ⟨g, j * 5 + q, none⟩ = some u
theorem OpAt.cong {W W' : World} {g j : Nat} {o : Dop} {rv sv pv : Value} (h : OpAt W g j o rv sv pv) (hW : ∀ q, q < 5 → W'.cell? ⟨g, j * 5 + q, none⟩ = W.cell? ⟨g, j * 5 + q, none⟩) : OpAt W' g j o rv sv pv := by
  intro q u hu
  have := (List.getElem?_eq_some_iff.1 hu).1
  simp only [List.length_cons, List.length_nil] at this
  rw [hW q (by omega)]; exact h q u hu
theorem copy_dops {S D : Nat → Prop} {v : Value} {x : List Dop} {w : World} (h : RDops S D w v x) (hb : mDops x ≤ 1099511627776) :
    callK Tryz.prog 49 [v] (fun v' w' => ODops w.heap.size w' v' x ∧ Grow w w') w := by
  apply S49_ok
  unfold S49
  have hxl := mDops_len x
  refine callK_mono (clone_dops h (by omega)) ?_
  rintro v1 w1 ⟨o1, g1⟩
  obtain ⟨a1, c1, rfl, hc1, hcm, hp, hn⟩ := OwnR.shape o1
  simp only [maxLen] at hcm
  rw [lenK_i]
  cases a1 with
  | none =>
    have := hn rfl
    subst this
    refine LoopK_i (fun vs w2 => vs = [.int .i64 0] ∧ w2 = w1) (fun _ _ => 0) ⟨rfl, rfl⟩ ?_
    rintro vs _ ⟨rfl, rfl⟩ _
    rename World => w1
    rw [nth_z, List.headD_cons, ltK_i]
    exact condK_p (fun h => by simp at h) fun _ => ⟨OwnR.mod o1 (Mod.refl (fun _ => False) _) (fun _ _ h => h) fun r y hy => by simp at hy, g1⟩
  | some p1 =>
    obtain ⟨g, rfl, hg1, hg2, _⟩ := hp _ rfl
    have hsz : ∀ o ∈ x, o.runes.length * 4 ≤ 140737488355328 ∧ o.set.length * 48 ≤ 140737488355328 ∧ o.patch.length * 56 ≤ 140737488355328 := by
      intro o ho
      have := mDops_mem ho
      simp only [mDop, mSet_eq, mPat_eq] at this
      omega
    -- what the row has, i ops done
    let F : Nat → Prop := fun b => w.heap.size ≤ b ∧ b ≠ g
    let D0 : Nat → Prop := fun b => D b ∧ b < w.heap.size
    let Inv : Nat → World → Prop := fun i W => OwnR w.heap.size 39 5 (fun _ _ _ => True) W (.slice (some ⟨g, 0, none⟩) x.length c1) x ∧ Mod (fun b => b = g) w1 W ∧
      ∀ j (hj : j < x.length), ∃ rv sv pv, OpAt W g j x[j] rv sv pv ∧ (j < i → ODop F W [.int .u8 x[j].kind, .int .i64 x[j].n, rv, sv, pv] x[j]) ∧ (i ≤ j → RDop D0 W [.int .u8 x[j].kind, .int .i64 x[j].n, rv, sv, pv] x[j])
    have inv0 : Inv 0 w1 := by
      refine ⟨o1.any, Mod.refl _ _, fun j hj => ?_⟩
      obtain ⟨r, hr, hcl, ho, _⟩ := OwnR.cellsOf o1 hj
      obtain ⟨rv, sv, pv, rfl, q1, q2, q3⟩ := ho
      exact ⟨rv, sv, pv, hcl, fun h => by omega, fun _ => ⟨rv, sv, pv, rfl, q1, q2, q3⟩⟩
    have hz1 := g1.size
    refine LoopK_i (fun vs W => ∃ i : Nat, i ≤ x.length ∧ vs = [.int .i64 i] ∧ Inv i W) (fun vs _ => x.length - iOf vs 0) ⟨0, Nat.zero_le _, rfl, inv0⟩ ?_
    rintro vs w2 ⟨i, hi, rfl, hinv⟩ _
    rw [nth_z, List.headD_cons, ltK_i]
    refine condK_p (fun hlt => ?_) fun hge => ?_
    · have hlt' : i < x.length := by omega
      obtain ⟨oA, mA, rows⟩ := hinv
      have hz2 := mA.size
      obtain ⟨rv, sv, pv, hat, _, hrd⟩ := rows i hlt'
      obtain ⟨_, _, _, e, q1, q2, q3⟩ := hrd (Nat.le_refl _)
      simp only [List.cons.injEq, and_true, true_and] at e
      obtain ⟨rfl, rfl, rfl⟩ := e
      have hmem : x[i] ∈ x := by simp
      obtain ⟨z1, z2, z3⟩ := hsz _ hmem
      have gd : Grow w2 w2.drew := Mod.drew _ _
      refine drawC_i (fun k b => (k = 26 ∨ k = 29 ∨ k = 32) ∧ b = g) ?_
      -- the loads are of cells that the stores turn, which wait for them
      have ld : ∀ q u, [Value.int .u8 x[i].kind, .int .i64 x[i].n, rv, sv, pv][q]? = some u → w2.drew.cell? ((⟨g, 0, none⟩ : Addr).add (i * 5 + q)) = some u := fun q u hu => by rw [addr0]; exact hat q u hu
      have lv : ∀ q, q < 5 → Live w2 ⟨g, i * 5 + q, none⟩ := by
        obtain ⟨_, _, _, _, hl⟩ := OwnR.cellsOf oA hlt'
        exact hl
      refine ixK_n hlt' ?_
      rw [faK_i, Addr.add_add]
      refine sld1_i ⟨ld 2 _ rfl, fun j hj h => by rcases h with ⟨rfl | rfl | rfl, _⟩ <;> exact absurd hj (by decide)⟩ ?_
      refine callK_mono (clone_run (q1.grow gd (by decide) fun _ _ h => h) z1) ?_
      rintro t1 w3 ⟨n1, g3⟩
      refine ⟨Grow.mod g3, ?_⟩
      have g23 := gd.trans g3
      refine ixK_n hlt' ?_
      rw [faK_i, Addr.add_add]
      refine sld1_i ⟨ld 3 _ rfl, fun j hj h => by rcases h with ⟨rfl | rfl | rfl, _⟩ <;> exact absurd hj (by decide)⟩ ?_
      refine callK_mono (copy_set (q2.grow g23 (by decide) fun _ _ h => h) z2) ?_
      rintro t2 w4 ⟨n2, g4⟩
      refine ⟨Grow.mod g4, ?_⟩
      have g24 := g23.trans g4
      refine ixK_n hlt' ?_
      rw [faK_i, Addr.add_add]
      refine sld1_i ⟨ld 4 _ rfl, fun j hj h => by rcases h with ⟨rfl | rfl | rfl, _⟩ <;> exact absurd hj (by decide)⟩ ?_
      refine callK_mono (copy_pat (q3.grow g24 (by decide) fun _ _ h => h) z3) ?_
      rintro t3 w5 ⟨n3, g5⟩
      refine ⟨Grow.mod g5, ?_⟩
      have g25 := g24.trans g5
      have hz5 := g25.size
      have zd : w2.drew.heap.size = w2.heap.size := rfl
      have hz3 := g3.size
      have hz4 := g4.size
      have lv5 : ∀ q, q < 5 → Live w5 ⟨g, i * 5 + q, none⟩ := fun q hq => (lv q hq).mod g25 fun h => h
      have n1' : OwnR 0 21 1 RRune w5 t1 x[i].runes := OwnR.base (OwnR.mod n1 (g4.trans g5) (fun _ _ h => h) fun _ _ _ h => h) fun _ _ => Nat.zero_le _
      have n2' : OSet 0 w5 t2 x[i].set := OwnR.base (OwnR.mod n2 g5 (fun _ _ h => h) fun _ _ _ h => h) fun _ _ => Nat.zero_le _
      have n3' : OwnR 0 111 6 RChg w5 t3 x[i].patch := OwnR.base n3 fun _ _ => Nat.zero_le _
      have b1 : ∀ b, t1.ownBlock = some b → F b := fun b hb => by have := (OwnR.ownB n1 b hb).1; exact ⟨by omega, by omega⟩
      have b2 : ∀ b, t2.ownBlock = some b → F b := fun b hb => by have := (OwnR.ownB n2 b hb).1; exact ⟨by omega, by omega⟩
      have b3 : ∀ b, t3.ownBlock = some b → F b := fun b hb => by have := (OwnR.ownB n3 b hb).1; exact ⟨by omega, by omega⟩
      have oA5 : OwnR w.heap.size 39 5 (fun _ _ _ => True) w5 (.slice (some ⟨g, 0, none⟩) x.length c1) x := OwnR.mod oA g25 (fun _ _ h => h) fun _ _ _ _ => trivial
      have ht1 := OwnR.one n1'
      have ht2 := OwnR.one n2'
      have ht3 := OwnR.one n3'
      refine ixK_n hlt' ?_
      rw [faK_i, Addr.add_add, addr0]
      refine (lv5 2 (by decide)).st ht1.1 ht1.2 ⟨Mod.setCell _ _ _ ⟨.inl rfl, rfl⟩, ?_⟩
      refine ixK_n hlt' ?_
      rw [faK_i, Addr.add_add, addr0]
      refine ((lv5 3 (by decide)).set _ _).st ht2.1 ht2.2 ⟨Mod.setCell _ _ _ ⟨.inr (.inl rfl), rfl⟩, ?_⟩
      refine ixK_n hlt' ?_
      rw [faK_i, Addr.add_add, addr0]
      refine (((lv5 4 (by decide)).set _ _).set _ _).st ht3.1 ht3.2 ⟨Mod.setCell _ _ _ ⟨.inr (.inr rfl), rfl⟩, ?_⟩
      rw [addK_i, loop_step (by omega)]
      refine ⟨⟨i + 1, hlt', rfl, ?_⟩, by rw [iOf0, iOf0]; omega⟩
      have oA6 := OwnR.setAny (OwnR.setAny (OwnR.setAny oA5 hlt' (show 2 < 5 by decide) ht1.1) hlt' (show 3 < 5 by decide) ht2.1) hlt' (show 4 < 5 by decide) ht3.1
      have m56 : Mod (fun b => b = g) w5 (((w5.setCell ⟨g, i * 5 + 2, none⟩ t1).setCell ⟨g, i * 5 + 3, none⟩ t2).setCell ⟨g, i * 5 + 4, none⟩ t3) := ((setA _ _ _ _).trans (setA _ _ _ _)).trans (setA _ _ _ _)
      have oth : ∀ j q, q < 5 → (j ≠ i ∨ q < 2) → (((w5.setCell ⟨g, i * 5 + 2, none⟩ t1).setCell ⟨g, i * 5 + 3, none⟩ t2).setCell ⟨g, i * 5 + 4, none⟩ t3).cell? ⟨g, j * 5 + q, none⟩ = w5.cell? ⟨g, j * 5 + q, none⟩ := by
        intro j q hq hj
        have ne : ∀ q', q' < 5 → 2 ≤ q' → (⟨g, i * 5 + q', none⟩ : Addr) ≠ ⟨g, j * 5 + q, none⟩ := by
          intro q' h1 h2 e
          simp only [Addr.mk.injEq, and_true, true_and] at e
          omega
        rw [World.cell?_setCell_other _ _ _ _ (ne 4 (by omega) (by omega)), World.cell?_setCell_other _ _ _ _ (ne 3 (by omega) (by omega)), World.cell?_setCell_other _ _ _ _ (ne 2 (by omega) (by omega))]
      have same : ∀ j q u, w2.cell? ⟨g, j * 5 + q, none⟩ = some u → w5.cell? ⟨g, j * 5 + q, none⟩ = some u := fun j q u hu => g25.cell hu fun h => h
      generalize hW : (((w5.setCell ⟨g, i * 5 + 2, none⟩ t1).setCell ⟨g, i * 5 + 3, none⟩ t2).setCell ⟨g, i * 5 + 4, none⟩ t3) = W at oA6 m56 oth ⊢
      refine ⟨oA6, mA.trans ((Grow.mod g25).trans m56), fun j hj => ?_⟩
      by_cases hji : j = i
      · subst hji
        refine ⟨t1, t2, t3, fun q u hu => ?_, fun _ => ⟨t1, t2, t3, rfl, own_mod ⟨n1', b1⟩ m56 (fun b _ hb e => hb.2 e) (fun _ _ h => h) fun _ _ h => h, own_mod ⟨n2', b2⟩ m56 (fun b _ hb e => hb.2 e) (fun _ _ h => h) fun _ _ h => h, own_mod ⟨n3', b3⟩ m56 (fun b _ hb e => hb.2 e) (fun _ _ h => h) fun _ _ h => h⟩, fun h => by omega⟩
        have hq := (List.getElem?_eq_some_iff.1 hu).1
        simp only [List.length_cons, List.length_nil] at hq
        have ne : ∀ q q', q ≠ q' → (⟨g, j * 5 + q', none⟩ : Addr) ≠ ⟨g, j * 5 + q, none⟩ := by
          intro q q' h e
          simp only [Addr.mk.injEq, and_true, true_and] at e
          omega
        have some5 : ∀ q, q < 5 → ∃ u, w5.cell? ⟨g, j * 5 + q, none⟩ = some u := fun q hq => Option.isSome_iff_exists.1 (lv5 q hq).1
        rw [← hW]
        match q, hq, hu with
        | 0, _, hu => rw [hW, oth j 0 (by omega) (.inr (by omega))]; exact same _ _ _ (hat 0 u hu)
        | 1, _, hu => rw [hW, oth j 1 (by omega) (.inr (by omega))]; exact same _ _ _ (hat 1 u hu)
        | 2, _, hu =>
          simp only [List.getElem?_cons_succ, List.getElem?_cons_zero, Option.some.injEq] at hu; subst hu
          obtain ⟨u', hu'⟩ := some5 2 (by omega)
          rw [World.cell?_setCell_other _ _ _ _ (ne 2 4 (by decide)), World.cell?_setCell_other _ _ _ _ (ne 2 3 (by decide))]
          exact World.cell?_setCell_same _ _ _ hu'
        | 3, _, hu =>
          simp only [List.getElem?_cons_succ, List.getElem?_cons_zero, Option.some.injEq] at hu; subst hu
          obtain ⟨u', hu'⟩ := some5 3 (by omega)
          rw [World.cell?_setCell_other _ _ _ _ (ne 3 4 (by decide))]
          exact World.cell?_setCell_same _ _ _ ((World.cell?_setCell_other _ _ _ _ (ne 3 2 (by decide))).trans hu')
        | 4, _, hu =>
          simp only [List.getElem?_cons_succ, List.getElem?_cons_zero, Option.some.injEq] at hu; subst hu
          obtain ⟨u', hu'⟩ := some5 4 (by omega)
          exact World.cell?_setCell_same _ _ _ ((World.cell?_setCell_other _ _ _ _ (ne 4 3 (by decide))).trans ((World.cell?_setCell_other _ _ _ _ (ne 4 2 (by decide))).trans hu'))
      · obtain ⟨rv', sv', pv', hat', hod', hrd'⟩ := rows j hj
        refine ⟨rv', sv', pv', OpAt.cong (W := w5) (fun q u hu => same _ _ _ (hat' q u hu)) fun q hq => oth j q hq (.inl hji), fun h => ?_, fun h => ?_⟩
        · exact (ODop.mod (hod' (by omega)) (D' := F) g25 (fun _ _ _ h => h) fun _ _ h => h).mod m56 (fun b _ hb e => hb.2 e) fun _ _ h => h
        · exact (RDop.mod (hrd' (by omega)) (D' := D0) g25 (fun _ _ _ h => h) fun _ _ h => h).mod m56 (fun b _ hb e => by have := hb.2; omega) fun _ _ h => h
    · have : i = x.length := by omega
      subst this
      obtain ⟨oA, mA, rows⟩ := hinv
      refine ⟨OwnR.conv oA fun j hj r hr hone hcl => ?_, g1.next mA fun b hb e => by omega⟩
      obtain ⟨rv, sv, pv, hat, hod, _⟩ := rows j hj
      have e : r = [.int .u8 x[j].kind, .int .i64 x[j].n, rv, sv, pv] := by
        refine List.ext_getElem? fun q => ?_
        by_cases hq : q < 5
        · have h1 : r[q]? = some r[q] := List.getElem?_eq_getElem (by omega)
          have h2 : ([Value.int .u8 x[j].kind, .int .i64 x[j].n, rv, sv, pv])[q]? = some ([Value.int .u8 x[j].kind, .int .i64 x[j].n, rv, sv, pv])[q] := List.getElem?_eq_getElem (by simpa using hq)
          have h3 := hcl q _ h1
          rw [hat q _ h2] at h3
          rw [h1, h2, h3]
        · rw [List.getElem?_eq_none (by omega), List.getElem?_eq_none (by simp; omega)]
      subst e
      exact (hod hj).mod (Mod.refl (fun _ => False) _) (fun _ _ _ h => h) fun b _ hb => ⟨hb.1, fun e => hb.2 (by simpa [Value.ownBlock] using e.symm)⟩
end Go.Proofs.YtlbaopamhkmepaaGreatDoor

namespace Go.K
open Go
theorem cap_run {P : Program} {t ty e : TypeId} {a : Option Addr} {n c : Nat} {w : World} (ht : P.underlying t = some (.slice e)) : (Builtin.cap_ #[t] ty #[.slice a n c]).run P w = .ok (.int .i64 c) w := by
  simp [Builtin.cap_, run_underlying ht, goInt]
theorem sliceHi_run {P : Program} {t e k : Nat} {i : TypeInfo} {a : Option Addr} {n c h : Nat} {w : World} (ht : P.underlying t = some (.slice e)) (hi : P.info? e = some i) (hk : i.size = k) (hh : h ≤ c) :
    (Instr.sliceAt t (.slice a n c) none (some (.int .i64 h)) none).run P w = .ok (.slice (if c = 0 then a else a.map (·.add (0 * k))) h c) w := by
  have hel : P.elem t = e := by simp [Program.elem, ht]
  rw [run_sliceAt_slice _ _ _ _ _ _ (by rw [hel]; exact ht), run_slice_h _ _ _ _ _ (by rw [hel]; exact ht) _ _ (by omega) (by omega), hel]
  simp [sizeOf, typeInfo, hi, hk, sliced]
end Go.K
namespace Go.Proofs.YtlbaopamhkmepaaGreatDoor
open Go Go.K

theorem grow_nil {n : Nat} {w : World} (hn : n * 88 ≤ 140737488355328) (R : World → List Value → Dop → Prop) :
    callK Tryz.prog 178 [.slice none 0 0, .int .i64 n] (fun v' w' => OwnR w.heap.size 39 5 R w' v' [] ∧ Grow w w') w := by
  apply S178_ok
  unfold S178
  refine JoinK_i (fun vs w1 => w1 = w) ?_ ?_
  · rintro vs _ rfl _
    rename World => w
    refine runK_i (cap_run (e := 39) (by kernel_rfl)) ?_
    rw [lenK_i, subK_i, subK_i, gtK_i]
    have e0 : IntKind.i64.wrap ((n : Int) - IntKind.i64.wrap (((0 : Nat) : Int) - ((0 : Nat) : Int))) = n := by rw [wrap64 (x := ((0 : Nat) : Int) - ((0 : Nat) : Int)) (by omega) (by omega), wrap64 (by omega) (by omega)]; omega
    rw [e0]
    refine condK_p (fun hp => ?_) fun _ => ⟨OwnR.nil, Mod.refl _ _⟩
    refine runK_i (cap_run (e := 39) (by kernel_rfl)) ?_
    refine runK_i (sliceHi_run (e := 39) (i := Tryz.t39) (k := 5) (h := 0) (by kernel_rfl) (by kernel_rfl) (by kernel_rfl) (Nat.le_refl _)) ?_
    simp only [if_true]
    obtain ⟨i, z, h1, h2, h3, h4, h5, h6, h7⟩ := elem_dop
    have hbz : i.bytes = 88 := h5
    refine runK_i (Go.Lib.run_append_nil_zeros (P := Tryz.prog) w 31 3 31 39 i z .i64 .i64 h1 (by kernel_rfl) h2 h3 n (by omega) (by omega) (by omega) (by rw [hbz]; omega)) ?_
    have hge := grownCap_ge w n 0 39
    have hml := grownCap_le_maxLen w n 0 39 (by simp only [maxLen]; omega)
    have hg : Grow w (w.drew.alloc (.cells (Builtin.zeroCells z.cells n ++ Builtin.zeroCells z.cells (grownCap w n 0 39 - n)) 39)) := (Mod.drew _ _).trans (Mod.alloc _ _ _)
    have hh := heap_alloc_new w.drew (.cells (Builtin.zeroCells z.cells n ++ Builtin.zeroCells z.cells (grownCap w n 0 39 - n)) 39)
    generalize w.drew.alloc (.cells (Builtin.zeroCells z.cells n ++ Builtin.zeroCells z.cells (grownCap w n 0 39 - n)) 39) = w2 at hg hh ⊢
    rw [lenK_i]
    refine runK_i (sliceHi_run (e := 39) (i := Tryz.t39) (k := 5) (h := 0) (by kernel_rfl) (by kernel_rfl) (by kernel_rfl) (Nat.zero_le _)) ⟨?_, hg⟩
    rw [if_neg (by omega)]
    simp only [Option.map_some, addr0, Nat.zero_mul]
    refine ⟨[], ⟨rfl, .inr ⟨_, _, _, rfl, Nat.le_refl _, hh, Nat.zero_le _, hml, ?_, by simp⟩⟩, rfl, by simp, by simp⟩
    simp only [Array.size_append, size_zeroCells, h6, ← Nat.add_mul]
    rw [Nat.add_sub_cancel' hge]
  · rw [ltK_i]
    exact condK_p (fun h => by omega) fun _ => rfl
/-- what a row of two slices reads as -/
theorem concat_dops {S1 D1 S2 D2 : Nat → Prop} {va vb : Value} {l m : List Dop} {p : Addr} {w : World} (ha : RDops S1 D1 w va l) (hb : RDops S2 D2 w vb m) (h0 : w.cell? p = some va) (h1 : w.cell? (p.add 1) = some vb) (hl : (l.length + m.length) * 88 ≤ 140737488355328) :
    callK Tryz.prog 128 [.slice (some p) 2 2] (fun v' w' => OwnR w.heap.size 39 5 (RDop fun b => (D1 b ∨ D2 b) ∧ b < w.heap.size) w' v' (l ++ m) ∧ Grow w w') w := by
  apply S128_ok
  unfold S128
  obtain ⟨a1, c1, rfl, m1⟩ := ha.shape
  obtain ⟨a2, c2, rfl, m2⟩ := hb.shape
  rw [lenK_i]
  have n0 : ((2 : Nat) : Int) = 2 := rfl
  refine LoopK_i (fun vs w1 => ∃ k : Nat, k ≤ 2 ∧ vs = [.int .i64 (if k = 0 then (0 : Nat) else if k = 1 then l.length else l.length + m.length : Nat), .int .i64 k] ∧ w1 = w) (fun vs _ => 2 - iOf vs 1) ⟨0, by omega, rfl, rfl⟩ ?_
  rintro vs _ ⟨k, hk, rfl, rfl⟩ _
  rename World => w
  simp only [nth_s, nth_z, List.headD_cons, List.tail_cons]
  rw [ltK_i]
  refine condK_p (fun hlt => ?_) fun hge => ?_
  · have hk2 : k = 0 ∨ k = 1 := by omega
    rcases hk2 with rfl | rfl
    · refine ixK_n (by decide) ?_
      have e : (p.add (0 * 1)) = p.add 0 := rfl
      rw [e, Addr.add_zero']
      refine ld1K_i h0 ?_
      rw [lenK_i, addK_i, wrap64 (by simp <;> omega) (by simp <;> omega), ltK_i]
      refine condK_p (fun h => by simp at h <;> omega) fun _ => ?_
      rw [addK_i, loop_step (by omega)]
      exact ⟨⟨1, by omega, by simp, rfl⟩, by rw [iOf1, iOf1]; omega⟩
    · refine ixK_n (by decide) ?_
      refine ld1K_i (show w.cell? (p.add (1 * 1)) = _ from h1) ?_
      rw [lenK_i, addK_i, wrap64 (by simp <;> omega) (by simp <;> omega), ltK_i]
      refine condK_p (fun h => by simp at h <;> omega) fun _ => ?_
      rw [addK_i, loop_step (by omega)]
      exact ⟨⟨2, by omega, by simp, rfl⟩, by rw [iOf1, iOf1]; omega⟩
  · have hk2 : k = 2 := by omega
    subst hk2
    simp only [show ¬ (2 : Nat) = 0 by decide, show ¬ (2 : Nat) = 1 by decide, if_false]
    refine callK_mono (grow_nil hl (RDop fun b => (D1 b ∨ D2 b) ∧ b < w.heap.size)) ?_
    rintro v1 w1 ⟨o1, g1⟩
    rw [lenK_i]
    let R := RDop fun b => (D1 b ∨ D2 b) ∧ b < w.heap.size
    have hz1 := g1.size
    have ha1 : SlR (fun _ => True) 5 R w1 (.slice a1 l.length c1) l := SlR.mono ha.old (fun _ _ _ => trivial) (fun b hb _ => g1.same b hb fun h => h) (by decide) fun r x hx => hx.mod g1 (fun _ _ _ h => h) fun b _ h => ⟨.inl h.1, h.2⟩
    have hb1 : SlR (fun _ => True) 5 R w1 (.slice a2 m.length c2) m := SlR.mono hb.old (fun _ _ _ => trivial) (fun b hb _ => g1.same b hb fun h => h) (by decide) fun r x hx => hx.mod g1 (fun _ _ _ h => h) fun b _ h => ⟨.inr h.1, h.2⟩
    have pst : ∀ {W W' : World} {M : Nat → Prop}, Mod M W W' → (∀ b, M b → w.heap.size ≤ b) → ∀ r y, R W r y → R W' r y := fun hm hM r y hy => hy.mod hm (fun b _ hd hb => by have := hM b hb; omega) fun _ _ h => h
    refine LoopK_i (fun vs w2 => ∃ (k : Nat) (out : Value) (acc : List Dop), k ≤ 2 ∧ vs = [out, .int .i64 k] ∧ acc = (if k = 0 then [] else if k = 1 then l else l ++ m) ∧ OwnR w.heap.size 39 5 R w2 out acc ∧ Grow w w2) (fun vs _ => 2 - iOf vs 1) ⟨0, v1, [], by omega, rfl, rfl, o1, g1⟩ ?_
    rintro vs w2 ⟨k, out, acc, hk, rfl, hacc, ho, g2⟩ _
    simp only [nth_s, nth_z, List.headD_cons, List.tail_cons]
    rw [ltK_i]
    have one : ∀ {W : World} (j : Nat) (y z : List Dop) (x o : Value), SlR (fun _ => True) 5 R w x y → OwnR w.heap.size 39 5 R W o z → Grow w W → (z.length + y.length) * 88 ≤ 140737488355328 →
        runK Tryz.prog (Builtin.append_ #[31, 31] 31 [o, x].toArray) (fun v' w' => OwnR w.heap.size 39 5 R w' v' (z ++ y) ∧ Grow w w') W := by
      intro W j y z x o hx hz hW hb
      have hx' : SlR (fun _ => True) 5 R W x y := by
        refine SlR.mono (hx.old (by decide)) (fun _ _ _ => trivial) (fun b hb h => hW.same b hb fun h => h) (by decide) fun r q hq => pst hW (fun _ h => h.elim) r q hq
      obtain ⟨v', w', r1, r2, r3, r4⟩ := OwnR.append (ty := 31) elem_dop hz hx' (fun _ _ => RDop.one) hb hW.size (by simp only [maxLen]; omega) fun w' hg r q hq => pst (Mod.of_grownBy hg) (fun b e => (OwnR.ownB hz b e).1) r q hq
      exact runK_i r1 ⟨r2, hW.next (Mod.of_grownBy r3) fun b hb e => by have := (OwnR.ownB hz b e).1; omega⟩
    have ha0 : SlR (fun _ => True) 5 R w (.slice a1 l.length c1) l := SlR.sub ha.old (fun _ _ _ => trivial) (by decide) fun r x hx => hx.mod (Mod.refl (fun _ => False) _) (fun _ _ _ h => h) fun b _ h => ⟨.inl h.1, h.2⟩
    have hb0 : SlR (fun _ => True) 5 R w (.slice a2 m.length c2) m := SlR.sub hb.old (fun _ _ _ => trivial) (by decide) fun r x hx => hx.mod (Mod.refl (fun _ => False) _) (fun _ _ _ h => h) fun b _ h => ⟨.inr h.1, h.2⟩
    refine condK_p (fun hlt => ?_) fun hge => ?_
    · have hk2 : k = 0 ∨ k = 1 := by omega
      rcases hk2 with rfl | rfl
      · refine ixK_n (by decide) ?_
        have e : (p.add (0 * 1)) = p.add 0 := rfl
        rw [e, Addr.add_zero']
        refine ld1K_i (g2.cell h0 fun h => h) ?_
        simp only [if_true] at hacc
        subst hacc
        obtain ⟨v', w', r1, r2, r3⟩ := one 0 l [] _ out ha0 ho g2 (by simp; omega)
        refine runK_i r1 ?_
        rw [addK_i, loop_step (by omega)]
        exact ⟨⟨1, v', _, by omega, rfl, by simp, r2, r3⟩, by rw [iOf1, iOf1]; omega⟩
      · refine ixK_n (by decide) ?_
        refine ld1K_i (g2.cell (show w.cell? (p.add (1 * 1)) = _ from h1) fun h => h) ?_
        simp only [show ¬ (1 : Nat) = 0 by decide, if_true, if_false] at hacc
        subst hacc
        obtain ⟨v', w', r1, r2, r3⟩ := one 0 m acc _ out hb0 ho g2 hl
        refine runK_i r1 ?_
        rw [addK_i, loop_step (by omega)]
        exact ⟨⟨2, v', _, by omega, rfl, by simp, r2, r3⟩, by rw [iOf1, iOf1]; omega⟩
    · have hk2 : k = 2 := by omega
      subst hk2
      simp only [show ¬ (2 : Nat) = 0 by decide, show ¬ (2 : Nat) = 1 by decide, if_false] at hacc
      subst hacc
      exact ⟨ho, g2⟩
end Go.Proofs.YtlbaopamhkmepaaGreatDoor

namespace Go.Proofs.YtlbaopamhkmepaaGreatDoor
open Go Go.K

abbrev TOp : Nat := 39
abbrev row5 (o : Dop) (rv sv pv : Value) : List Value := [.int .u8 o.kind, .int .i64 o.n, rv, sv, pv]
/-- the rows of the gap's inserts: the last one's runes lie in h, all else in C -/
def InsRows (C : Nat → Prop) (h : Nat) (W : World) (g : Nat) (ins : List Dop) : Prop := 0 < ins.length ∧ ∀ j (hj : j < ins.length), ∃ rv sv pv, OpAt W g j ins[j] rv sv pv ∧ RDop (fun x => C x ∨ x = h) W (row5 ins[j] rv sv pv) ins[j] ∧
  (j + 1 = ins.length → OwnR 0 21 1 RRune W rv ins[j].runes ∧ rv.ownBlock = some h ∧ RSet C W sv ins[j].set ∧ RPat C W pv ins[j].patch) ∧ (j + 1 < ins.length → RDop C W (row5 ins[j] rv sv pv) ins[j])
/-- a maker in memory: at block b, its ops, its gap's inserts; F: all blocks of its own; C: those that are only read -/
structure MkR (F : Nat → Prop) (W : World) (b : Nat) (s : MkS) (dv iv : Value) (C : Nat → Prop) (hot : Option Nat) : Prop where
  c0 : W.cell? ⟨b, 0, none⟩ = some dv
  c1 : W.cell? ⟨b, 1, none⟩ = some iv
  c2 : W.cell? ⟨b, 2, none⟩ = some (.int .i64 s.gone)
  lv : ∀ q, q < 3 → Live W ⟨b, q, none⟩
  fb : F b
  nb : ¬ C b
  cf : ∀ x, C x → F x ∧ x < W.heap.size
  done : OwnR 0 TOp 5 (RDop C) W dv s.done
  dF : ∀ g, dv.ownBlock = some g → F g ∧ ¬ C g ∧ g ≠ b
  ins : (s.ins = [] ∧ iv = .slice none 0 0 ∧ hot = none) ∨ ∃ g c h, iv = .slice (some ⟨g, 0, none⟩) s.ins.length c ∧ hot = some h ∧ OwnR 0 TOp 5 (fun _ _ _ => True) W iv s.ins ∧ F g ∧ ¬ C g ∧ g ≠ b ∧ dv.ownBlock ≠ some g ∧
    F h ∧ ¬ C h ∧ h ≠ b ∧ h ≠ g ∧ dv.ownBlock ≠ some h ∧ h < W.heap.size ∧ InsRows C h W g s.ins
def MkI (F : Nat → Prop) (W : World) (b : Nat) (s : MkS) : Prop := ∃ dv iv C hot, MkR F W b s dv iv C hot
theorem OpAt.mod {W W' : World} {M : Nat → Prop} {g j : Nat} {o : Dop} {rv sv pv : Value} (h : OpAt W g j o rv sv pv) (hm : Mod M W W') (hg : ¬ M g) : OpAt W' g j o rv sv pv := fun q u hu => hm.cell (h q u hu) hg
theorem InsRows.mod {C M : Nat → Prop} {h : Nat} {W W' : World} {g : Nat} {ins : List Dop} (hi : InsRows C h W g ins) (hm : Mod M W W') (hg : ¬ M g) (hh : ¬ M h) (hC : ∀ x, C x → ¬ M x) : InsRows C h W' g ins := by
  refine ⟨hi.1, fun j hj => ?_⟩
  obtain ⟨rv, sv, pv, q1, q2, q3, q4⟩ := hi.2 j hj
  refine ⟨rv, sv, pv, q1.mod hm hg, q2.mod hm (fun b _ hb => by rcases hb with hb | rfl; exact hC b hb; exact hh) fun _ _ h => h, fun e => ?_, fun e => (q4 e).mod hm (fun b _ hb => hC b hb) fun _ _ h => h⟩
  obtain ⟨p1, p2, p3, p4⟩ := q3 e
  exact ⟨OwnR.mod p1 hm (fun g hg => by rw [p2] at hg; cases hg; exact hh) fun _ _ _ h => h, p2, p3.mono (fun _ _ h => h) (fun b hb hc => hm.same b hb (hC b hc)) (by decide) fun _ _ h => h, p4.mono (fun _ _ h => h) (fun b hb hc => hm.same b hb (hC b hc)) (by decide) fun _ _ h => h⟩
theorem RDop.cmod {C M : Nat → Prop} {W W' : World} {r : List Value} {o : Dop} (h : RDop C W r o) (hm : Mod M W W') (hC : ∀ x, C x → ¬ M x) : RDop C W' r o := h.mod hm (fun b _ hb => hC b hb) fun _ _ h => h
theorem MkR.mod {F M C : Nat → Prop} {W W' : World} {b : Nat} {s : MkS} {dv iv : Value} {hot : Option Nat} (h : MkR F W b s dv iv C hot) (hm : Mod M W W') (hF : ∀ x, F x → ¬ M x) : MkR F W' b s dv iv C hot := by
  have hb := hF b h.fb
  have hC : ∀ x, C x → ¬ M x := fun x hx => hF x (h.cf x hx).1
  refine ⟨hm.cell h.c0 hb, hm.cell h.c1 hb, hm.cell h.c2 hb, fun q hq => (h.lv q hq).mod hm hb, h.fb, h.nb, fun x hx => ⟨(h.cf x hx).1, Nat.lt_of_lt_of_le (h.cf x hx).2 hm.size⟩, OwnR.mod h.done hm (fun g hg => hF g (h.dF g hg).1) fun r x _ hx => hx.cmod hm hC, h.dF, ?_⟩
  rcases h.ins with h0 | ⟨g, c, hh, e1, e2, e3, e4, e5, e6, e7, e8, e9, e10, e11, e12, e13, e14⟩
  · exact .inl h0
  · exact .inr ⟨g, c, hh, e1, e2, OwnR.mod e3 hm (fun g' hg' => by rw [e1] at hg'; simp only [Value.ownBlock, Option.some.injEq] at hg'; subst hg'; exact hF _ e4) fun _ _ _ _ => trivial, e4, e5, e6, e7, e8, e9, e10, e11, e12, Nat.lt_of_lt_of_le e13 hm.size, e14.mod hm (hF g e4) (hF hh e8) hC⟩
theorem MkR.grow {F C : Nat → Prop} {W W' : World} {b : Nat} {s : MkS} {dv iv : Value} {hot : Option Nat} (h : MkR F W b s dv iv C hot) (hm : Grow W W') : MkR F W' b s dv iv C hot := h.mod hm fun _ _ h => h
theorem MkI.mod {F M : Nat → Prop} {W W' : World} {b : Nat} {s : MkS} (h : MkI F W b s) (hm : Mod M W W') (hF : ∀ x, F x → ¬ M x) : MkI F W' b s := by
  obtain ⟨dv, iv, C, hot, h⟩ := h
  exact ⟨dv, iv, C, hot, h.mod hm hF⟩
theorem MkI.sub {F F' : Nat → Prop} {W : World} {b : Nat} {s : MkS} (h : MkI F W b s) (hF : ∀ x, F x → F' x) : MkI F' W b s := by
  obtain ⟨dv, iv, C, hot, h⟩ := h
  refine ⟨dv, iv, C, hot, h.c0, h.c1, h.c2, h.lv, hF _ h.fb, h.nb, fun x hx => ⟨hF _ (h.cf x hx).1, (h.cf x hx).2⟩, h.done, fun g hg => ⟨hF _ (h.dF g hg).1, (h.dF g hg).2⟩, ?_⟩
  rcases h.ins with h0 | ⟨g, c, hh, e1, e2, e3, e4, e5, e6, e7, e8, e9⟩
  · exact .inl h0
  · exact .inr ⟨g, c, hh, e1, e2, e3, hF _ e4, e5, e6, e7, hF _ e8, e9⟩
/-- New -/
theorem new_ok {w : World} : callK Tryz.prog 75 [] (fun v w' => Grow w w' ∧ ∃ b, w.heap.size ≤ b ∧ b < w'.heap.size ∧ v = .pointer (some ⟨b, 0, none⟩) ∧ MkI (fun x => x = b) w' b MkS.z) w := by
  apply S75_ok
  unfold S75
  refine ⟨#[.slice none 0 0, .slice none 0 0, .int .i64 0], by kernel_rfl, ?_⟩
  refine boxn_i (vs := [.slice none 0 0, .slice none 0 0, .int .i64 0]) fun b w1 hb hz g hc hl => ?_
  have a0 : ∀ j, (⟨b, 0, none⟩ : Addr).add j = ⟨b, j, none⟩ := fun j => addr0 b j
  refine ⟨g, b, by omega, by omega, rfl, _, _, fun _ => False, none, by rw [← a0]; exact hc 0 _ rfl, by rw [← a0]; exact hc 1 _ rfl, by rw [← a0]; exact hc 2 _ rfl, fun q hq => by rw [← a0]; exact hl q hq, rfl, fun h => h, fun _ h => h.elim, OwnR.nil, fun g hg => (nomatch hg), .inl ⟨rfl, rfl, rfl⟩⟩
/-- Delete -/
theorem delete_ok {F : Nat → Prop} {w : World} {b : Nat} {s : MkS} {n : Int} (h : MkI F w b s) : callK Tryz.prog 78 [.pointer (some ⟨b, 0, none⟩), .int .i64 n] (fun _ w' => MkI F w' b (delS s n) ∧ Mod F w w') w := by
  apply S78_ok
  unfold S78
  obtain ⟨dv, iv, C, hot, h⟩ := h
  rw [pnilK_i]
  simp only [Option.isNone_some, Bool.not_false]
  rw [condK_b, if_pos rfl, nilckK_i, faK_i, addr0]
  refine ld1K_i h.c2 ?_
  rw [maxK_i, addK_i, nilckK_i, faK_i, addr0]
  have e : (if (0 : Int) > n then (0 : Int) else n) = maxI n 0 := rfl
  rw [e]
  refine (h.lv 2 (by decide)).st rfl rfl ?_
  have hm := setA w b 2 (.int .i64 (IntKind.i64.wrap (s.gone + maxI n 0)))
  have ne : ∀ q, q < 2 → (⟨b, 2, none⟩ : Addr) ≠ ⟨b, q, none⟩ := fun q hq e => by simp only [Addr.mk.injEq] at e; omega
  obtain ⟨u, hu⟩ := Option.isSome_iff_exists.1 (h.lv 2 (by decide)).1
  have nC : ∀ x, C x → ¬ x = b := fun x hx e => h.nb (e ▸ hx)
  refine ⟨⟨dv, iv, C, hot, (World.cell?_setCell_other _ _ _ _ (ne 0 (by decide))).trans h.c0, (World.cell?_setCell_other _ _ _ _ (ne 1 (by decide))).trans h.c1, World.cell?_setCell_same _ _ _ hu, fun q hq => (h.lv q hq).set _ _, h.fb, h.nb, fun x hx => ⟨(h.cf x hx).1, Nat.lt_of_lt_of_le (h.cf x hx).2 hm.size⟩, OwnR.mod h.done hm (fun g hg => (h.dF g hg).2.2) fun r x _ hx => hx.cmod hm nC, h.dF, ?_⟩, hm.mono fun x _ e => by rw [e]; exact h.fb⟩
  rcases h.ins with h0 | ⟨g, c, hh, e1, e2, e3, e4, e5, e6, e7, e8, e9, e10, e11, e12, e13, e14⟩
  · exact .inl h0
  · exact .inr ⟨g, c, hh, e1, e2, OwnR.mod e3 hm (fun g' hg' => by rw [e1] at hg'; simp only [Value.ownBlock, Option.some.injEq] at hg'; subst hg'; exact e6) fun _ _ _ _ => trivial, e4, e5, e6, e7, e8, e9, e10, e11, e12, Nat.lt_of_lt_of_le e13 hm.size, e14.mod hm e6 e10 nC⟩
/-- what the gap's inserts read as -/
theorem MkR.insRd {F C : Nat → Prop} {W : World} {b : Nat} {s : MkS} {dv iv : Value} {hot : Option Nat} (h : MkR F W b s dv iv C hot) : RDops (fun _ => True) (fun x => (C x ∨ hot = some x) ∧ x < W.heap.size) W iv s.ins := by
  rcases h.ins with ⟨e1, e2, _⟩ | ⟨g, c, hh, e1, e2, e3, e4, e5, e6, e7, e8, e9, e10, e11, e12, e13, e14⟩
  · rw [e1, e2]; exact SlR.nil
  · subst e1; subst e2
    have o := OwnR.conv (R := RDop fun x => (C x ∨ some hh = some x) ∧ x < W.heap.size) e3 fun j hj r hr hone hcl => ?_
    · exact SlR.sub (OwnR.sl o) (fun _ _ _ => trivial) (by decide) fun _ _ h => h
    · obtain ⟨rv, sv, pv, q1, q2, _, _⟩ := e14.2 j hj
      have e : r = row5 s.ins[j] rv sv pv := by
        refine List.ext_getElem? fun q => ?_
        by_cases hq : q < 5
        · have h1 : r[q]? = some r[q] := List.getElem?_eq_getElem (by omega)
          have h2 : (row5 s.ins[j] rv sv pv)[q]? = some (row5 s.ins[j] rv sv pv)[q] := List.getElem?_eq_getElem (by simpa using hq)
          have h3 := hcl q _ h1
          rw [q1 q _ h2] at h3
          rw [h1, h2, h3]
        · rw [List.getElem?_eq_none (by omega), List.getElem?_eq_none (by simp; omega)]
      subst e
      exact q2.mod (Mod.refl (fun _ => False) _) (fun _ _ _ h => h) fun x hx hc => by
        refine ⟨?_, hx⟩
        rcases hc with hc | hc
        · exact .inl hc
        · exact .inr (by rw [hc])
/-- what is appended is a delete -/
theorem gap_ok {F C : Nat → Prop} {w : World} {b : Nat} {s : MkS} {dv iv : Value} {hot : Option Nat} (h : MkR F w b s dv iv C hot) (hl : (s.ins.length + 1) * 88 ≤ 140737488355328) :
    callK Tryz.prog 127 [.pointer (some ⟨b, 0, none⟩)] (fun v' w' => OwnR w.heap.size TOp 5 (RDop fun x => (C x ∨ hot = some x) ∧ x < w.heap.size) w' v' (gapL s.ins s.gone) ∧ Grow w w') w := by
  apply S127_ok
  unfold S127
  rw [nilckK_i, faK_i, addr0]
  refine ld1K_i h.c1 ?_
  refine callK_mono (clone_dops h.insRd (by omega)) ?_
  rintro v1 w1 ⟨o1, g1⟩
  have o1' : OwnR w.heap.size TOp 5 (RDop fun x => (C x ∨ hot = some x) ∧ x < w.heap.size) w1 v1 s.ins := OwnR.mod o1 (Mod.refl (fun _ => False) _) (fun _ _ h => h) fun r x _ hx => hx.mod (Mod.refl (fun _ => False) _) (fun _ _ _ h => h) fun _ _ h => h.1
  rw [nilckK_i, faK_i, addr0]
  refine ld1K_i (g1.cell h.c2 fun h => h) ?_
  rw [gtK_i]
  refine condK_p (fun hg => ?_) fun hg => ⟨by rw [gapL, if_neg hg]; exact o1', g1⟩
  rw [nilckK_i, faK_i, addr0]
  refine ld1K_i (g1.cell h.c2 fun h => h) ?_
  refine ⟨#[.int .u8 3, .int .i64 s.gone, .slice none 0 0, .slice none 0 0, .slice none 0 0], by kernel_rfl, ?_⟩
  refine push_n (w0 := w) elem_dop o1' g1 (cs := row5 ⟨3, s.gone, [], [], []⟩ (.slice none 0 0) (.slice none 0 0) (.slice none 0 0)) (x := ⟨3, s.gone, [], [], []⟩) (by kernel_rfl) rfl ⟨_, _, _, rfl, SlR.nil, SlR.nil, SlR.nil⟩ (fun _ _ _ => RDop.one) ?_ hl (by simp only [maxLen]; omega) fun v' w' h1 h2 => ⟨by rw [gapL, if_pos hg]; exact h1, h2⟩
  intro W1 W2 r y hz hm hy
  refine hy.mod hm (fun x _ hx e => ?_) fun _ _ h => h
  rcases e with e | e
  · have := (OwnR.ownB o1 x e).1; omega
  · have := g1.size; omega
end Go.Proofs.YtlbaopamhkmepaaGreatDoor

namespace Go.K
open Go
theorem OwnR.len {α β : Type} {B e k : Nat} {R : World → List Value → α → Prop} {w : World} {v : Value} {l : List α} (h : OwnR B e k R w v l) (l' : List β) (hl : l'.length = l.length) : OwnR B e k (fun _ _ (_ : β) => True) w v l' := by
  obtain ⟨rows, h1, h2, h3, _⟩ := h
  exact ⟨rows, by rw [hl]; exact h1, by rw [hl]; exact h2, h3, fun _ _ _ _ _ => trivial⟩
end Go.K
namespace Go.Proofs.YtlbaopamhkmepaaGreatDoor
open Go Go.K

def lastSet (ins : List Dop) (set : List Attr) : Bool := match ins.getLast? with | some o => decide (o.set = set) | none => false
theorem getLast_get {l : List Dop} (h : 0 < l.length) : l.getLast? = some l[l.length - 1] := by
  rw [List.getLast?_eq_getElem?]; simp [show l.length - 1 < l.length by omega]
theorem insert_ok {F S : Nat → Prop} {w : World} {b : Nat} {s : MkS} {lv sv : Value} {rs : List Int} {set : List Attr} (h : MkI F w b s) (h1 : RRun S w lv rs) (h2 : RSet S w sv set) (hS : ∀ x, S x → ¬ F x)
    (hb1 : (s.ins.length + 1) * 88 ≤ 140737488355328) (hb2 : ∀ o ∈ s.ins, (o.runes.length + rs.length) * 4 ≤ 140737488355328) (hb3 : rs.length * 4 ≤ 140737488355328) (hb4 : set.length * 48 ≤ 140737488355328) :
    callK Tryz.prog 77 [.pointer (some ⟨b, 0, none⟩), lv, sv] (fun _ w' => MkI (fun x => F x ∨ w.heap.size ≤ x) w' b (insS s rs set) ∧ Mod F w w') w := by
  apply S77_ok
  unfold S77
  have hI := h
  obtain ⟨dv, iv, C, hot, h⟩ := h
  obtain ⟨pl, cl, rfl, ml⟩ := h1.shape
  have shI : ∃ ga gc, iv = .slice ga s.ins.length gc := by
    rcases h.ins with ⟨e1, e2, _⟩ | ⟨g, c, hh, e1, _⟩
    · exact ⟨none, 0, by rw [e1, e2]; rfl⟩
    · exact ⟨_, c, e1⟩
  obtain ⟨ga, gc, rfl⟩ := shI
  refine JoinK_i (fun vs w1 => w1 = w ∧ rs ≠ []) ?_ ?_
  rotate_left
  · rw [pnilK_i]
    simp only [Option.isNone_some]
    rw [condK_b, if_neg (by simp), lenK_i, eqK_i]
    refine condK_p (fun e => ?_) fun e => ⟨trivial, fun h => e (len0.2 h)⟩
    have := len0.1 e
    subst this
    exact ⟨by rw [insS, if_pos rfl]; exact hI.sub fun x hx => .inl hx, Mod.refl _ _⟩
  rintro vs _ ⟨rfl, hne⟩ _
  rename World => w
  have hpos : 0 < rs.length := List.length_pos_iff.2 hne
  rw [nilckK_i, faK_i, addr0]
  refine ld1K_i h.c1 ?_
  rw [lenK_i, subK_i]
  have hwl : s.ins.length * 88 ≤ 140737488355328 := by omega
  rw [wrap64 (by omega) (by omega)]
  have key : insS s rs set = ⟨s.done, addI s.ins rs set, s.gone⟩ := by rw [insS, if_neg hne]
  rw [key]
  refine JoinK_i (fun vs w1 => vs = [.bool (lastSet s.ins set)] ∧ Grow w w1) ?_ ?_
  rotate_left
  · rw [geK_i]
    refine condK_p (fun hge => ?_) fun hge => ?_
    · have hip : 0 < s.ins.length := by omega
      rw [nilckK_i, faK_i, addr0]
      refine ld1K_i h.c1 ?_
      have hlt : s.ins.length - 1 < s.ins.length := by omega
      rw [show ((s.ins.length : Int) - 1) = ((s.ins.length - 1 : Nat) : Int) by omega]
      obtain ⟨p, r, rfl, _, hr, hc, rv, sv', pv, rfl, q1, q2, q3⟩ := h.insRd.get hlt
      refine ixK_n hlt ?_
      rw [faK_i, Addr.add_add]
      refine ld1K_i (hc 3 _ rfl) ?_
      refine callK_mono (same_set q2 h2) ?_
      rintro v1 w1 ⟨rfl, g1⟩
      exact ⟨by rw [lastSet, getLast_get hip], g1⟩
    · have : s.ins = [] := List.eq_nil_of_length_eq_zero (by omega)
      exact ⟨by rw [lastSet, this]; rfl, Mod.refl _ _⟩
  rintro vs w3 ⟨rfl, g3⟩ _
  rw [nth_z, List.headD_cons]
  have gd : Grow w w3.drew := g3.trans (Mod.drew _ _)
  have h' := h.grow gd
  have zd := gd.size
  have h1' : RRun (fun x => S x ∧ x < w.heap.size) w3.drew (.slice pl rs.length cl) rs := (h1.old (by decide)).grow gd (by decide) fun _ _ h => h
  have h2' : RSet (fun x => S x ∧ x < w.heap.size) w3.drew sv set := (h2.old (by decide)).grow gd (by decide) fun _ _ h => h
  generalize w3.drew = w4 at gd h' zd h1' h2' ⊢
  cases hls : lastSet s.ins set with
  | true =>
    rw [condK_b, if_pos rfl]
    have hip : 0 < s.ins.length := by
      cases hn : s.ins with
      | nil => rw [lastSet, hn] at hls; cases hls
      | cons a l => simp
    have hlt : s.ins.length - 1 < s.ins.length := by omega
    rcases h'.ins with ⟨e1, _⟩ | ⟨g, c, hh, e1, e2, e3, e4, e5, e6, e7, e8, e9, e10, e11, e12, e13, e14⟩
    · rw [e1] at hip; simp at hip
    simp only [Value.slice.injEq, true_and] at e1
    obtain ⟨rfl, rfl⟩ := e1
    obtain ⟨rv, sv', pv, at1, _, ho, _⟩ := e14.2 _ hlt
    obtain ⟨o1, o2, o3, o4⟩ := ho (by omega)
    have hset : s.ins[s.ins.length - 1].set = set := by
      rw [lastSet, getLast_get hip] at hls
      simpa using hls
    rw [show ((s.ins.length : Int) - 1) = ((s.ins.length - 1 : Nat) : Int) by omega]
    refine drawC_i (fun k x => (k = 14 ∧ x = hh) ∨ (k = 17 ∧ x = g)) ?_
    rw [nilckK_i, faK_i, addr0]
    refine sld1_i ⟨h'.c1, fun j _ e => by rcases e with ⟨_, e⟩ | ⟨_, e⟩; exact e10 e.symm; exact e6 e.symm⟩ ?_
    rw [nilckK_i, faK_i, addr0]
    refine sld1_i ⟨h'.c1, fun j _ e => by rcases e with ⟨_, e⟩ | ⟨_, e⟩; exact e10 e.symm; exact e6 e.symm⟩ ?_
    refine ixK_n hlt ?_
    rw [faK_i, Addr.add_add, addr0]
    refine sld1_i ⟨at1 2 _ rfl, fun j hj e => by rcases e with ⟨rfl, e⟩ | ⟨rfl, e⟩; exact e11 e.symm; exact absurd hj (by decide)⟩ ?_
    have hb2' := hb2 s.ins[s.ins.length - 1] (by simp)
    obtain ⟨v', w5, r1, r2, r3, r4⟩ := OwnR.append (ty := 35) elem_rune o1 h1' (fun _ _ => RRune.one) hb2' (Nat.zero_le _) (by simp only [maxLen]; omega) fun _ _ _ _ h => h
    refine runK_i r1 ⟨(Mod.of_grownBy r3).mono fun x _ e => by rw [o2] at e; cases e; exact .inl ⟨rfl, rfl⟩, ?_⟩
    have m45 : Mod (fun x => x = hh) w4 w5 := (Mod.of_grownBy r3).mono fun x _ e => by rw [o2] at e; cases e; rfl
    have hv1 := OwnR.one r2
    have shv : ∃ h2, v'.ownBlock = some h2 ∧ h2 < w5.heap.size := by
      obtain ⟨a, c', rfl, _, _, hp, hn⟩ := OwnR.shape r2
      cases a with
      | none => have := hn rfl; simp at this; exact (hne this.2).elim
      | some p => obtain ⟨g', rfl, q1, q2, q3⟩ := hp p rfl; exact ⟨g', q3, q2⟩
    obtain ⟨h2n, hv2, hv3⟩ := shv
    have hv4 := r4 h2n hv2
    have zz := m45.size
    have hgs : g < w4.heap.size := by
      have := OwnR.ownB e3 g rfl; exact this.2
    have hdv : ∀ x, dv.ownBlock = some x → x < w4.heap.size := fun x hx => (OwnR.ownB h'.done x hx).2
    have live5 : Live w5 ⟨g, (s.ins.length - 1) * 5 + 2, none⟩ := by
      obtain ⟨_, _, _, _, hl⟩ := OwnR.cellsOf e3 hlt
      exact (hl 2 (by decide)).mod m45 fun e => e11 e.symm
    refine ixK_n hlt ?_
    rw [faK_i, Addr.add_add, addr0]
    refine live5.st hv1.1 hv1.2 ⟨Mod.setCell _ _ _ (.inr ⟨rfl, rfl⟩), ?_⟩
    have m56 := setA w5 g ((s.ins.length - 1) * 5 + 2) v'
    have hnew : ∀ x, h2n = x → x = hh ∨ w4.heap.size ≤ x := by
      rintro x rfl
      rcases hv4 with e | e
      · rw [o2] at e; cases e; exact .inl rfl
      · exact .inr e
    -- the new block's place
    have nC : ¬ C h2n := fun hx => by rcases hnew _ rfl with e | e; exact e9 (e ▸ hx); have := (h'.cf _ hx).2; omega
    have nb2 : h2n ≠ b := fun e => by
      have hbl : b < w4.heap.size := World.block_lt_of_cell? w4 ⟨b, 0, none⟩ h'.c0
      rcases hnew _ rfl with e' | e'
      · exact e10 (e'.symm.trans e)
      · omega
    have ng2 : h2n ≠ g := fun e => by
      rcases hnew _ rfl with e' | e'
      · exact e11 (e'.symm.trans e)
      · omega
    have nd2 : dv.ownBlock ≠ some h2n := fun e => by
      have := hdv _ e
      rcases hnew _ rfl with e' | e'
      · rw [e'] at e; exact e12 e
      · omega
    have mm : Mod (fun x => x = hh ∨ x = g) w4 (w5.setCell ⟨g, (s.ins.length - 1) * 5 + 2, none⟩ v') := (m45.mono fun _ _ e => .inl e).trans (m56.mono fun _ _ e => .inr e)
    have hbne : ¬ (b = hh ∨ b = g) := by rintro (e | e); exact e10 e.symm; exact e6 e.symm
    have hCne : ∀ x, C x → ¬ (x = hh ∨ x = g) := by rintro x hx (rfl | rfl); exact e9 hx; exact e5 hx
    have r2' : OwnR 0 21 1 RRune (w5.setCell ⟨g, (s.ins.length - 1) * 5 + 2, none⟩ v') v' (s.ins[s.ins.length - 1].runes ++ rs) := OwnR.mod r2 m56 (fun x hx e => by rw [hv2] at hx; cases hx; exact ng2 e) fun _ _ _ h => h
    have eadd : addI s.ins rs set = s.ins.set (s.ins.length - 1) ⟨s.ins[s.ins.length - 1].kind, s.ins[s.ins.length - 1].n, s.ins[s.ins.length - 1].runes ++ rs, s.ins[s.ins.length - 1].set, s.ins[s.ins.length - 1].patch⟩ := by
      unfold addI
      rw [getLast_get hip]
      simp only [hset, if_true]
    have oA := OwnR.setAny (OwnR.mod e3 m45 (fun x hx e => by simp only [Value.ownBlock, Option.some.injEq] at hx; exact e11 (e.symm.trans hx.symm)) fun _ _ _ _ => trivial) hlt (show 2 < 5 by decide) hv1.1
    refine ⟨⟨dv, _, C, some h2n, mm.cell h'.c0 hbne, mm.cell h'.c1 hbne, mm.cell h'.c2 hbne, fun q hq => (h'.lv q hq).mod mm hbne, .inl h'.fb, h'.nb, fun x hx => ⟨.inl (h'.cf x hx).1, Nat.lt_of_lt_of_le (h'.cf x hx).2 mm.size⟩,
      OwnR.mod h'.done mm (fun x hx e => by rcases e with rfl | rfl; exact e12 hx; exact e7 hx) fun r x _ hx => hx.cmod mm hCne, fun x hx => ⟨.inl (h'.dF x hx).1, (h'.dF x hx).2⟩, .inr ⟨g, gc, h2n, ?_, rfl, ?_, .inl e4, e5, e6, e7, ?_, nC, nb2, ng2, nd2, ?_, ?_⟩⟩, ?_⟩
    · rw [eadd, List.length_set]
    · exact OwnR.len oA _ (by rw [eadd, List.length_set])
    · rcases hnew _ rfl with e | e
      · exact .inl (e ▸ e8)
      · exact .inr (by omega)
    · rw [World.size_setCell]; exact hv3
    · rw [eadd]
      refine ⟨by rw [List.length_set]; exact hip, fun j hj => ?_⟩
      rw [List.length_set] at hj
      obtain ⟨rv', sv2, pv2, a1, a2, a3, a4⟩ := e14.2 j hj
      by_cases hjl : j = s.ins.length - 1
      · subst hjl
        have hrow : OpAt w5 g (s.ins.length - 1) s.ins[s.ins.length - 1] rv sv' pv := at1.mod m45 fun e => e11 e.symm
        refine ⟨v', sv', pv, fun q u hu => ?_, ?_, fun _ => ?_, fun e => by rw [List.length_set] at e; omega⟩
        · rw [List.getElem_set_self] at hu
          have hq := (List.getElem?_eq_some_iff.1 hu).1
          simp only [List.length_cons, List.length_nil] at hq
          by_cases h2q : q = 2
          · subst h2q
            simp only [List.getElem?_cons_succ, List.getElem?_cons_zero, Option.some.injEq] at hu; subst hu
            obtain ⟨u', hu'⟩ := Option.isSome_iff_exists.1 live5.1
            exact World.cell?_setCell_same _ _ _ hu'
          · rw [World.cell?_setCell_other _ _ _ _ (by intro e; simp only [Addr.mk.injEq] at e; omega)]
            refine hrow q u ?_
            rw [← hu]
            match q, hq, h2q with
            | 0, _, _ => rfl
            | 1, _, _ => rfl
            | 3, _, _ => rfl
            | 4, _, _ => rfl
        · rw [List.getElem_set_self]
          refine ⟨v', sv', pv, rfl, ?_, ?_, ?_⟩
          · exact own_rd (by decide) ⟨r2', fun x hx => .inr (by rw [hv2] at hx; exact (Option.some.inj hx).symm)⟩
          · exact o3.mono (fun _ _ hx => .inl hx) (fun x hb hx => mm.same x hb (hCne x hx)) (by decide) fun _ _ h => h
          · exact o4.mono (fun _ _ hx => .inl hx) (fun x hb hx => mm.same x hb (hCne x hx)) (by decide) fun _ _ h => h
        · rw [List.getElem_set_self]
          exact ⟨r2', hv2, o3.mono (fun _ _ hx => hx) (fun x hb hx => mm.same x hb (hCne x hx)) (by decide) fun _ _ h => h, o4.mono (fun _ _ hx => hx) (fun x hb hx => mm.same x hb (hCne x hx)) (by decide) fun _ _ h => h⟩
      · have hjc := (a4 (by omega)).cmod mm hCne
        refine ⟨rv', sv2, pv2, fun q u hu => ?_, ?_, fun e => by rw [List.length_set] at e; omega, fun _ => ?_⟩
        · rw [List.getElem_set_ne (by omega)] at hu
          have hq := (List.getElem?_eq_some_iff.1 hu).1
          simp only [List.length_cons, List.length_nil] at hq
          rw [World.cell?_setCell_other _ _ _ _ (by intro e; simp only [Addr.mk.injEq] at e; omega)]
          exact m45.cell (a1 q u hu) fun e => e11 e.symm
        · rw [List.getElem_set_ne (by omega)]
          exact hjc.mod (Mod.refl (fun _ => False) _) (fun _ _ _ h => h) fun _ _ hx => .inl hx
        · rw [List.getElem_set_ne (by omega)]; exact hjc
    · refine (Grow.mod gd).trans (mm.mono fun x _ e => ?_)
      rcases e with rfl | rfl
      · exact e8
      · exact e4
  | false =>
    rw [condK_b, if_neg (by simp)]
    have eadd : addI s.ins rs set = s.ins ++ [⟨2, 0, rs, set, []⟩] := by
      unfold addI
      unfold lastSet at hls
      cases hl : s.ins.getLast? with
      | none => rfl
      | some o => rw [hl] at hls; simp only [decide_eq_false_iff_not] at hls; simp only; rw [if_neg hls]
    have hbl : b < w4.heap.size := World.block_lt_of_cell? w4 ⟨b, 0, none⟩ h'.c0
    have hivb : (Value.slice ga s.ins.length gc).ownBlock ≠ some b ∧ (∀ g, (Value.slice ga s.ins.length gc).ownBlock = some g → F g ∧ ¬ C g ∧ g ≠ b ∧ dv.ownBlock ≠ some g ∧ hot ≠ some g ∧ g < w4.heap.size) := by
      rcases h'.ins with ⟨e1, e2, _⟩ | ⟨g, c, hh, e1, e2, e3, e4, e5, e6, e7, e8, e9, e10, e11, _⟩
      · simp only [Value.slice.injEq] at e2
        obtain ⟨rfl, _⟩ := e2
        exact ⟨fun h => (nomatch h), fun g h => (nomatch h)⟩
      · simp only [Value.slice.injEq, true_and] at e1
        obtain ⟨rfl, rfl⟩ := e1
        refine ⟨fun e => by simp only [Value.ownBlock, Option.some.injEq] at e; exact e6 e, fun g' e => ?_⟩
        simp only [Value.ownBlock, Option.some.injEq] at e; subst e
        exact ⟨e4, e5, e6, e7, fun e => by rw [e2] at e; cases e; exact e11 rfl, (OwnR.ownB e3 _ rfl).2⟩
    obtain ⟨hivb, hiv⟩ := hivb
    have hhot : ∀ x, hot = some x → F x ∧ ¬ C x ∧ x ≠ b ∧ dv.ownBlock ≠ some x ∧ x < w4.heap.size := by
      intro x hx
      rcases h'.ins with ⟨_, _, e⟩ | ⟨g, c, hh, e1, e2, e3, e4, e5, e6, e7, e8, e9, e10, e11, e12, e13, _⟩
      · rw [e] at hx; cases hx
      · rw [e2] at hx; cases hx; exact ⟨e8, e9, e10, e12, e13⟩
    refine drawC_i (fun k x => (k = 11 ∧ (Value.slice ga s.ins.length gc).ownBlock = some x) ∨ (k = 14 ∧ x = b)) ?_
    rw [nilckK_i, faK_i, addr0]
    refine sld1_i ⟨h'.c1, fun j hj e => by rcases e with ⟨_, e⟩ | ⟨rfl, _⟩; exact hivb e; exact absurd hj (by decide)⟩ ?_
    refine callK_mono (clone_run h1' hb3) ?_
    rintro t1 w5 ⟨n1, g5⟩
    refine ⟨Grow.mod g5, ?_⟩
    refine callK_mono (copy_set (h2'.grow g5 (by decide) fun _ _ h => h) hb4) ?_
    rintro t2 w6 ⟨n2, g6⟩
    refine ⟨Grow.mod g6, ?_⟩
    have g46 := g5.trans g6
    have z5 := g5.size
    have z6 := g6.size
    have h6 := h'.grow g46
    have n1' : OwnR w4.heap.size 21 1 RRune w6 t1 rs := OwnR.mod n1 g6 (fun _ _ h => h) fun _ _ _ h => h
    obtain ⟨sa1, sc1, hsv1, _, _, hp1, hn1⟩ := OwnR.shape n1'
    obtain ⟨sa2, sc2, hsv2, _⟩ := OwnR.shape n2
    refine ⟨#[.int .u8 2, .int .i64 0, t1, t2, .slice none 0 0], by subst hsv1; subst hsv2; kernel_rfl, ?_⟩
    have hn : ∃ h2n, t1.ownBlock = some h2n ∧ w4.heap.size ≤ h2n ∧ h2n < w6.heap.size := by
      cases sa1 with
      | none => exact (hne (hn1 rfl)).elim
      | some p => obtain ⟨g', _, q1, q2, q3⟩ := hp1 p rfl; exact ⟨g', q3, q1, q2⟩
    obtain ⟨h2n, hv2, hv3, hv4⟩ := hn
    -- rows: the old ones are only read from here on
    let C2 : Nat → Prop := fun x => (C x ∨ hot = some x) ∧ x < w4.heap.size
    let C' : Nat → Prop := fun x => C2 x ∨ t2.ownBlock = some x
    let R : World → List Value → Dop × Bool → Prop := fun W r x => match x.2 with
      | false => RDop C2 W r x.1
      | true => r = row5 x.1 t1 t2 (.slice none 0 0) ∧ OwnR 0 21 1 RRune W t1 x.1.runes ∧ RSet (fun x => t2.ownBlock = some x) W t2 x.1.set ∧ x.1.patch = []
    have hone : ∀ W r y, R W r y → ∀ u ∈ r, u.oneCell' = true := by
      rintro W r ⟨o, t⟩ hy
      cases t with
      | false => exact RDop.one hy
      | true =>
        obtain ⟨rfl, _⟩ := hy
        intro u hu
        simp only [List.mem_cons, List.not_mem_nil, or_false] at hu
        rcases hu with rfl | rfl | rfl | rfl | rfl
        · rfl
        · rfl
        · rw [hsv1]; rfl
        · rw [hsv2]; rfl
        · rfl
    have o6 : OwnR 0 TOp 5 R w6 (.slice ga s.ins.length gc) (s.ins.map fun o => (o, false)) := by
      rcases h6.ins with ⟨e1, e2, _⟩ | ⟨g, c, hh, e1, e2, e3, e4, e5, e6, e7, e8, e9, e10, e11, e12, e13, e14⟩
      · rw [e1] at e2 ⊢; rw [e2]; exact OwnR.nil
      · simp only [Value.slice.injEq, true_and] at e1
        obtain ⟨rfl, rfl⟩ := e1
        refine OwnR.conv (OwnR.len e3 (s.ins.map fun o => (o, false)) (by simp)) fun j hj r hr hone hcl => ?_
        have hj' : j < s.ins.length := by simpa using hj
        obtain ⟨rv, sv0, pv, q1, q2, _, _⟩ := e14.2 j hj'
        have e : r = row5 s.ins[j] rv sv0 pv := by
          refine List.ext_getElem? fun q => ?_
          by_cases hq : q < 5
          · have h1 : r[q]? = some r[q] := List.getElem?_eq_getElem (by omega)
            have h2 : (row5 s.ins[j] rv sv0 pv)[q]? = some (row5 s.ins[j] rv sv0 pv)[q] := List.getElem?_eq_getElem (by simpa using hq)
            have h3 := hcl q _ h1
            rw [q1 q _ h2] at h3
            rw [h1, h2, h3]
          · rw [List.getElem?_eq_none (by omega), List.getElem?_eq_none (by simp; omega)]
        subst e
        rw [List.getElem_map]
        refine q2.mod (Mod.refl (fun _ => False) _) (fun _ _ _ h => h) fun x hx hc => ?_
        rcases hc with hc | hc
        · exact ⟨.inl hc, (h'.cf x hc).2⟩
        · subst hc; exact ⟨.inr e2, (hhot _ e2).2.2.2.2⟩
    have pst : ∀ W1 W2 r y, w6.heap.size ≤ W1.heap.size → Mod (fun x => (Value.slice ga s.ins.length gc).ownBlock = some x ∨ w6.heap.size ≤ x) W1 W2 → R W1 r y → R W2 r y := by
      rintro W1 W2 r ⟨o, t⟩ hz hm hy
      cases t with
      | false =>
        refine RDop.mod hy hm (fun x _ hx e => ?_) fun _ _ h => h
        rcases e with e | e
        · obtain ⟨_, q2, _, _, q5, _⟩ := hiv x e
          rcases hx.1 with hc | hc
          · exact q2 hc
          · exact q5 hc
        · have := hx.2; omega
      | true =>
        obtain ⟨q1, q2, q3, q4⟩ := hy
        refine ⟨q1, OwnR.mod q2 hm (fun x hx e => ?_) fun _ _ _ h => h, q3.mono (fun _ _ h => h) (fun x hb hx => hm.same x hb fun e => ?_) (by decide) fun _ _ h => h, q4⟩
        · rw [hv2] at hx; cases hx
          rcases e with e | e
          · have := (hiv _ e).2.2.2.2.2; omega
          · omega
        · have h1 := OwnR.ownB n2 x hx
          rcases e with e | e
          · have := (hiv _ e).2.2.2.2.2; omega
          · omega
    refine push_g2 elem_dop o6 (Nat.zero_le _) (cs := row5 ⟨2, 0, rs, set, []⟩ t1 t2 (.slice none 0 0)) (x := ((⟨2, 0, rs, set, []⟩ : Dop), true)) (by subst hsv1; subst hsv2; kernel_rfl) rfl ⟨rfl, OwnR.base n1' fun _ _ => Nat.zero_le _, SlR.sub (OwnR.sl n2) (fun x _ hx => hx.2) (by decide) fun _ _ h => h, rfl⟩ hone pst (by simpa using hb1) (by simp only [List.length_map, maxLen]; omega) (fun _ g => Grow.mod g) fun w6' v' w7 o7 m6' m7 f7 => ?_
    refine ⟨m6'.mono fun x _ e => .inl ⟨rfl, e⟩, ?_⟩
    have z7 := m7.size
    have hv7 := OwnR.one o7
    obtain ⟨va, vc, rfl, _, _, hvp, hvn⟩ := OwnR.shape o7
    cases va with
    | none => have := hvn rfl; simp at this
    | some vp =>
    obtain ⟨g7, rfl, _, hg7, hown7⟩ := hvp _ rfl
    have ln7 : (s.ins.map (fun o => (o, false)) ++ [((⟨2, 0, rs, set, []⟩ : Dop), true)]).length = (addI s.ins rs set).length := by rw [eadd]; simp
    have hg7' := f7 g7 rfl
    have bne : ¬ (Value.slice ga s.ins.length gc).ownBlock = some b := hivb
    have Cne : ∀ x, C x → ¬ (Value.slice ga s.ins.length gc).ownBlock = some x := fun x hx e => (hiv x e).2.1 hx
    have h47 : MkR F w7 b s dv (.slice ga s.ins.length gc) C hot → True := fun _ => trivial
    have l7 : ∀ q, q < 3 → Live w7 ⟨b, q, none⟩ := fun q hq => (h6.lv q hq).mod m7 bne
    rw [nilckK_i, faK_i, addr0]
    refine (l7 1 (by decide)).st hv7.1 hv7.2 ⟨Mod.setCell _ _ _ (.inr ⟨rfl, rfl⟩), ?_⟩
    have m78 := setA w7 b 1 (Value.slice (some ⟨g7, 0, none⟩) (s.ins.map (fun o => (o, false)) ++ [((⟨2, 0, rs, set, []⟩ : Dop), true)]).length vc)
    have oth : ∀ q, q ≠ 1 → (⟨b, 1, none⟩ : Addr) ≠ ⟨b, q, none⟩ := fun q hq e => by simp only [Addr.mk.injEq] at e; omega
    obtain ⟨u1, hu1⟩ := Option.isSome_iff_exists.1 (l7 1 (by decide)).1
    have c8 : ∀ q u, q ≠ 1 → w6.cell? ⟨b, q, none⟩ = some u → (w7.setCell ⟨b, 1, none⟩ (Value.slice (some ⟨g7, 0, none⟩) (s.ins.map (fun o => (o, false)) ++ [((⟨2, 0, rs, set, []⟩ : Dop), true)]).length vc)).cell? ⟨b, q, none⟩ = some u := fun q u hq hu => (World.cell?_setCell_other _ _ _ _ (oth q hq)).trans (m7.cell hu bne)
    have c81 := World.cell?_setCell_same w7 ⟨b, 1, none⟩ (Value.slice (some ⟨g7, 0, none⟩) (s.ins.map (fun o => (o, false)) ++ [((⟨2, 0, rs, set, []⟩ : Dop), true)]).length vc) hu1
    have lv8 : ∀ q, q < 3 → Live (w7.setCell ⟨b, 1, none⟩ (Value.slice (some ⟨g7, 0, none⟩) (s.ins.map (fun o => (o, false)) ++ [((⟨2, 0, rs, set, []⟩ : Dop), true)]).length vc)) ⟨b, q, none⟩ := fun q hq => (l7 q hq).set _ _
    -- the blocks that the new rows do not lie in
    have hdv : ∀ x, dv.ownBlock = some x → x < w4.heap.size := fun x hx => (OwnR.ownB h'.done x hx).2
    have g7b : g7 ≠ b := fun e => by rcases hg7' with h | h; exact bne (e ▸ h); omega
    have g7C : ¬ C' g7 := by
      rintro (⟨hx | hx, hlt⟩ | hx)
      · rcases hg7' with h | h
        · exact (hiv _ h).2.1 hx
        · omega
      · rcases hg7' with h | h
        · exact (hiv _ h).2.2.2.2.1 hx
        · omega
      · have := OwnR.ownB n2 _ hx
        rcases hg7' with h | h
        · have := (hiv _ h).2.2.2.2.2; omega
        · omega
    have g7d : dv.ownBlock ≠ some g7 := fun e => by
      rcases hg7' with h | h
      · exact (hiv _ h).2.2.2.1 e
      · have := hdv _ e; omega
    have C'b : ∀ x, C' x → ¬ x = b := by
      rintro x (⟨hx | hx, hlt⟩ | hx) e
      · exact h'.nb (e ▸ hx)
      · exact (hhot x hx).2.2.1 e
      · have := OwnR.ownB n2 _ hx; omega
    have h2C : ¬ C' h2n := by
      rintro (⟨_, hlt⟩ | hx)
      · omega
      · have := OwnR.ownB n2 _ hx; have := (OwnR.ownB (OwnR.mod n1 (Mod.refl (fun _ => False) _) (fun _ _ h => h) fun _ _ _ h => h) _ hv2).2; omega
    have Cd : ∀ x, C x → C' x := fun x hx => .inl ⟨.inl hx, (h'.cf x hx).2⟩
    have o8 : OwnR 0 TOp 5 R (w7.setCell ⟨b, 1, none⟩ (Value.slice (some ⟨g7, 0, none⟩) (s.ins.map (fun o => (o, false)) ++ [((⟨2, 0, rs, set, []⟩ : Dop), true)]).length vc)) (Value.slice (some ⟨g7, 0, none⟩) (s.ins.map (fun o => (o, false)) ++ [((⟨2, 0, rs, set, []⟩ : Dop), true)]).length vc) (s.ins.map (fun o => (o, false)) ++ [((⟨2, 0, rs, set, []⟩ : Dop), true)]) := by
      refine OwnR.mod o7 m78 (fun x hx e => ?_) fun r y _ hy => ?_
      · simp only [Value.ownBlock, Option.some.injEq] at hx; subst hx; exact g7b e
      · obtain ⟨o, t⟩ := y
        cases t with
        | false => exact RDop.mod hy m78 (fun x _ hx e => C'b x (.inl hx) e) fun _ _ h => h
        | true =>
          obtain ⟨q1, q2, q3, q4⟩ := hy
          refine ⟨q1, OwnR.mod q2 m78 (fun x hx e => ?_) fun _ _ _ h => h, q3.mono (fun _ _ h => h) (fun x hb hx => m78.same x hb fun e => C'b x (.inr hx) e) (by decide) fun _ _ h => h, q4⟩
          rw [hv2] at hx; cases hx; omega
    generalize hW : w7.setCell ⟨b, 1, none⟩ (Value.slice (some ⟨g7, 0, none⟩) (s.ins.map (fun o => (o, false)) ++ [((⟨2, 0, rs, set, []⟩ : Dop), true)]).length vc) = W at m78 c8 c81 lv8 o8 ⊢
    have z8 := m78.size
    have m68 : Mod (fun x => (Value.slice ga s.ins.length gc).ownBlock = some x ∨ x = b) w6 W := (m7.mono fun _ _ e => .inl e).trans (m78.mono fun _ _ e => .inr e)
    have Cm : ∀ x, C x → ¬ ((Value.slice ga s.ins.length gc).ownBlock = some x ∨ x = b) := by
      rintro x hx (e | e)
      · exact Cne x hx e
      · exact h'.nb (e ▸ hx)
    refine ⟨⟨dv, _, C', some h2n, c8 0 _ (by decide) h6.c0, c81, c8 2 _ (by decide) h6.c2, lv8, .inl h'.fb, fun hx => C'b b hx rfl, ?_, ?_, fun x hx => ⟨.inl (h'.dF x hx).1, ?_, (h'.dF x hx).2.2⟩, .inr ⟨g7, vc, h2n, ?_, rfl, ?_, ?_, g7C, g7b, g7d, .inr (by omega), h2C, by omega, ?_, ?_, by omega, ?_⟩⟩, ?_⟩
    · rintro x (⟨hx | hx, hlt⟩ | hx)
      · exact ⟨.inl (h'.cf x hx).1, by omega⟩
      · exact ⟨.inl (hhot x hx).1, by omega⟩
      · have := OwnR.ownB n2 _ hx; exact ⟨.inr (by omega), by omega⟩
    · refine OwnR.mod h6.done m68 (fun x hx e => ?_) fun r x _ hx => (hx.cmod m68 Cm).mod (Mod.refl (fun _ => False) _) (fun _ _ _ h => h) fun y _ hy => Cd y hy
      rcases e with e | e
      · exact (hiv _ e).2.2.2.1 hx
      · exact (h'.dF x hx).2.2 e
    · rintro (⟨hc | hc, hlt⟩ | hc)
      · exact (h'.dF x hx).2.1 hc
      · exact (hhot x hc).2.2.2.1 hx
      · have := OwnR.ownB n2 _ hc; have := hdv x hx; omega
    · rw [ln7]
    · exact OwnR.len o8 _ ln7.symm
    · rcases hg7' with h | h
      · exact .inl (hiv _ h).1
      · exact .inr (by omega)
    · intro e
      rcases hg7' with h | h
      · have := (hiv _ h).2.2.2.2.2; omega
      · omega
    · intro e; have := hdv _ e; omega
    · rw [eadd]
      refine ⟨by simp, fun j hj => ?_⟩
      have hjL : j < (s.ins.map (fun o => (o, false)) ++ [((⟨2, 0, rs, set, []⟩ : Dop), true)]).length := by simpa using hj
      obtain ⟨r, hr, hcl, hR, _⟩ := OwnR.cellsOf o8 hjL
      by_cases hjl : j < s.ins.length
      · have e1 : (s.ins.map (fun o => (o, false)) ++ [((⟨2, 0, rs, set, []⟩ : Dop), true)])[j] = (s.ins[j], false) := by
          rw [List.getElem_append_left (by simpa using hjl)]; simp
        have e2 : (s.ins ++ [(⟨2, 0, rs, set, []⟩ : Dop)])[j] = s.ins[j] := by rw [List.getElem_append_left hjl]
        rw [e1] at hR
        have hR' : RDop C2 W r s.ins[j] := hR
        obtain ⟨rv, sv0, pv, rfl, p1, p2, p3⟩ := hR'
        rw [e2]
        have rd : RDop C' W (row5 s.ins[j] rv sv0 pv) s.ins[j] := RDop.mod (D := C2) ⟨rv, sv0, pv, rfl, p1, p2, p3⟩ (Mod.refl (fun _ => False) _) (fun _ _ _ h => h) fun x _ hx => .inl hx
        refine ⟨rv, sv0, pv, hcl, rd.mod (Mod.refl (fun _ => False) _) (fun _ _ _ h => h) fun x _ hx => .inl hx, fun e => ?_, fun _ => rd⟩
        simp at e; omega
      · have hje : j = s.ins.length := by simp at hj; omega
        subst hje
        have e1 : (s.ins.map (fun o => (o, false)) ++ [((⟨2, 0, rs, set, []⟩ : Dop), true)])[s.ins.length] = ((⟨2, 0, rs, set, []⟩ : Dop), true) := by
          rw [List.getElem_append_right (by simp)]; simp
        have e2 : (s.ins ++ [(⟨2, 0, rs, set, []⟩ : Dop)])[s.ins.length] = (⟨2, 0, rs, set, []⟩ : Dop) := by rw [List.getElem_append_right (by simp)]; simp
        rw [e1] at hR
        obtain ⟨rfl, q2, q3, q4⟩ := hR
        rw [e2]
        refine ⟨t1, t2, .slice none 0 0, hcl, ⟨t1, t2, .slice none 0 0, rfl, ?_, ?_, SlR.nil⟩, fun _ => ⟨q2, hv2, ?_, SlR.nil⟩, fun e => by simp at e⟩
        · exact own_rd (by decide) ⟨q2, fun x hx => .inr (by rw [hv2] at hx; exact (Option.some.inj hx).symm)⟩
        · exact SlR.sub q3 (fun x _ hx => .inl (.inr hx)) (by decide) fun _ _ h => h
        · exact SlR.sub q3 (fun x _ hx => .inr hx) (by decide) fun _ _ h => h
    · refine ((Grow.mod gd).trans (Grow.mod g46)).trans (m68.mono fun x _ e => ?_)
      rcases e with e | e
      · exact (hiv _ e).1
      · rw [e]; exact h'.fb
end Go.Proofs.YtlbaopamhkmepaaGreatDoor

namespace Go.Proofs.YtlbaopamhkmepaaGreatDoor
open Go Go.K

theorem set3 (W : World) (b : Nat) (u0 u1 u2 : Value) (l : ∀ q, q < 3 → Live W ⟨b, q, none⟩) : ∀ W', W' = ((W.setCell ⟨b, 0, none⟩ u0).setCell ⟨b, 1, none⟩ u1).setCell ⟨b, 2, none⟩ u2 → Mod (fun x => x = b) W W' ∧ W'.cell? ⟨b, 0, none⟩ = some u0 ∧ W'.cell? ⟨b, 1, none⟩ = some u1 ∧ W'.cell? ⟨b, 2, none⟩ = some u2 ∧ (∀ q, q < 3 → Live W' ⟨b, q, none⟩) := by
  rintro W' rfl
  have ne : ∀ q q', q ≠ q' → (⟨b, q, none⟩ : Addr) ≠ ⟨b, q', none⟩ := fun q q' hq e => by simp only [Addr.mk.injEq] at e; omega
  have m1 := setA W b 0 u0
  have m2 := setA (W.setCell ⟨b, 0, none⟩ u0) b 1 u1
  have m3 := setA ((W.setCell ⟨b, 0, none⟩ u0).setCell ⟨b, 1, none⟩ u1) b 2 u2
  refine ⟨(m1.trans m2).trans m3, ?_, ?_, ?_, fun q hq => (((l q hq).set _ _).set _ _).set _ _⟩
  · obtain ⟨u, hu⟩ := Option.isSome_iff_exists.1 (l 0 (by decide)).1
    rw [World.cell?_setCell_other _ _ _ _ (ne 2 0 (by decide)), World.cell?_setCell_other _ _ _ _ (ne 1 0 (by decide))]
    exact World.cell?_setCell_same _ _ _ hu
  · obtain ⟨u, hu⟩ := Option.isSome_iff_exists.1 ((l 1 (by decide)).set ⟨b, 0, none⟩ u0).1
    rw [World.cell?_setCell_other _ _ _ _ (ne 2 1 (by decide))]
    exact World.cell?_setCell_same _ _ _ hu
  · obtain ⟨u, hu⟩ := Option.isSome_iff_exists.1 (((l 2 (by decide)).set ⟨b, 0, none⟩ u0).set ⟨b, 1, none⟩ u1).1
    exact World.cell?_setCell_same _ _ _ hu
def lastPat (d : List Dop) (p : List Chg) : Bool := match d.getLast? with | some o => decide (o.kind = 1 ∧ o.patch = p) | none => false
theorem retain_ok {F S : Nat → Prop} {w : World} {b : Nat} {s : MkS} {n : Int} {pv : Value} {p : List Chg} (h : MkI F w b s) (h1 : RPat S w pv p) (hS : ∀ x, S x → ¬ F x)
    (hb1 : s.done.length + s.ins.length + 2 ≤ 1099511627776) (hb2 : p.length * 56 ≤ 140737488355328) :
    callK Tryz.prog 76 [.pointer (some ⟨b, 0, none⟩), .int .i64 n, pv] (fun _ w' => MkI (fun x => F x ∨ w.heap.size ≤ x) w' b (retS s n p) ∧ Mod F w w') w := by
  apply S76_ok
  unfold S76
  have hI := h
  have hb3 : (s.ins.length + 1) * 88 ≤ 140737488355328 := by omega
  obtain ⟨dv, iv, C, hot, h⟩ := h
  refine JoinK_i (fun vs w1 => w1 = w ∧ ¬ n < 1) ?_ ?_
  rotate_left
  · rw [pnilK_i]
    simp only [Option.isNone_some]
    rw [condK_b, if_neg (by simp), ltK_i]
    refine condK_p (fun e => ?_) fun e => ⟨trivial, e⟩
    exact ⟨by rw [retS, if_pos e]; exact hI.sub fun x hx => .inl hx, Mod.refl _ _⟩
  rintro vs _ ⟨rfl, hn⟩ _
  rename World => w
  have key : retS s n p = ⟨putS (s.done ++ gapL s.ins s.gone) n p, [], 0⟩ := by rw [retS, if_neg hn]
  rw [key]
  have gl : (gapL s.ins s.gone).length ≤ s.ins.length + 1 := by unfold gapL; split <;> simp
  have gd : Grow w w.drew := Mod.drew _ _
  have h' := h.grow gd
  have zd : w.drew.heap.size = w.heap.size := rfl
  have h1' : RPat (fun x => S x ∧ x < w.heap.size) w.drew pv p := (h1.old (by decide)).grow gd (by decide) fun _ _ h => h
  have hbl : b < w.drew.heap.size := World.block_lt_of_cell? w.drew ⟨b, 0, none⟩ h'.c0
  have hdv : ∀ x, dv.ownBlock = some x → x < w.drew.heap.size := fun x hx => (OwnR.ownB h'.done x hx).2
  have hhot : ∀ x, hot = some x → F x ∧ ¬ C x ∧ x ≠ b ∧ dv.ownBlock ≠ some x ∧ x < w.drew.heap.size := by
    intro x hx
    rcases h'.ins with ⟨_, _, e⟩ | ⟨g, c, hh, e1, e2, e3, e4, e5, e6, e7, e8, e9, e10, e11, e12, e13, _⟩
    · rw [e] at hx; cases hx
    · rw [e2] at hx; cases hx; exact ⟨e8, e9, e10, e12, e13⟩
  rw [← zd]
  generalize w.drew = w4 at gd h' zd h1' hbl hdv hhot ⊢
  have dvb : dv.ownBlock ≠ some b := fun e => (h'.dF b e).2.2 rfl
  let C1 : Nat → Prop := fun x => (C x ∨ hot = some x) ∧ x < w4.heap.size
  have C1b : ¬ C1 b := by
    rintro ⟨hx | hx, _⟩
    · exact h'.nb hx
    · exact (hhot b hx).2.2.1 rfl
  have C1d : ∀ x, dv.ownBlock = some x → ¬ C1 x := by
    rintro x hx ⟨hc | hc, _⟩
    · exact (h'.dF x hx).2.1 hc
    · exact (hhot x hc).2.2.2.1 hx
  have C1F : ∀ x, C1 x → F x := by
    rintro x ⟨hc | hc, _⟩
    · exact (h'.cf x hc).1
    · exact (hhot x hc).1
  refine drawC_i (fun k x => (k = 7 ∧ dv.ownBlock = some x) ∨ (k = 10 ∧ x = b)) ?_
  rw [nilckK_i, faK_i, addr0]
  refine sld1_i ⟨h'.c0, fun j hj e => by rcases e with ⟨_, e⟩ | ⟨rfl, _⟩; exact dvb e; exact absurd hj (by decide)⟩ ?_
  refine callK_mono (gap_ok h' hb3) ?_
  rintro v5 w5 ⟨o5, g5⟩
  refine ⟨Grow.mod g5, ?_⟩
  have h5 := h'.grow g5
  have z5 := g5.size
  have d5 : OwnR 0 TOp 5 (RDop C1) w5 dv s.done := OwnR.mod h5.done (Mod.refl (fun _ => False) _) (fun _ _ h => h) fun r x _ hx => hx.mod (Mod.refl (fun _ => False) _) (fun _ _ _ h => h) fun y _ hy => ⟨.inl hy, (h'.cf y hy).2⟩
  obtain ⟨v6, w6, r1, o6, r3, r4⟩ := OwnR.append (ty := 31) elem_dop d5 (OwnR.sl o5) (fun _ _ => RDop.one) (by omega) (Nat.zero_le _) (by simp only [maxLen]; omega) fun w' hg r y hy => hy.mod (Mod.of_grownBy hg) (fun x _ hx e => C1d x e hx) fun _ _ h => h
  have m56 : Mod (fun x => dv.ownBlock = some x) w5 w6 := Mod.of_grownBy r3
  refine runK_i r1 ⟨m56.mono fun x _ e => .inl ⟨rfl, e⟩, ?_⟩
  have z6 := m56.size
  have hv6 := OwnR.one o6
  have l6 : ∀ q, q < 3 → Live w6 ⟨b, q, none⟩ := fun q hq => (h5.lv q hq).mod m56 dvb
  have own6 : ∀ x, v6.ownBlock = some x → dv.ownBlock = some x ∨ w4.heap.size ≤ x := fun x hx => by rcases r4 x hx with h | h; exact .inl h; exact .inr (by omega)
  rw [nilckK_i, faK_i, addr0]
  refine (l6 0 (by decide)).st hv6.1 hv6.2 ⟨Mod.setCell _ _ _ (.inr ⟨rfl, rfl⟩), ?_⟩
  rw [nilckK_i, faK_i, addr0]
  refine ((l6 1 (by decide)).set _ _).st rfl rfl ?_
  rw [nilckK_i, faK_i, addr0]
  refine (((l6 2 (by decide)).set _ _).set _ _).st rfl rfl ?_
  generalize hW7 : ((w6.setCell ⟨b, 0, none⟩ v6).setCell ⟨b, 1, none⟩ (.slice none 0 0)).setCell ⟨b, 2, none⟩ (.int .i64 0) = w7
  obtain ⟨m67, cell0, cell1, cell2, l7⟩ := set3 w6 b v6 (.slice none 0 0) (.int .i64 0) l6 w7 hW7.symm
  clear hW7
  have z7 := m67.size
  let F1 : Nat → Prop := fun x => F x ∨ w4.heap.size ≤ x
  have v6b : v6.ownBlock ≠ some b := fun e => by rcases own6 b e with h | h; exact dvb h; omega
  have d7 : OwnR 0 TOp 5 (RDop C1) w7 v6 (s.done ++ gapL s.ins s.gone) := OwnR.mod o6 m67 (fun x hx e => v6b (e ▸ hx)) fun r x _ hx => hx.cmod m67 fun y hy e => C1b (e ▸ hy)
  have K7 : MkR F1 w7 b ⟨s.done ++ gapL s.ins s.gone, [], 0⟩ v6 (.slice none 0 0) C1 none := by
    refine ⟨cell0, cell1, cell2, l7, .inl h'.fb, C1b, fun x hx => ⟨.inl (C1F x hx), by have := hx.2; omega⟩, d7, fun x hx => ⟨?_, ?_, fun e => v6b (e ▸ hx)⟩, .inl ⟨rfl, rfl, rfl⟩⟩
    · rcases own6 x hx with h | h
      · exact .inl (h'.dF x h).1
      · exact .inr h
    · intro hc
      rcases own6 x hx with h | h
      · exact C1d x h hc
      · have := hc.2; omega
  have m47 : Mod F w4 w7 := ((Grow.mod g5).trans (m56.mono fun x _ e => (h'.dF x e).1)).trans (m67.mono fun x _ e => by rw [e]; exact h'.fb)
  have m07 : Mod F w w7 := (Grow.mod gd).trans m47
  have p7 : RPat (fun x => S x ∧ x < w.heap.size) w7 pv p := h1'.mono (fun _ _ h => h) (fun x hb hx => m47.same x hb (hS x hx.1)) (by decide) fun _ _ h => h
  have dlen : (s.done ++ gapL s.ins s.gone).length ≤ s.done.length + s.ins.length + 1 := by simp; omega
  generalize hD : s.done ++ gapL s.ins s.gone = D at K7 d7 dlen ⊢
  clear o6 r1 r3 r4 own6 cell0 cell1 cell2 l6 m56 m67 o5 h5 d5
  obtain ⟨va, vc, rfl, _, _, hvp, hvn⟩ := OwnR.shape d7
  rw [nilckK_i, faK_i, addr0]
  refine ld1K_i K7.c0 ?_
  rw [lenK_i, subK_i, wrap64 (by omega) (by omega)]
  refine JoinK_i (fun vs w8 => vs = [.bool (lastPat D p)] ∧ Grow w7 w8) ?_ ?_
  rotate_left
  · rw [geK_i]
    refine condK_p (fun hge => ?_) fun hge => ?_
    · have hip : 0 < D.length := by omega
      have hlt : D.length - 1 < D.length := by omega
      rw [show ((D.length : Int) - 1) = ((D.length - 1 : Nat) : Int) by omega]
      rw [nilckK_i, faK_i, addr0]
      refine ld1K_i K7.c0 ?_
      obtain ⟨q, r, rfl, _, hr, hc, rv, sv', pv', rfl, q1, q2, q3⟩ := (OwnR.sl d7).get hlt
      refine ixK_n hlt ?_
      rw [faK_i, Addr.add_add]
      refine ld1K_i (hc 0 _ rfl) ?_
      rw [eqK_i]
      refine condK_p (fun hk => ?_) fun hk => ⟨by rw [lastPat, getLast_get hip]; simp [hk], Mod.refl _ _⟩
      rw [nilckK_i, faK_i, addr0]
      refine ld1K_i K7.c0 ?_
      refine ixK_n hlt ?_
      rw [faK_i, Addr.add_add]
      refine ld1K_i (hc 4 _ rfl) ?_
      refine callK_mono (same_pat q3 p7) ?_
      rintro v1 w8 ⟨rfl, g8⟩
      exact ⟨by rw [lastPat, getLast_get hip]; simp [hk], g8⟩
    · have : D = [] := List.eq_nil_of_length_eq_zero (by omega)
      exact ⟨by rw [lastPat, this]; rfl, Mod.refl _ _⟩
  rintro vs w8 ⟨rfl, g8⟩ _
  rw [nth_z, List.headD_cons]
  have K8 := K7.grow g8
  have z8 := g8.size
  have d8 : OwnR 0 TOp 5 (RDop C1) w8 (.slice va D.length vc) D := K8.done
  have p8 : RPat (fun x => S x ∧ x < w.heap.size) w8 pv p := p7.grow g8 (by decide) fun _ _ h => h
  have m08 : Mod F w w8 := m07.trans (Grow.mod g8)
  have vb : (Value.slice va D.length vc).ownBlock ≠ some b := fun e => (K8.dF b e).2.2 rfl
  cases hls : lastPat D p with
  | true =>
    rw [condK_b, if_pos rfl]
    have hip : 0 < D.length := by
      cases hn : D with
      | nil => rw [lastPat, hn] at hls; cases hls
      | cons a l => simp
    have hlt : D.length - 1 < D.length := by omega
    rw [lastPat, getLast_get hip] at hls
    simp only [decide_eq_true_eq] at hls
    rw [show ((D.length : Int) - 1) = ((D.length - 1 : Nat) : Int) by omega]
    cases va with
    | none => rw [hvn rfl] at hip; simp at hip
    | some vp =>
    obtain ⟨g7, rfl, _, hg7, _⟩ := hvp _ rfl
    rw [nilckK_i, faK_i, addr0]
    refine ld1K_i K8.c0 ?_
    obtain ⟨q, r, e, _, hr, hc, rv, sv', pv', rfl, q1, q2, q3⟩ := (OwnR.sl d8).get hlt
    cases e
    refine ixK_n hlt ?_
    rw [faK_i, Addr.add_add]
    refine ld1K_i (hc 1 _ rfl) ?_
    rw [addK_i]
    refine ixK_n hlt ?_
    rw [faK_i, Addr.add_add]
    obtain ⟨g7F, g7C, g7b⟩ := K8.dF g7 rfl
    obtain ⟨⟨u, hu⟩, hf, ho, hm⟩ := OwnR.store (R' := RDop C1) (u := .int .i64 (IntKind.i64.wrap (D[D.length - 1].n + n))) (x' := ⟨D[D.length - 1].kind, IntKind.i64.wrap (D[D.length - 1].n + n), D[D.length - 1].runes, D[D.length - 1].set, D[D.length - 1].patch⟩) d8 hlt (show 1 < 5 by decide) rfl
      (fun r y _ hy => hy.mod (Mod.setCell (M := fun x => x = g7) _ _ _ (by rw [addr0])) (fun x _ hx e => g7C (e ▸ hx)) fun _ _ h => h)
      (fun r hy => by
        obtain ⟨rv, sv', pv', rfl, p1, p2, p3⟩ := hy.mod (D' := C1) (Mod.setCell (M := fun x => x = g7) w8 ((⟨g7, 0, none⟩ : Addr).add ((D.length - 1) * 5 + 1)) (.int .i64 (IntKind.i64.wrap (D[D.length - 1].n + n))) (by rw [addr0])) (fun x _ hx e => g7C (e ▸ hx)) fun _ _ h => h
        exact ⟨rv, sv', pv', rfl, p1, p2, p3⟩)
    refine st1K_i rfl rfl hu hf ?_
    have eput : putS D n p = D.set (D.length - 1) ⟨D[D.length - 1].kind, IntKind.i64.wrap (D[D.length - 1].n + n), D[D.length - 1].runes, D[D.length - 1].set, D[D.length - 1].patch⟩ := by
      unfold putS
      rw [getLast_get hip]
      simp only [hls, and_self, if_true]
    have hm' : Mod (fun x => x = g7) w8 (w8.setCell ((⟨g7, 0, none⟩ : Addr).add ((D.length - 1) * 5 + 1)) (.int .i64 (IntKind.i64.wrap (D[D.length - 1].n + n)))) := hm
    refine ⟨⟨_, _, C1, none, hm'.cell K8.c0 (fun e => g7b e.symm), hm'.cell K8.c1 (fun e => g7b e.symm), hm'.cell K8.c2 (fun e => g7b e.symm), fun q hq => (K8.lv q hq).mod hm' (fun e => g7b e.symm), K8.fb, K8.nb, fun x hx => ⟨(K8.cf x hx).1, Nat.lt_of_lt_of_le (K8.cf x hx).2 hm'.size⟩, by rw [eput]; exact ho, K8.dF, .inl ⟨rfl, rfl, rfl⟩⟩, ?_⟩
    refine m08.next hm' fun x hx e => ?_
    subst e
    rcases g7F with h | h
    · exact h
    · omega
  | false =>
    rw [condK_b, if_neg (by simp)]
    have gd8 : Grow w8 w8.drew := Mod.drew _ _
    have K9 := K8.grow gd8
    have zd8 : w8.drew.heap.size = w8.heap.size := rfl
    have p9 : RPat (fun x => S x ∧ x < w.heap.size) w8.drew pv p := p8.grow gd8 (by decide) fun _ _ h => h
    have m09 : Mod F w w8.drew := m08.trans (Grow.mod gd8)
    generalize w8.drew = w9 at gd8 K9 zd8 p9 m09 ⊢
    refine drawC_i (fun k x => (k = 10 ∧ (Value.slice va D.length vc).ownBlock = some x) ∨ (k = 13 ∧ x = b)) ?_
    rw [nilckK_i, faK_i, addr0]
    refine sld1_i ⟨K9.c0, fun j hj e => by rcases e with ⟨_, e⟩ | ⟨rfl, _⟩; exact vb e; exact absurd hj (by decide)⟩ ?_
    refine callK_mono (copy_pat p9 hb2) ?_
    rintro t1 w10 ⟨n1, g10⟩
    refine ⟨Grow.mod g10, ?_⟩
    have K10 := K9.grow g10
    have z10 := g10.size
    obtain ⟨sa1, sc1, hsv1, _⟩ := OwnR.shape n1
    refine ⟨#[.int .u8 1, .int .i64 n, .slice none 0 0, .slice none 0 0, t1], by subst hsv1; kernel_rfl, ?_⟩
    let C2 : Nat → Prop := fun x => C1 x ∨ t1.ownBlock = some x
    have n1b : ∀ x, t1.ownBlock = some x → w9.heap.size ≤ x ∧ x < w10.heap.size := fun x hx => OwnR.ownB n1 x hx
    have hvl : ∀ x, (Value.slice va D.length vc).ownBlock = some x → x < w8.heap.size := fun x hx => (OwnR.ownB d8 x hx).2
    have C2v : ∀ x, (Value.slice va D.length vc).ownBlock = some x → ¬ C2 x := by
      rintro x hx (hc | hc)
      · exact (K8.dF x hx).2.1 hc
      · have := n1b x hc; have := hvl x hx; omega
    have C2b : ¬ C2 b := by
      rintro (hc | hc)
      · exact C1b hc
      · have := n1b b hc; omega
    have d10 : OwnR 0 TOp 5 (RDop C2) w10 (.slice va D.length vc) D := OwnR.mod K10.done (Mod.refl (fun _ => False) _) (fun _ _ h => h) fun r x _ hx => hx.mod (Mod.refl (fun _ => False) _) (fun _ _ _ h => h) fun y _ hy => .inl hy
    have eput : putS D n p = D ++ [⟨1, n, [], [], p⟩] := by
      unfold putS
      unfold lastPat at hls
      cases hl : D.getLast? with
      | none => rfl
      | some o => rw [hl] at hls; simp only [decide_eq_false_iff_not] at hls; simp only; rw [if_neg hls]
    refine push_g2 elem_dop d10 (Nat.zero_le _) (cs := row5 ⟨1, n, [], [], p⟩ (.slice none 0 0) (.slice none 0 0) t1) (x := ⟨1, n, [], [], p⟩) (by subst hsv1; kernel_rfl) rfl ⟨_, _, _, rfl, SlR.nil, SlR.nil, SlR.sub (OwnR.sl n1) (fun x _ hx => .inr hx.2) (by decide) fun _ _ h => h⟩ (fun _ _ _ => RDop.one) ?_ (by omega) (by simp only [maxLen]; omega) (fun _ g => Grow.mod g) fun w10' v' w11 o11 m10' m11 f11 => ?_
    · intro W1 W2 r y hz hm hy
      refine hy.mod hm (fun x _ hx e => ?_) fun _ _ h => h
      rcases e with e | e
      · exact C2v x e hx
      · rcases hx with hc | hc
        · have := hc.2; omega
        · have := n1b x hc; omega
    refine ⟨m10'.mono fun x _ e => .inl ⟨rfl, e⟩, ?_⟩
    have z11 := m11.size
    have hv11 := OwnR.one o11
    rw [nilckK_i, faK_i, addr0]
    have l11 : ∀ q, q < 3 → Live w11 ⟨b, q, none⟩ := fun q hq => (K10.lv q hq).mod m11 vb
    refine (l11 0 (by decide)).st hv11.1 hv11.2 ⟨Mod.setCell _ _ _ (.inr ⟨rfl, rfl⟩), ?_⟩
    have m12 := setA w11 b 0 v'
    have ne : ∀ q, q ≠ 0 → (⟨b, 0, none⟩ : Addr) ≠ ⟨b, q, none⟩ := fun q hq e => by simp only [Addr.mk.injEq] at e; omega
    obtain ⟨u, hu⟩ := Option.isSome_iff_exists.1 (l11 0 (by decide)).1
    have v'b : v'.ownBlock ≠ some b := fun e => by rcases f11 b e with h | h; exact vb h; omega
    have lv12 : ∀ q, q < 3 → Live (w11.setCell ⟨b, 0, none⟩ v') ⟨b, q, none⟩ := fun q hq => (l11 q hq).set _ _
    have c12 := World.cell?_setCell_same w11 ⟨b, 0, none⟩ v' hu
    have co : ∀ q u, q ≠ 0 → w10.cell? ⟨b, q, none⟩ = some u → (w11.setCell ⟨b, 0, none⟩ v').cell? ⟨b, q, none⟩ = some u := fun q u hq hu => (World.cell?_setCell_other _ _ _ _ (ne q hq)).trans (m11.cell hu vb)
    generalize w11.setCell ⟨b, 0, none⟩ v' = W at m12 lv12 c12 co ⊢
    have z12 := m12.size
    refine ⟨⟨v', _, C2, none, c12, co 1 _ (by decide) K10.c1, co 2 _ (by decide) K10.c2, lv12, .inl h'.fb, C2b, fun x hx => ?_, ?_, fun x hx => ?_, .inl ⟨rfl, rfl, rfl⟩⟩, ?_⟩
    · rcases hx with hc | hc
      · exact ⟨.inl (C1F x hc), by have := hc.2; omega⟩
      · have := n1b x hc; exact ⟨.inr (by omega), by omega⟩
    · rw [eput]
      exact OwnR.mod o11 m12 (fun x hx e => v'b (e ▸ hx)) fun r x _ hx => hx.cmod m12 fun y hy e => C2b (e ▸ hy)
    · rcases f11 x hx with h | h
      · exact ⟨(K8.dF x h).1, C2v x h, (K8.dF x h).2.2⟩
      · refine ⟨.inr (by omega), ?_, fun e => v'b (e ▸ hx)⟩
        rintro (hc | hc)
        · have := hc.2; omega
        · have := n1b x hc; omega
    · refine ((m09.trans (Grow.mod g10)).next m11 fun x hx e => ?_).next m12 fun x _ e => by rw [e]; exact h'.fb
      rcases (K8.dF x e).1 with h | h
      · exact h
      · omega
end Go.Proofs.YtlbaopamhkmepaaGreatDoor

namespace Go.Proofs.YtlbaopamhkmepaaGreatDoor
open Go Go.K

theorem mDops_app (l m : List Dop) : mDops (l ++ m) = mDops l + mDops m := by simp [mDops]
theorem mDops_one (o : Dop) : mDops [o] = mDop o := by simp [mDops]
theorem gapL_m (ins : List Dop) (g : Int) : mDops (gapL ins g) ≤ mDops ins + 1 := by
  unfold gapL; split
  · rw [mDops_app, mDops_one]; simp [mDop, mSet, mPat]
  · omega
theorem mDops_sub {l : List Dop} : mDops (trimL l) ≤ mDops l := by
  unfold trimL
  split
  · split
    · rw [List.dropLast_eq_take]; exact mDops_le _ _
    · exact Nat.le_refl _
  · exact Nat.le_refl _
/-- Ops -/
theorem ops_ok {F : Nat → Prop} {w : World} {b : Nat} {s : MkS} (h : MkI F w b s) (hb : mDops s.done + mDops s.ins ≤ 274877906944) :
    callK Tryz.prog 79 [.pointer (some ⟨b, 0, none⟩)] (fun v' w' => ODops w.heap.size w' v' (opsS s) ∧ Grow w w') w := by
  apply S79_ok
  unfold S79
  obtain ⟨dv, iv, C, hot, h⟩ := h
  have hdl := mDops_len s.done
  have hil := mDops_len s.ins
  have hgm := gapL_m s.ins s.gone
  have hgl := mDops_len (gapL s.ins s.gone)
  rw [pnilK_i]
  simp only [Option.isNone_some]
  rw [condK_b, if_neg (by simp)]
  have gd : Grow w w.drew := Mod.drew _ _
  have h' := h.grow gd
  have zd : w.drew.heap.size = w.heap.size := rfl
  rw [← zd]
  have fin : ∀ {W' : World}, Grow w.drew W' → Grow w W' := fun g => gd.trans g
  generalize w.drew = w1 at gd h' zd fin ⊢
  refine drawC_i (fun _ _ => False) ?_
  rw [nilckK_i, faK_i, addr0]
  refine sld1_i ⟨h'.c0, fun j hj e => e⟩ ?_
  refine callK_mono (gap_ok h' (by omega)) ?_
  rintro v2 w2 ⟨o2, g2⟩
  refine ⟨g2, ?_⟩
  obtain ⟨a1, c1, hv1, hm1, _⟩ := OwnR.shape h'.done
  obtain ⟨a2, c2, hv2, hm2, _⟩ := OwnR.shape o2
  refine rowK_i (cs := [dv, v2]) (by subst hv1; subst hv2; kernel_rfl) ?_
  have g3 : Grow w2 (w2.alloc (.cells [dv, v2].toArray 31)) := Mod.alloc _ _ _
  have hc3 : ∀ j v, [dv, v2][j]? = some v → (w2.alloc (.cells [dv, v2].toArray 31)).cell? ((⟨w2.heap.size, 0, none⟩ : Addr).add j) = some v := fun j v hv => cell_box hv
  generalize w2.alloc (.cells [dv, v2].toArray 31) = w3 at g3 hc3 ⊢
  refine ⟨g3, ?_⟩
  have g13 := g2.trans g3
  have z3 := g13.size
  have rd : RDops (fun _ => True) (fun x => C x) w3 dv s.done := SlR.sub (OwnR.sl (h'.grow g13).done) (fun _ _ _ => trivial) (by decide) fun _ _ h => h
  have rg : RDops (fun _ => True) (fun x => (C x ∨ hot = some x) ∧ x < w1.heap.size) w3 v2 (gapL s.ins s.gone) := by
    have := OwnR.mod (R' := RDop fun x => (C x ∨ hot = some x) ∧ x < w1.heap.size) o2 g3 (fun _ _ h => h) fun r y _ hy => hy.mod g3 (fun _ _ _ h => h) fun _ _ h => h
    exact SlR.sub (OwnR.sl this) (fun _ _ _ => trivial) (by decide) fun _ _ h => h
  refine callK_mono (concat_dops rd rg (by rw [← addr0 w2.heap.size 0]; exact hc3 0 _ rfl) (hc3 1 _ rfl) (by omega)) ?_
  rintro v4 w4 ⟨o4, g4⟩
  refine ⟨g4, ?_⟩
  have g14 := g13.trans g4
  have z14 := g14.size
  have hlm : mDops (s.done ++ gapL s.ins s.gone) ≤ 549755813888 := by rw [mDops_app]; omega
  have hop : opsS s = trimL (s.done ++ gapL s.ins s.gone) := rfl
  rw [hop]
  generalize s.done ++ gapL s.ins s.gone = L at o4 hlm ⊢
  have hLl := mDops_len L
  have r4 := OwnR.sl o4
  obtain ⟨va, vc, rfl, _, _, _⟩ := OwnR.shape o4
  refine JoinK_i (fun vs w5 => ∃ v, vs = [v] ∧ Grow w1 w5 ∧ RDops (fun _ => True) (fun _ => True) w5 v (trimL L)) ?_ ?_
  · rintro vs w5 ⟨v, rfl, g5, h5⟩ _
    rw [nth_z, List.headD_cons]
    refine callK_mono (copy_dops h5 (by have := mDops_sub (l := L); omega)) ?_
    rintro v6 w6 ⟨o6, g6⟩
    have := g5.size
    refine ⟨?_, fin (g5.trans g6)⟩
    refine OwnR.mod (OwnR.base o6 fun g hg => by have := (OwnR.ownB o6 g hg).1; omega) (Mod.refl (fun _ => False) _) (fun _ _ h => h) fun r x _ hx => hx.mod (Mod.refl (fun _ => False) _) (fun _ _ _ h => h) fun y _ hy => ⟨by omega, hy.2⟩
  · have rT : RDops (fun _ => True) (fun _ => True) w4 (.slice va L.length vc) L := SlR.sub r4 (fun _ _ _ => trivial) (by decide) fun r x hx => hx.mod (Mod.refl (fun _ => False) _) (fun _ _ _ h => h) fun _ _ _ => trivial
    rw [lenK_i, subK_i, wrap64 (by omega) (by omega), geK_i]
    refine condK_p (fun hge => ?_) fun hge => ?_
    · have hip : 0 < L.length := by omega
      have hlt : L.length - 1 < L.length := by omega
      rw [show ((L.length : Int) - 1) = ((L.length - 1 : Nat) : Int) by omega]
      obtain ⟨q, r, rfl, _, hr, hc, rv, sv', pv', rfl, q1, q2, q3⟩ := rT.get hlt
      refine ixK_n hlt ?_
      rw [faK_i, Addr.add_add]
      refine ld1K_i (hc 0 _ rfl) ?_
      rw [eqK_i]
      refine condK_p (fun hk => ?_) fun hk => ⟨_, rfl, g14, by rw [trimL, getLast_get hip]; simp only; rw [if_neg (fun h => hk h.1)]; exact rT⟩
      refine ixK_n hlt ?_
      rw [faK_i, Addr.add_add]
      refine ld1K_i (hc 4 _ rfl) ?_
      obtain ⟨pa, pc, rfl, _⟩ := q3.shape
      rw [lenK_i, eqK_i]
      refine condK_p (fun hp => ?_) fun hp => ⟨_, rfl, g14, by rw [trimL, getLast_get hip]; simp only; rw [if_neg (fun h => hp (len0.2 h.2))]; exact rT⟩
      refine slice_hi (e := 39) (i := Tryz.t39) (by kernel_rfl) (by kernel_rfl) (by kernel_rfl) rT (Nat.sub_le _ _) fun v' hv' => ?_
      refine ⟨v', rfl, g14, ?_⟩
      rw [trimL, getLast_get hip]
      simp only
      rw [if_pos ⟨hk, len0.1 hp⟩, List.dropLast_eq_take]
      exact hv'
    · have : L = [] := List.eq_nil_of_length_eq_zero (by omega)
      subst this
      exact ⟨_, rfl, g14, rT⟩
end Go.Proofs.YtlbaopamhkmepaaGreatDoor

namespace Go.Proofs.YtlbaopamhkmepaaGreatDoor
open Go Go.K

theorem rsame_dops {S S' D D' : Nat → Prop} {a b : Value} {x y : List Dop} {w : World} (ha : RDops S D w a x) (hb : RDops S' D' w b y) :
    callK Tryz.prog 22 [a, b] (fun v w' => v = .bool (decide (x = y)) ∧ Grow w w') w := by
  apply S22_ok
  unfold S22
  obtain ⟨pa, ca, rfl, hla⟩ := ha.shape
  obtain ⟨pb, cb, rfl, hlb⟩ := hb.shape
  simp only [maxLen] at hla
  have no : ∀ w', Grow w w' → x ≠ y → Value.bool false = .bool (decide (x = y)) ∧ Grow w w' := fun w' g hn => ⟨by rw [decide_eq_false hn], g⟩
  rw [lenK_i, lenK_i, neK_i]
  refine condK_neg (fun hlen => ?_) fun hne => no _ (Mod.refl _ _) fun e => hne (by rw [e])
  have hlen' : x.length = y.length := by omega
  refine LoopK_i (fun vs w1 => ∃ i : Nat, i ≤ x.length ∧ vs = [.int .i64 i] ∧ Grow w w1 ∧ x.take i = y.take i) (fun vs _ => x.length - iOf vs 0) ⟨0, Nat.zero_le _, rfl, Mod.refl _ _, rfl⟩ ?_
  rintro vs w1 ⟨i, hi, rfl, g1, ht⟩ _
  rw [lenK_i, nth_z, List.headD_cons, ltK_i]
  refine condK_p (fun hlt => ?_) fun hge => ?_
  · have hlt' : i < x.length := by omega
    have hlt2 : i < y.length := by omega
    have no2 : ∀ w', Grow w w' → x[i] ≠ y[i] → Value.bool false = .bool (decide (x = y)) ∧ Grow w w' := fun w' g hn => no w' g (by rintro rfl; exact hn rfl)
    refine JoinK_i (fun _ w2 => Grow w w2 ∧ x[i] = y[i]) ?_ ?_
    · rintro _ w2 ⟨g2, he⟩ _
      rw [addK_i, loop_step (by omega)]
      refine ⟨⟨i + 1, hlt', rfl, g2, ?_⟩, by rw [iOf0, iOf0]; omega⟩
      rw [List.take_add_one, List.take_add_one, ht, List.getElem?_eq_getElem hlt', List.getElem?_eq_getElem hlt2, he]
    · obtain ⟨p, r, rfl, _, hr, hc, hx⟩ := (RDops.grow ha g1).get hlt'
      obtain ⟨p', r', rfl, _, hr', hc', hy⟩ := (RDops.grow hb g1).get hlt2
      refine JoinK_i (fun vs w3 => ∃ b6 b7, vs = [.pointer (some ⟨b6, 0, none⟩), .pointer (some ⟨b7, 0, none⟩)] ∧ Grow w1 w3 ∧ (∀ j u, r[j]? = some u → w3.cell? ((⟨b6, 0, none⟩ : Addr).add j) = some u) ∧ (∀ j u, r'[j]? = some u → w3.cell? ((⟨b7, 0, none⟩ : Addr).add j) = some u)) ?_ ?_
      · rintro _ w3 ⟨b6, b7, rfl, g3, c6, c7⟩ _
        have hx3 := hx.mod (D' := D) g3 (fun _ _ _ h => h) fun _ _ h => h
        have hy3 := hy.mod (D' := D') g3 (fun _ _ _ h => h) fun _ _ h => h
        obtain ⟨rv, sv, pv, rfl, x1, x2, x3⟩ := hx3
        obtain ⟨rv', sv', pv', rfl, y1, y2, y3⟩ := hy3
        have g13 := g1.trans g3
        show faK 0 (.pointer (some ⟨b6, 0, none⟩)) _
        simp only [nth_z, nth_s, List.headD_cons, List.tail_cons, faK_i]
        refine ld1K_i (c6 0 _ rfl) (ld1K_i (c7 0 _ rfl) ?_)
        rw [neK_i]
        refine condK_neg (fun e1 => ?_) fun hne => no2 _ g13 fun e => hne (by rw [e])
        refine ld1K_i (c6 1 _ rfl) (ld1K_i (c7 1 _ rfl) ?_)
        rw [neK_i]
        refine condK_neg (fun e2 => ?_) fun hne => no2 _ g13 fun e => hne (by rw [e])
        refine ld1K_i (c6 2 _ rfl) (ld1K_i (c7 2 _ rfl) ?_)
        refine callK_mono (rsame_run x1 y1) ?_
        rintro _ w4 ⟨rfl, g4⟩
        rw [notK_i]
        refine condK_neg (fun e3 => ?_) fun hne => no2 _ (g13.trans g4) fun e => hne (by rw [e])
        refine ld1K_i (g4.cell (c6 3 _ rfl) fun h => h) (ld1K_i (g4.cell (c7 3 _ rfl) fun h => h) ?_)
        refine callK_mono (rsame_set (x2.grow g4 (by decide) fun _ _ h => h) (y2.grow g4 (by decide) fun _ _ h => h)) ?_
        rintro _ w5 ⟨rfl, g5⟩
        rw [notK_i]
        have g45 := g4.trans g5
        refine condK_neg (fun e4 => ?_) fun hne => no2 _ (g13.trans g45) fun e => hne (by rw [e])
        refine ld1K_i (g45.cell (c6 4 _ rfl) fun h => h) (ld1K_i (g45.cell (c7 4 _ rfl) fun h => h) ?_)
        refine callK_mono (rsame_pat (x3.grow g45 (by decide) fun _ _ h => h) (y3.grow g45 (by decide) fun _ _ h => h)) ?_
        rintro _ w6 ⟨rfl, g6⟩
        rw [notK_i]
        refine condK_neg (fun e5 => ⟨(g13.trans g45).trans g6, ?_⟩) fun hne => no2 _ ((g13.trans g45).trans g6) fun e => hne (by rw [e])
        have eta : ∀ o : Dop, o = ⟨o.kind, o.n, o.runes, o.set, o.patch⟩ := fun _ => rfl
        rw [eta x[i], eta y[i], e1, e2, e3, e4, e5]
      · refine drawC_i (fun k y => (k = 10 ∨ k = 11) ∧ w1.heap.size ≤ y) ?_
        have gd : Grow w1 w1.drew := Mod.drew _ _
        have one := RDop.one hx
        have one' := RDop.one hy
        have zd := gd.size
        refine ixK_n hlt' (sldn_i hr (fun j u hu => ⟨by rw [Addr.add_add]; exact gd.cell (hc j u hu) fun h => h, fun k hk e => ?_⟩) ?_)
        · rcases e with ⟨rfl | rfl, _⟩ <;> exact absurd hk (by decide)
        refine ixK_n hlt2 (sldn_i hr' (fun j u hu => ⟨by rw [Addr.add_add]; exact gd.cell (hc' j u hu) fun h => h, fun k hk e => ?_⟩) ?_)
        · have := World.block_lt_of_cell? w1 _ (hc' j u hu)
          rw [add_block] at this
          rw [add_block, add_block] at e
          omega
        refine ⟨?_, ?_⟩
        · refine newz_i fun b6 w17 hb6 hz6 g6 _ hl6 => ⟨g6.mono fun _ _ h => h.elim, ?_⟩
          refine newz_i fun b7 w18 hb7 hz7 g7 _ hl7 => ⟨g7.mono fun _ _ h => h.elim, ?_⟩
          refine stn_over hr one (fun j hj => (hl6 j hj).mod g7 fun h => h) fun w19 m19 hc6 _ => ⟨m19.mono fun y _ e => ⟨.inl rfl, by omega⟩, ?_⟩
          refine stn_over hr' one' (fun j hj => (hl7 j hj).mod m19 fun e => absurd (show b7 = b6 by rw [addr0] at e; exact e) (by omega)) fun w20 m20 hc7 _ => ⟨m20.mono fun y _ e => ⟨.inr rfl, by omega⟩, b6, b7, rfl, ?_, fun j u hu => m20.cell (hc6 j u hu) fun e => absurd (show b6 = b7 by rw [addr0] at e; exact e) (by omega), hc7⟩
          exact (((gd.trans g6).trans g7).next m19 fun x hx e => by omega).next m20 fun x hx e => by omega
        · refine newz_i fun b7 w17 hb7 hz7 g7 _ hl7 => ⟨g7.mono fun _ _ h => h.elim, ?_⟩
          refine newz_i fun b6 w18 hb6 hz6 g6 _ hl6 => ⟨g6.mono fun _ _ h => h.elim, ?_⟩
          refine stn_over hr one hl6 fun w19 m19 hc6 _ => ⟨m19.mono fun y _ e => ⟨.inl rfl, by omega⟩, ?_⟩
          refine stn_over hr' one' (fun j hj => ((hl7 j hj).mod g6 fun h => h).mod m19 fun e => absurd (show b7 = b6 by rw [addr0] at e; exact e) (by omega)) fun w20 m20 hc7 _ => ⟨m20.mono fun y _ e => ⟨.inr rfl, by omega⟩, b6, b7, rfl, ?_, fun j u hu => m20.cell (hc6 j u hu) fun e => absurd (show b6 = b7 by rw [addr0] at e; exact e) (by omega), hc7⟩
          exact (((gd.trans g7).trans g6).next m19 fun x hx e => by omega).next m20 fun x hx e => by omega
  · have : i = x.length := by omega
    subst this
    rw [List.take_length, hlen', List.take_length] at ht
    exact ⟨by rw [decide_eq_true ht], g1⟩
end Go.Proofs.YtlbaopamhkmepaaGreatDoor

namespace Go.K
open Go
theorem SlR.rows {α : Type} {S : Nat → Prop} {k : Nat} {R : World → List Value → α → Prop} {w : World} {a : Option Addr} {c n : Nat} {m : List α} (hx : SlR S k R w (.slice a n c) m) (hone : ∀ r y, R w r y → ∀ u ∈ r, u.oneCell' = true) :
    ∃ rows' : List (List Value), rows'.length = m.length ∧ (∀ (i : Nat) (r : List Value), rows'[i]? = some r → r.length = k ∧ (∀ u ∈ r, u.oneCell' = true) ∧ (∃ p, a = some p ∧ ∀ j u, r[j]? = some u → w.cell? (p.add (i * k + j)) = some u) ∧ ∃ y, m[i]? = some y ∧ R w r y) := by
  obtain ⟨a', c', e, _, _, hel⟩ := hx
  cases e
  have gen : ∀ q, q ≤ m.length → ∃ rows' : List (List Value), rows'.length = q ∧ (∀ (i : Nat) (r : List Value), rows'[i]? = some r → r.length = k ∧ (∀ u ∈ r, u.oneCell' = true) ∧ (∃ p, a = some p ∧ ∀ j u, r[j]? = some u → w.cell? (p.add (i * k + j)) = some u) ∧ ∃ y, m[i]? = some y ∧ R w r y) := by
    intro q
    induction q with
    | zero => exact fun _ => ⟨[], rfl, fun i r h => by simp at h⟩
    | succ q ih =>
      intro hq
      obtain ⟨rs, e1, e2⟩ := ih (by omega)
      obtain ⟨p, r, f1, f2, f3, f4, f5⟩ := hel q m[q] (by simp [show q < m.length by omega])
      refine ⟨rs ++ [r], by simp [e1], fun i r' hr' => ?_⟩
      by_cases hi : i < q
      · rw [List.getElem?_append_left (by omega)] at hr'; exact e2 i r' hr'
      · have : i = q := by have := (List.getElem?_eq_some_iff.1 hr').1; simp [e1] at this; omega
        subst this
        rw [List.getElem?_append_right (by omega)] at hr'
        simp [e1] at hr'
        subst hr'
        exact ⟨f3, hone _ _ f5, ⟨p, f1, f4⟩, m[i], by simp [show i < m.length by omega], f5⟩
  exact gen m.length (Nat.le_refl _)
theorem append_new {α : Type} {P : Program} {t ty e k bytes b : Nat} {R : World → List Value → α → Prop} {S : Nat → Prop} {w : World} {x : Value} {m : List α} (hE : ElemOK P t e k bytes) (hb : w.heap[b]? = some (.cells #[] e (0, 0))) (hx : SlR S k R w x m)
    (hone : ∀ w r y, R w r y → ∀ u ∈ r, u.oneCell' = true) (h63 : m.length * bytes ≤ 140737488355328) (hR : ∀ w', w.grownBy w' (some b) → ∀ r y, R w r y → R w' r y) :
    ∃ v' w', (Builtin.append_ #[t, t] ty [.slice (some ⟨b, 0, none⟩) 0 0, x].toArray).run P w = .ok v' w' ∧ OwnR b e k R w' v' m ∧ Grow w w' ∧ ∀ g, v'.ownBlock = some g → g = b ∨ w.heap.size ≤ g := by
  obtain ⟨a, c, rfl, hm⟩ := hx.shape
  have hlt : b < w.heap.size := (Array.getElem?_eq_some_iff.1 hb).1
  have ho : OwnR b e k R w (.slice (some ⟨b, 0, none⟩) 0 0) ([] : List α) := ⟨[], ⟨by simp, .inr ⟨b, 0, #[], rfl, Nat.le_refl _, hb, Nat.le_refl _, by simp [maxLen], by simp, by simp⟩⟩, rfl, by simp, by simp⟩
  obtain ⟨v', w', hrun, r2, r3, r4⟩ := OwnR.append (ty := ty) hE ho hx (fun _ _ => hone _ _ _) (by simpa using h63) (by omega) (by simpa using hm) (fun w' hg r y hy => hR w' hg r y hy)
  refine ⟨v', w', hrun, by simpa using r2, ?_, fun g hg => ?_⟩
  · obtain ⟨i, z, ht, hi, hz, hs, hbt, hzs, hk⟩ := hE
    obtain ⟨rows', g1, g2⟩ := SlR.rows hx (fun _ _ => hone _ _ _)
    have hlen : ∀ r ∈ rows', r.length = k := fun r hr => by obtain ⟨j, hj⟩ := List.mem_iff_getElem?.1 hr; exact (g2 j r hj).1
    simp only [maxLen] at hm
    by_cases hm0 : m.length = 0
    · have h0 : (Builtin.append_ #[t, t] ty [.slice (some ⟨b, 0, none⟩) 0 0, .slice a m.length c].toArray).run P w = .ok (.slice (some ⟨b, 0, none⟩) 0 0) w := by
        rw [hm0]
        cases a <;> simp [Builtin.append_, run_underlying ht, sizeOf, typeInfo, hi, Builtin.lenOf, Builtin.firstCells, storeCells, loadCells, loadCellsFrom]
      rw [h0] at hrun
      cases hrun
      exact Mod.refl _ _
    · obtain ⟨p, r, f1, _⟩ := hx.get (i := 0) (by omega)
      subst f1
      have hr := run_append_grow (P := P) w t ty e i z ht hi hz ⟨b, 0, none⟩ 0 0 [] (by simp) (by simp) p m.length c rows'.flatten (by rw [flat_len rows' hlen, g1, hs]) (fun q u hu => by
        obtain ⟨r, hr, hru⟩ := flat_of_get hk rows' hlen q u hu
        obtain ⟨_, _, ⟨p', hp', hc'⟩, _⟩ := g2 _ r hr
        cases hp'
        have := hc' _ u hru
        rwa [Nat.div_add_mod'] at this) (by omega) (by omega) (growslice_fits (by omega) (by rw [hbt]; simpa using h63))
      have hr' : (Builtin.append_ #[t, t] ty [.slice (some ⟨b, 0, none⟩) 0 0, .slice (some p) m.length c].toArray).run P w = _ := hr
      rw [hr'] at hrun
      cases hrun
      exact (Mod.drew _ _).trans (Mod.alloc _ _ _)
  · rcases r4 g hg with h | h
    · exact .inl (by simpa [Value.ownBlock] using h.symm)
    · exact .inr h
end Go.K

namespace Go.K
open Go
theorem flat_take {k : Nat} : ∀ (rows : List (List Value)) (j : Nat), (∀ r ∈ rows, r.length = k) → rows.flatten.take (j * k) = (rows.take j).flatten := by
  intro rows
  induction rows with
  | nil => intro j _; simp
  | cons r rows ih =>
    intro j h
    have h0 := h r (by simp)
    cases j with
    | zero => simp
    | succ j =>
      rw [List.flatten_cons, List.take_succ_cons, List.flatten_cons, ← ih j fun x hx => h x (by simp [hx])]
      rw [List.take_append, List.take_of_length_le (by rw [h0, Nat.add_mul]; omega)]
      congr 2
      rw [h0, Nat.add_mul]; omega
/-- the first elements of a row of the call's own -/
theorem OwnR.take {α : Type} {B e k : Nat} {R : World → List Value → α → Prop} {w : World} {g n c : Nat} {l : List α} (h : OwnR B e k R w (.slice (some ⟨g, 0, none⟩) n c) l) {j : Nat} (hj : j ≤ l.length) : OwnR B e k R w (.slice (some ⟨g, 0, none⟩) j c) (l.take j) := by
  obtain ⟨rows, h1, h2, h3, h4⟩ := h
  have hrl : ∀ r ∈ rows, r.length = k := fun r hr => (h3 r hr).1
  refine ⟨rows.take j, ⟨?_, ?_⟩, by rw [List.length_take, List.length_take, h2], fun r hr => h3 r (List.mem_of_mem_take hr), fun i r x hr hx => ?_⟩
  · rw [flat_len _ fun r hr => hrl r (List.mem_of_mem_take hr), List.length_take, List.length_take, h2]
  · rcases h1.2 with ⟨hn, _⟩ | ⟨g', cap, cur, hv, hb, hg, hn, hm, hs, ht⟩
    · cases hn
    · cases hv
      refine .inr ⟨g, c, cur, by rw [List.length_take, Nat.min_eq_left hj], hb, hg, by rw [List.length_take]; omega, hm, hs, ?_⟩
      rw [← flat_take rows j hrl, ← ht, List.take_take, List.length_take]
      congr 1
      rw [Nat.min_eq_left hj, Nat.min_eq_left (Nat.mul_le_mul_right _ hj)]
  · rw [List.getElem?_take] at hr hx
    split at hr
    · rename_i hlt; rw [if_pos hlt] at hx; exact h4 i r x hr hx
    · cases hr
theorem slice_hi_run {P : Program} {t e k : Nat} {i : TypeInfo} {g n c j : Nat} (ht : P.underlying t = some (.slice e)) (hi : P.info? e = some i) (hk : i.size = k) (hj : j ≤ c) (w : World) : (Instr.sliceAt t (.slice (some ⟨g, 0, none⟩) n c) none (some (.int .i64 j)) none).run P w = .ok (.slice (some ⟨g, 0, none⟩) j c) w := by
  have hel : P.elem t = e := by simp [Program.elem, ht]
  rw [run_sliceAt_slice _ _ _ _ _ _ (by rw [hel]; exact ht), run_slice_h _ _ _ _ _ (by rw [hel]; exact ht) _ _ (by omega) (by omega), hel]
  simp [sizeOf, typeInfo, hi, hk, sliced, Addr.add]
/-- a store into one of a box's cells -/
theorem box_store {b : Nat} {vs : List Value} {q : Nat} {u : Value} {W : World} {K : World → Prop} (hc : ∀ j v, vs[j]? = some v → W.cell? ⟨b, j, none⟩ = some v) (hl : ∀ j, j < vs.length → Live W ⟨b, j, none⟩) (hq : q < vs.length) (h1 : u.oneCell' = true) (h2 : u.cells = #[u])
    (hK : ∀ W', Mod (fun x => x = b) W W' → (∀ j v, (vs.set q u)[j]? = some v → W'.cell? ⟨b, j, none⟩ = some v) → (∀ j, j < (vs.set q u).length → Live W' ⟨b, j, none⟩) → K W') : st1K (.pointer (some ⟨b, q, none⟩)) u K W := by
  refine (hl q hq).st h1 h2 (hK _ (Mod.setCell (M := fun x => x = b) W ⟨b, q, none⟩ u rfl) (fun j v hv => ?_) fun j hj => (hl j (by simpa using hj)).set _ _)
  by_cases e : j = q
  · subst e
    rw [List.getElem?_set_self hq] at hv
    cases hv
    obtain ⟨u', hu'⟩ := Option.isSome_iff_exists.1 (hl j hq).1
    exact World.cell?_setCell_same _ _ _ hu'
  · rw [List.getElem?_set_ne (Ne.symm e)] at hv
    rw [World.cell?_setCell_other _ _ _ _ (fun e' => by simp only [Addr.mk.injEq] at e'; exact e e'.2.1.symm)]
    exact hc j v hv
/-- adding onto a slice that has no room: a new row -/
theorem append_full {α : Type} {P : Program} {t ty e k bytes : Nat} {R : World → List Value → α → Prop} {S S' : Nat → Prop} {w : World} {p : Addr} {x : Value} {l m : List α} (hE : ElemOK P t e k bytes) (h : SlR S k R w (.slice (some p) l.length l.length) l) (hx : SlR S' k R w x m) (hm0 : 0 < m.length)
    (hone : ∀ w r y, R w r y → ∀ u ∈ r, u.oneCell' = true) (h63 : (l.length + m.length) * bytes ≤ 140737488355328) (hlm : l.length + m.length ≤ maxLen) (hR : ∀ w', Grow w w' → ∀ r y, R w r y → R w' r y) :
    ∃ v' w', (Builtin.append_ #[t, t] ty [.slice (some p) l.length l.length, x].toArray).run P w = .ok v' w' ∧ OwnR w.heap.size e k R w' v' (l ++ m) ∧ Grow w w' := by
  obtain ⟨i, z, ht, hi, hz, hs, hbt, hzs, hk⟩ := hE
  obtain ⟨a, c, rfl, hm⟩ := hx.shape
  have hlm' := hlm
  simp only [maxLen] at hlm
  obtain ⟨rows, g1, g2⟩ := SlR.rows h (fun _ _ => hone _ _ _)
  obtain ⟨rows', g1', g2'⟩ := SlR.rows hx (fun _ _ => hone _ _ _)
  have hlen : ∀ r ∈ rows, r.length = k := fun r hr => by obtain ⟨j, hj⟩ := List.mem_iff_getElem?.1 hr; exact (g2 j r hj).1
  have hlen' : ∀ r ∈ rows', r.length = k := fun r hr => by obtain ⟨j, hj⟩ := List.mem_iff_getElem?.1 hr; exact (g2' j r hj).1
  obtain ⟨pa, r0, f1, _⟩ := hx.get (i := 0) hm0
  subst f1
  have get : ∀ {rs : List (List Value)} {q : Addr}, (∀ r ∈ rs, r.length = k) → (∀ (i : Nat) (r : List Value), rs[i]? = some r → ∀ j u, r[j]? = some u → w.cell? (q.add (i * k + j)) = some u) → ∀ (j : Nat) (u : Value), rs.flatten[j]? = some u → w.cell? (q.add j) = some u := by
    intro rs q hl hc j u hu
    obtain ⟨r, hr, hru⟩ := flat_of_get hk rs hl j u hu
    have := hc _ r hr _ u hru
    rwa [Nat.div_add_mod'] at this
  have hr := run_append_grow (P := P) w t ty e i z ht hi hz p l.length l.length rows.flatten (by rw [flat_len rows hlen, g1, hs]) (get hlen fun j r hj q u hu => by
      obtain ⟨_, _, ⟨p', hp', hc'⟩, _⟩ := g2 j r hj
      cases hp'; exact hc' q u hu) pa m.length c rows'.flatten (by rw [flat_len rows' hlen', g1', hs]) (get hlen' fun j r hj q u hu => by
      obtain ⟨_, _, ⟨p', hp', hc'⟩, _⟩ := g2' j r hj
      cases hp'; exact hc' q u hu) (by omega) (by omega) (growslice_fits (by omega) (by rw [hbt]; exact h63))
  have hg : Grow w (w.drew.alloc (.cells (rows.flatten.toArray ++ rows'.flatten.toArray ++ Builtin.zeroCells z.cells (grownCap w (l.length + m.length) l.length e - (l.length + m.length))) e)) := (Mod.drew _ _).trans (Mod.alloc _ _ _)
  have hge := grownCap_ge w (l.length + m.length) l.length e
  have hflat : (rows.flatten ++ rows'.flatten).length = (l.length + m.length) * k := by rw [List.length_append, flat_len rows hlen, flat_len rows' hlen', g1, g1', Nat.add_mul]
  refine ⟨_, _, hr, ⟨rows ++ rows', ⟨by rw [List.flatten_append, hflat, List.length_append], .inr ⟨w.heap.size, _, _, by rw [List.length_append], Nat.le_refl _, heap_alloc_new w.drew _, by rw [List.length_append]; exact hge, grownCap_le_maxLen w (l.length + m.length) l.length e hlm', ?_, ?_⟩⟩, by simp [g1, g1'], fun r hr => ?_, fun j r y hj hy => ?_⟩, hg⟩
  · simp only [Array.size_append, List.size_toArray, size_zeroCells, hzs]
    have e1 := hflat
    rw [List.length_append] at e1
    rw [e1, ← Nat.add_mul]
    congr 1; omega
  · simp only [Array.toList_append, List.length_append, List.flatten_append]
    have h3 : (l.length + m.length) * k = (rows.flatten ++ rows'.flatten).length := hflat.symm
    rw [h3, List.take_append_of_le_length (Nat.le_refl _), List.take_length]
  · rcases List.mem_append.1 hr with h | h
    · obtain ⟨j, hj⟩ := List.mem_iff_getElem?.1 h; exact ⟨(g2 j r hj).1, (g2 j r hj).2.1⟩
    · obtain ⟨j, hj⟩ := List.mem_iff_getElem?.1 h; exact ⟨(g2' j r hj).1, (g2' j r hj).2.1⟩
  · refine hR _ hg r y ?_
    by_cases hjl : j < l.length
    · rw [List.getElem?_append_left (by omega)] at hj
      rw [List.getElem?_append_left hjl] at hy
      obtain ⟨_, _, _, y', hy', hRy⟩ := g2 j r hj
      rw [hy] at hy'; cases hy'; exact hRy
    · rw [List.getElem?_append_right (by omega), g1] at hj
      rw [List.getElem?_append_right (by omega)] at hy
      obtain ⟨_, _, _, y', hy', hRy⟩ := g2' _ r hj
      rw [hy] at hy'; cases hy'; exact hRy
/-- a stack: a row of the holder's own, or a slice without room -/
def StkR {α : Type} (e k : Nat) (R : World → List Value → α → Prop) (w : World) (v : Value) (l : List α) : Prop :=
  OwnR 0 e k R w v l ∨ ∃ p, v = .slice (some p) l.length l.length ∧ p.block < w.heap.size ∧ SlR (fun b => b = p.block) k R w v l
section
variable {α : Type} {e k : Nat} {R R' : World → List Value → α → Prop} {w w' : World} {v : Value} {l : List α} {M : Nat → Prop}
theorem StkR.sl (h : StkR e k R w v l) (hk : 0 < k) : SlR (fun b => v.ownBlock = some b) k R w v l := by
  rcases h with h | ⟨p, rfl, hlt, h⟩
  · exact (OwnR.sl h).sub (fun _ _ h => h.2) hk fun _ _ h => h
  · exact h.sub (fun b _ e => by rw [e]; rfl) hk fun _ _ h => h
theorem StkR.ownB (h : StkR e k R w v l) : ∀ g, v.ownBlock = some g → g < w.heap.size := by
  rcases h with h | ⟨p, rfl, hlt, h⟩
  · exact fun g hg => (OwnR.ownB h g hg).2
  · intro g hg
    have : p.block = g := Option.some.inj hg
    rw [← this]; exact hlt
theorem StkR.mod (h : StkR e k R w v l) (hk : 0 < k) (hm : Mod M w w') (hv : ∀ g, v.ownBlock = some g → ¬ M g) (hR : ∀ r x, R w r x → R' w' r x) : StkR e k R' w' v l := by
  rcases h with h | ⟨p, rfl, hlt, h⟩
  · exact .inl (OwnR.mod h hm hv fun r x _ hx => hR r x hx)
  · exact .inr ⟨p, rfl, Nat.lt_of_lt_of_le hlt hm.size, SlR.mono h (fun _ _ h => h) (fun b hb hs => hm.same b hb (hv b (by rw [hs]; rfl))) hk hR⟩
theorem StkR.one (h : StkR e k R w v l) : v.oneCell' = true ∧ v.cells = #[v] := by
  rcases h with h | ⟨p, rfl, hlt, h⟩
  · exact OwnR.one h
  · exact ⟨rfl, rfl⟩
theorem StkR.shape (h : StkR e k R w v l) (hk : 0 < k) : ∃ a c, v = .slice a l.length c ∧ l.length ≤ maxLen := (h.sl hk).shape
/-- one element more -/
theorem StkR.push {P : Program} {t bytes : Nat} {x : α} {zero : List Value} {parts : List (Nat × Value)} {cs : List Value} {K : Cont} (hE : ElemOK P t e k bytes) (h : StkR e k R w v l)
    (hf : Instr.fill (fun i => some (i * k, k)) ((Array.range (1 * k)).map (zero.toArray[· % zero.toArray.size]!)) parts = some cs.toArray) (hcs : cs.length = k) (hx : R w cs x) (hone : ∀ w r y, R w r y → ∀ u ∈ r, u.oneCell' = true)
    (hR : ∀ w1 w2 r y, w.heap.size ≤ w1.heap.size → Mod (fun b => v.ownBlock = some b ∨ w.heap.size ≤ b) w1 w2 → R w1 r y → R w2 r y) (hlen : (l.length + 1) * bytes ≤ 140737488355328) (hlm : l.length + 1 ≤ maxLen)
    {Q1 : World → Prop} {Q2 : World → World → Prop} (hQ1 : ∀ w1, Grow w w1 → Q1 w1)
    (hK : ∀ w1 v' w', OwnR 0 e k R w' v' (l ++ [x]) → Mod (fun b => v.ownBlock = some b) w1 w' → Mod (fun b => v.ownBlock = some b) w w' → (∀ g, v'.ownBlock = some g → v.ownBlock = some g ∨ w.heap.size ≤ g) → Q2 w1 w' ∧ K v' w') :
    rowK e k 1 zero parts (fun s w1 => Q1 w1 ∧ runK P (Builtin.append_ #[t, t] t [v, s].toArray) (fun v' w' => Q2 w1 w' ∧ K v' w') w1) w := by
  rcases h with h | ⟨p, rfl, hlt, h⟩
  · exact push_g2 hE h (Nat.zero_le _) hf hcs hx hone hR hlen hlm hQ1 hK
  refine ⟨_, hf, ?_⟩
  have hk : 0 < k := by obtain ⟨_, _, _, _, _, _, _, _, hk⟩ := hE; exact hk
  have hg : Grow w (w.alloc (.cells cs.toArray e)) := Mod.alloc _ _ _
  have hc : ∀ j u, cs[j]? = some u → (w.alloc (.cells cs.toArray e)).cell? ((⟨w.heap.size, 0, none⟩ : Addr).add j) = some u := fun j u hu => cell_box hu
  have hz : (w.alloc (.cells cs.toArray e)).heap.size = w.heap.size + 1 := by simp
  generalize w.alloc (.cells cs.toArray e) = w1 at hg hc hz ⊢
  have h' := h.grow hg hk fun r y hy => hR _ _ _ _ (Nat.le_refl _) (hg.mono fun _ _ h => h.elim) hy
  have hs : SlR (fun _ => True) k R w1 (.slice (some ⟨w.heap.size, 0, none⟩) 1 1) [x] := by
    refine ⟨_, 1, rfl, Nat.le_refl _, by simp [maxLen], fun i y hy => ?_⟩
    have hi : i = 0 := by have := (List.getElem?_eq_some_iff.1 hy).1; simp at this; exact this
    subst hi
    simp at hy; subst hy
    exact ⟨_, cs, rfl, trivial, hcs, fun j u hu => by rw [Nat.zero_mul, Nat.zero_add]; exact hc j u hu, hR _ _ _ _ (Nat.le_refl _) (hg.mono fun _ _ h => h.elim) hx⟩
  obtain ⟨v', w', h1, h2, h3⟩ := append_full (ty := t) (m := [x]) hE h' hs (by simp) hone hlen hlm fun w2 g r y hy => hR _ _ _ _ (by omega) (g.mono fun _ _ h => h.elim) hy
  refine ⟨hQ1 _ hg, runK_i h1 (hK w1 v' w' (h2.base fun _ _ => Nat.zero_le _) (h3.mono fun _ _ h => h.elim) ((hg.trans h3).mono fun _ _ h => h.elim) fun g hg' => .inr ?_)⟩
  have := (OwnR.ownB h2 g hg').1
  omega
end
end Go.K

namespace Go.Proofs.YtlbaopamhkmepaaGreatDoor
open Go Go.K
/-- rubric/schema.New -/
def S14 (v0 : Value) (K : Cont) (w : World) : Prop :=
  lenK v0 fun t10 =>
  gtK .i64 t10 (.int .i64 64) fun t11 =>
  condK t11
  (K (.tuple #[(.pointer none), (.int .i64 3)]) w)
  (callK Tryz.prog 43 [v0] (fun t13 w1 =>
  runK Tryz.prog (Instr.makeMap 85 none) (fun t14 w2 =>
  buildK [(0, 1), (1, 1)] [(.slice none 0 0), (.map none)] [(0, t13), (1, t14)] fun t15 =>
  boxnK 87 t15 (fun t16 w3 =>
  lenK v0 fun t18 =>
  LoopK [(.int .i64 0)] (fun vs again w4 => ∀ _h : Env,
  ltK .i64 (nth vs 0) t18 fun t20 =>
  condK t20
  (ixK 6 v0 (nth vs 0) fun t21 =>
  ldnK 6 t21 (fun t22 w5 =>
  newK 84 [(.int .i64 0), (.bool false), (.int .u8 0), (.bool false), (.bool false), (.int .i64 0)] (fun t6 w6 =>
  stnK 6 t6 t22 (fun w7 =>
  JoinK (fun _vs_1 w8 => ∀ _h_1 : Env,
  DrawC [7] [[], [0], [0, 1], [0, 1, 2], [], [4], [], [0, 1, 2, 3, 4, 5, 6]] w8.drew (fun M St =>
  nilckK t16 fun t40 =>
  faK 1 t40 fun t41 =>
  sld1 (St 3) t41 fun t42 =>
  faK 0 t6 fun t43 =>
  sld1 (St 5) t43 fun t44 =>
  sldn (St 6) 6 t6 fun t45 =>
  runK Tryz.prog (do Instr.mapUpdate 85 t42 t44 t45; pure undef) (fun _u w9 =>
  Mod (M 7) w8.drew w9 ∧
  addK .i64 (nth vs 0) (.int .i64 1) fun t46 =>
  again [t46] w9) w8.drew)) (fun J =>
  JoinK (fun vs_2 w10 => ∀ _h_2 : Env,
  condK (nth vs_2 0)
  (K (.tuple #[(.pointer none), (.int .i64 3)]) w10)
  (ldnK 6 t6 (fun t35 w11 =>
  callK Tryz.prog 44 [t35] (fun t36 w12 =>
  notK t36 fun t37 =>
  condK t37
  (K (.tuple #[(.pointer none), (.int .i64 3)]) w12)
  (J [] w12)) w11) w10)) (fun J_1 =>
  DrawC [6, 10, 11] [[], [0], [0, 1], [0, 1, 2], [], [4], [0, 1, 2, 3, 4, 5], [0, 1, 2, 3, 4, 5, 6], [0, 1, 2, 3, 4, 5, 6, 7], [0, 1, 2, 3, 4, 5, 6, 7], [], [0, 1, 2, 3, 4, 5, 6, 7, 8, 10], [0, 1, 2, 3, 4, 5, 6, 7, 8, 9, 10, 11]] w7.drew (fun M_1 St_1 =>
  nilckK t16 fun t25 =>
  faK 1 t25 fun t26 =>
  sld1 (St_1 3) t26 fun t27 =>
  faK 0 t6 fun t28 =>
  sld1 (St_1 5) t28 fun t29 =>
  (runK Tryz.prog (Instr.lookup 85 t27 t29 true) (fun t30 w13 =>
  Mod (M_1 6) w7.drew w13 ∧
  extK 0 t30 fun t31 =>
  extK 1 t30 fun t32 =>
  newK 84 [(.int .i64 0), (.bool false), (.int .u8 0), (.bool false), (.bool false), (.int .i64 0)] (fun t7 w14 =>
  Mod (M_1 10) w13 w14 ∧
  stnK 6 t7 t31 (fun w15 =>
  Mod (M_1 11) w14 w15 ∧
  J_1 [t32] w15) w14) w13) w7.drew) ∧
  (newK 84 [(.int .i64 0), (.bool false), (.int .u8 0), (.bool false), (.bool false), (.int .i64 0)] (fun t7_1 w16 =>
  Mod (M_1 10) w7.drew w16 ∧
  runK Tryz.prog (Instr.lookup 85 t27 t29 true) (fun t30_1 w17 =>
  Mod (M_1 6) w16 w17 ∧
  extK 0 t30_1 fun t31_1 =>
  extK 1 t30_1 fun t32_1 =>
  stnK 6 t7_1 t31_1 (fun w18 =>
  Mod (M_1 11) w17 w18 ∧
  J_1 [t32_1] w18) w17) w16) w7.drew))))) w6) w5) w4)
  (nilckK t16 fun t48 =>
  faK 0 t48 fun t49 =>
  ld1K t49 (fun t50 w19 =>
  callK Tryz.prog 45 [t50, (.func (.func 46) #[] #[])] (fun _t51 w20 =>
  K (.tuple #[t16, (.int .i64 0)]) w20) w19) w4)) w3) w2) w1) w)
theorem S14_eq (v0 : Value) (K : Cont) (w : World) : S14 v0 K w = D Tryz.prog okf 53 (bodyOf Tryz.f14) (.node [] [] .nil (.node [] [] (.node [] [] .nil (.node [] [] (.node [] [] .nil .nil) .nil)) (.node [] [] .nil (.node [] [] (.node [] [] .nil (.node [19] [(2, 3), (6, 8), (19, 46)] (.node [] [] .nil (.node [] [] (.node [] [] .nil .nil) (.node [] [] (.node [] [] .nil (.cut [] [(2, 3), (7, 8), (23, 38)] (.cut [8] [(7, 8), (23, 32)] (.dt [6, 10, 11] [[], [0], [0, 1], [0, 1, 2], [], [4], [0, 1, 2, 3, 4, 5], [0, 1, 2, 3, 4, 5, 6], [0, 1, 2, 3, 4, 5, 6, 7], [0, 1, 2, 3, 4, 5, 6, 7], [], [0, 1, 2, 3, 4, 5, 6, 7, 8, 10], [0, 1, 2, 3, 4, 5, 6, 7, 8, 9, 10, 11]] [[6]] (.op 0 (.op 1 (.op 2 (.op 3 (.op 4 (.op 5 (.br (.op 6 (.op 7 (.op 8 (.op 9 (.op 10 (.op 11 (.op 12 .nil))))))) (.op 10 (.op 6 (.op 7 (.op 8 (.op 9 (.op 11 (.op 12 .nil))))))))))))))) (.node [] [] .nil (.node [] [] (.node [] [] .nil .nil) .nil))) (.dc [7] [[], [0], [0, 1], [0, 1, 2], [], [4], [], [0, 1, 2, 3, 4, 5, 6]] []))) .nil))) .nil)) (.node [] [] .nil (.node [] [] .nil .nil)))))) (retK Tryz.prog [.tmp 2, .tmp 3] K) (nth [v0]) w := by kernel_rfl
theorem S14_ok {v0 : Value} {K : Cont} {w : World} (h : S14 v0 K w) : callK Tryz.prog 14 [v0] K w :=
  callK_of (P := Tryz.prog) (ok := okf) (n := 53) (fn := Tryz.f14) (c := bodyOf Tryz.f14) (rs := [.tmp 2, .tmp 3]) (an := (.node [] [] .nil (.node [] [] (.node [] [] .nil (.node [] [] (.node [] [] .nil .nil) .nil)) (.node [] [] .nil (.node [] [] (.node [] [] .nil (.node [19] [(2, 3), (6, 8), (19, 46)] (.node [] [] .nil (.node [] [] (.node [] [] .nil .nil) (.node [] [] (.node [] [] .nil (.cut [] [(2, 3), (7, 8), (23, 38)] (.cut [8] [(7, 8), (23, 32)] (.dt [6, 10, 11] [[], [0], [0, 1], [0, 1, 2], [], [4], [0, 1, 2, 3, 4, 5], [0, 1, 2, 3, 4, 5, 6], [0, 1, 2, 3, 4, 5, 6, 7], [0, 1, 2, 3, 4, 5, 6, 7], [], [0, 1, 2, 3, 4, 5, 6, 7, 8, 10], [0, 1, 2, 3, 4, 5, 6, 7, 8, 9, 10, 11]] [[6]] (.op 0 (.op 1 (.op 2 (.op 3 (.op 4 (.op 5 (.br (.op 6 (.op 7 (.op 8 (.op 9 (.op 10 (.op 11 (.op 12 .nil))))))) (.op 10 (.op 6 (.op 7 (.op 8 (.op 9 (.op 11 (.op 12 .nil))))))))))))))) (.node [] [] .nil (.node [] [] (.node [] [] .nil .nil) .nil))) (.dc [7] [[], [0], [0, 1], [0, 1, 2], [], [4], [], [0, 1, 2, 3, 4, 5, 6]] []))) .nil))) .nil)) (.node [] [] .nil (.node [] [] .nil .nil))))))) good mixed Tryz.func14 (by kernel_rfl) (by kernel_rfl) (by kernel_rfl) (by kernel_rfl) (Eq.mp (S14_eq v0 K w) h)

/-- slices.Clone[[]rubric/api.Key,rubric/api.Key] -/
def S43 (v0 : Value) (K : Cont) (w : World) : Prop :=
  snilK v0 fun b4 =>
  condK (.bool b4)
  (K (.slice none 0 0) w)
  (rowK 84 6 0 [] [] (fun t5 w1 =>
  runK Tryz.prog (Builtin.append_ #[48, 48] 48 [t5, v0].toArray) (fun t7 w2 =>
  K t7 w2) w1) w)
theorem S43_eq (v0 : Value) (K : Cont) (w : World) : S43 v0 K w = D Tryz.prog okf 8 (bodyOf Tryz.f43) (.node [] [] .nil (.node [] [] (.node [] [] .nil (.node [] [] (.node [] [] .nil .nil) .nil)) (.node [] [] .nil .nil))) (retK Tryz.prog [.tmp 2] K) (nth [v0]) w := by kernel_rfl
theorem S43_ok {v0 : Value} {K : Cont} {w : World} (h : S43 v0 K w) : callK Tryz.prog 43 [v0] K w :=
  callK_of (P := Tryz.prog) (ok := okf) (n := 8) (fn := Tryz.f43) (c := bodyOf Tryz.f43) (rs := [.tmp 2]) (an := (.node [] [] .nil (.node [] [] (.node [] [] .nil (.node [] [] (.node [] [] .nil .nil) .nil)) (.node [] [] .nil .nil)))) good mixed Tryz.func43 (by kernel_rfl) (by kernel_rfl) (by kernel_rfl) (by kernel_rfl) (Eq.mp (S43_eq v0 K w) h)

/-- rubric/schema.may -/
def S44 (v0 : Value) (K : Cont) (w : World) : Prop :=
  boxnK 84 v0 (fun t1 w1 =>
  JoinK (fun vs w2 => ∀ _h : Env,
  condK (nth vs 0)
  (K (.bool false) w2)
  (faK 1 t1 fun t23 =>
  ld1K t23 (fun t24 w3 =>
  condK t24
  (faK 4 t1 fun t25 =>
  ld1K t25 (fun t26 w4 =>
  notK t26 fun t27 =>
  condK t27
  (faK 5 t1 fun t29 =>
  ld1K t29 (fun t30 w5 =>
  geK .i64 t30 (.int .i64 0) fun t31 =>
  condK t31
  (faK 5 t1 fun t34 =>
  ld1K t34 (fun t35 w6 =>
  leK .i64 t35 (.int .i64 8) fun t36 =>
  K t36 w6) w5)
  (K (.bool false) w5)) w4)
  (K (.bool false) w4)) w3)
  (faK 5 t1 fun t38 =>
  ld1K t38 (fun t39 w7 =>
  eqK .i64 t39 (.int .i64 0) fun t40 =>
  K t40 w7) w3)) w2)) (fun J =>
  faK 0 t1 fun t4 =>
  ld1K t4 (fun t5 w8 =>
  ltK .i64 t5 (.int .i64 1) fun t6 =>
  condK t6
  (J [(.bool true)] w8)
  (faK 0 t1 fun t8 =>
  ld1K t8 (fun t9 w9 =>
  gtK .i64 t9 (.int .i64 1000) fun t10 =>
  condK t10
  (J [(.bool true)] w9)
  (faK 2 t1 fun t13 =>
  ld1K t13 (fun t14 w10 =>
  ltK .u8 t14 (.int .u8 1) fun t15 =>
  condK t15
  (J [(.bool true)] w10)
  (faK 2 t1 fun t18 =>
  ld1K t18 (fun t19 w11 =>
  gtK .u8 t19 (.int .u8 4) fun t20 =>
  J [t20] w11) w10)) w9)) w8)) w1)) w
theorem S44_eq (v0 : Value) (K : Cont) (w : World) : S44 v0 K w = D Tryz.prog okf 41 (bodyOf Tryz.f44) (.node [] [] .nil (.node [] [] (.cut [3] [(3, 21)] .nil (.node [] [] (.node [] [] .nil .nil) (.node [] [] .nil (.node [] [] (.node [] [] .nil .nil) .nil)))) (.node [] [] .nil .nil))) (retK Tryz.prog [.tmp 2] K) (nth [v0]) w := by kernel_rfl
theorem S44_ok {v0 : Value} {K : Cont} {w : World} (h : S44 v0 K w) : callK Tryz.prog 44 [v0] K w :=
  callK_of (P := Tryz.prog) (ok := okf) (n := 41) (fn := Tryz.f44) (c := bodyOf Tryz.f44) (rs := [.tmp 2]) (an := (.node [] [] .nil (.node [] [] (.cut [3] [(3, 21)] .nil (.node [] [] (.node [] [] .nil .nil) (.node [] [] .nil (.node [] [] (.node [] [] .nil .nil) .nil)))) (.node [] [] .nil .nil)))) good mixed Tryz.func44 (by kernel_rfl) (by kernel_rfl) (by kernel_rfl) (by kernel_rfl) (Eq.mp (S44_eq v0 K w) h)

/-- rubric/schema.New$1 -/
def S46 (v0 v1 : Value) (K : Cont) (w : World) : Prop :=
  boxnK 84 v0 (fun t2 w1 =>
  boxnK 84 v1 (fun t3 w2 =>
  faK 0 t2 fun t5 =>
  ld1K t5 (fun t6 w3 =>
  faK 0 t3 fun t7 =>
  ld1K t7 (fun t8 w4 =>
  callK Tryz.prog 47 [t6, t8] (fun t9 w5 =>
  K t9 w5) w4) w3) w2) w1) w
theorem S46_eq (v0 v1 : Value) (K : Cont) (w : World) : S46 v0 v1 K w = D Tryz.prog okf 10 (bodyOf Tryz.f46) (.node [] [] .nil (.node [] [] .nil .nil)) (retK Tryz.prog [.tmp 4] K) (nth [v0, v1]) w := by kernel_rfl
theorem S46_ok {v0 v1 : Value} {K : Cont} {w : World} (h : S46 v0 v1 K w) : callK Tryz.prog 46 [v0, v1] K w :=
  callK_of (P := Tryz.prog) (ok := okf) (n := 10) (fn := Tryz.f46) (c := bodyOf Tryz.f46) (rs := [.tmp 4]) (an := (.node [] [] .nil (.node [] [] .nil .nil))) good mixed Tryz.func46 (by kernel_rfl) (by kernel_rfl) (by kernel_rfl) (by kernel_rfl) (Eq.mp (S46_eq v0 v1 K w) h)

/-- cmp.Compare[int] -/
def S47 (v0 v1 : Value) (K : Cont) (w : World) : Prop :=
  callK Tryz.prog 82 [v0] (fun t8 w1 =>
  callK Tryz.prog 82 [v1] (fun t10 w2 =>
  condK t8
  (condK t10
  (K (.int .i64 0) w2)
  (K (.int .i64 (-1)) w2))
  (condK t10
  (K (.int .i64 1) w2)
  (ltK .i64 v0 v1 fun t16 =>
  condK t16
  (K (.int .i64 (-1)) w2)
  (gtK .i64 v0 v1 fun t19 =>
  condK t19
  (K (.int .i64 1) w2)
  (K (.int .i64 0) w2))))) w1) w
theorem S47_eq (v0 v1 : Value) (K : Cont) (w : World) : S47 v0 v1 K w = D Tryz.prog okf 20 (bodyOf Tryz.f47) (.node [] [] .nil (.node [] [] .nil (.node [] [] .nil (.node [] [] (.node [] [] .nil (.node [] [] (.node [] [] (.node [] [] .nil (.node [] [] (.node [] [] .nil .nil) .nil)) (.node [] [] .nil .nil)) .nil)) (.node [] [] (.node [] [] .nil (.node [] [] (.node [] [] .nil .nil) .nil)) (.node [] [] (.node [] [] .nil (.node [] [] (.node [] [] .nil .nil) .nil)) (.node [] [] (.node [] [] .nil (.node [] [] (.node [] [] .nil .nil) .nil)) (.node [] [] .nil .nil)))))))) (retK Tryz.prog [.tmp 4] K) (nth [v0, v1]) w := by kernel_rfl
theorem S47_ok {v0 v1 : Value} {K : Cont} {w : World} (h : S47 v0 v1 K w) : callK Tryz.prog 47 [v0, v1] K w :=
  callK_of (P := Tryz.prog) (ok := okf) (n := 20) (fn := Tryz.f47) (c := bodyOf Tryz.f47) (rs := [.tmp 4]) (an := (.node [] [] .nil (.node [] [] .nil (.node [] [] .nil (.node [] [] (.node [] [] .nil (.node [] [] (.node [] [] (.node [] [] .nil (.node [] [] (.node [] [] .nil .nil) .nil)) (.node [] [] .nil .nil)) .nil)) (.node [] [] (.node [] [] .nil (.node [] [] (.node [] [] .nil .nil) .nil)) (.node [] [] (.node [] [] .nil (.node [] [] (.node [] [] .nil .nil) .nil)) (.node [] [] (.node [] [] .nil (.node [] [] (.node [] [] .nil .nil) .nil)) (.node [] [] .nil .nil))))))))) good mixed Tryz.func47 (by kernel_rfl) (by kernel_rfl) (by kernel_rfl) (by kernel_rfl) (Eq.mp (S47_eq v0 v1 K w) h)

/-- (*rubric/schema.Schema).Find -/
def S193 (v0 v1 : Value) (K : Cont) (w : World) : Prop :=
  newK 84 [(.int .i64 0), (.bool false), (.int .u8 0), (.bool false), (.bool false), (.int .i64 0)] (fun t4 w1 =>
  pnilK v0 fun b9 =>
  condK (.bool b9)
  (buildK [(0, 1), (1, 1), (2, 1), (3, 1), (4, 1), (5, 1)] [(.int .i64 0), (.bool false), (.int .u8 0), (.bool false), (.bool false), (.int .i64 0)] [] fun t10 =>
  stnK 6 t4 t10 (fun w2 =>
  ldnK 6 t4 (fun r0 w3 =>
  K (.tuple #[r0, (.bool false)]) w3) w2) w1)
  (nilckK v0 fun t13 =>
  faK 1 t13 fun t14 =>
  ld1K t14 (fun t15 w4 =>
  runK Tryz.prog (Instr.lookup 85 t15 v1 true) (fun t17 w5 =>
  extK 0 t17 fun t18 =>
  extK 1 t17 fun t19 =>
  newK 84 [(.int .i64 0), (.bool false), (.int .u8 0), (.bool false), (.bool false), (.int .i64 0)] (fun t6 w6 =>
  stnK 6 t6 t18 (fun w7 =>
  ldnK 6 t6 (fun t20 w8 =>
  stnK 6 t4 t20 (fun w9 =>
  ldnK 6 t4 (fun r0_1 w10 =>
  K (.tuple #[r0_1, t19]) w10) w9) w8) w7) w6) w5) w4) w1)) w
theorem S193_eq (v0 v1 : Value) (K : Cont) (w : World) : S193 v0 v1 K w = D Tryz.prog okf 22 (bodyOf Tryz.f193) (.node [] [] .nil (.node [] [] (.node [] [] .nil (.node [] [] (.node [] [] .nil .nil) .nil)) (.node [] [] .nil (.node [] [] .nil .nil)))) (retK Tryz.prog [.cell 4 84, .tmp 5] K) (nth [v0, v1]) w := by kernel_rfl
theorem S193_ok {v0 v1 : Value} {K : Cont} {w : World} (h : S193 v0 v1 K w) : callK Tryz.prog 193 [v0, v1] K w :=
  callK_of (P := Tryz.prog) (ok := okf) (n := 22) (fn := Tryz.f193) (c := bodyOf Tryz.f193) (rs := [.cell 4 84, .tmp 5]) (an := (.node [] [] .nil (.node [] [] (.node [] [] .nil (.node [] [] (.node [] [] .nil .nil) .nil)) (.node [] [] .nil (.node [] [] .nil .nil))))) good mixed Tryz.func193 (by kernel_rfl) (by kernel_rfl) (by kernel_rfl) (by kernel_rfl) (Eq.mp (S193_eq v0 v1 K w) h)

/-- cmp.isNaN[int] -/
def S82 (v0 : Value) (K : Cont) (w : World) : Prop :=
  neK .i64 v0 v0 fun t5 =>
  K t5 w
theorem S82_eq (v0 : Value) (K : Cont) (w : World) : S82 v0 K w = D Tryz.prog okf 6 (bodyOf Tryz.f82) (.node [] [] .nil (.node [] [] .nil .nil)) (retK Tryz.prog [.tmp 2] K) (nth [v0]) w := by kernel_rfl
theorem S82_ok {v0 : Value} {K : Cont} {w : World} (h : S82 v0 K w) : callK Tryz.prog 82 [v0] K w :=
  callK_of (P := Tryz.prog) (ok := okf) (n := 6) (fn := Tryz.f82) (c := bodyOf Tryz.f82) (rs := [.tmp 2]) (an := (.node [] [] .nil (.node [] [] .nil .nil))) good mixed Tryz.func82 (by kernel_rfl) (by kernel_rfl) (by kernel_rfl) (by kernel_rfl) (Eq.mp (S82_eq v0 K w) h)

end Go.Proofs.YtlbaopamhkmepaaGreatDoor

namespace Go.K
open Go

def MapI (w : World) (b : Nat) (l : List (Int × Value)) : Prop := ∃ es clock, w.heap[b]? = some (.map es clock) ∧ es.toList.map (fun e => (e.key, e.val)) = l.map fun p => (Value.int .i64 p.1, p.2)
theorem MapI.lt {w : World} {b : Nat} {l : List (Int × Value)} (h : MapI w b l) : b < w.heap.size := by
  obtain ⟨es, c, hb, _⟩ := h
  exact (Array.getElem?_eq_some_iff.1 hb).1
theorem MapI.mod {M : Nat → Prop} {w w' : World} {b : Nat} {l : List (Int × Value)} (h : MapI w b l) (hm : Mod M w w') (hb : ¬ M b) : MapI w' b l := by
  have hl := h.lt
  obtain ⟨es, c, h1, h2⟩ := h
  exact ⟨es, c, (hm.same b hl hb).trans h1, h2⟩
theorem MapI.make (w : World) : MapI (w.alloc (.map #[] 0)) w.heap.size [] := ⟨#[], 0, (MapKept.heap_alloc w _).1, rfl⟩

theorem findNow_int (k : Int) : ∀ (es : List MapEntry) (l : List (Int × Value)) (i : Nat), (es.map fun e => (e.key, e.val)) = (l.map fun p => (Value.int .i64 p.1, p.2)) →
    ∃ r, Instr.findNow (.int .i64) (.int .i64 k) es i = some r ∧ ((r = none ∧ l.find? (fun p => decide (p.1 = k)) = none) ∨ ∃ j p, r = some (j, p.2) ∧ l.find? (fun p => decide (p.1 = k)) = some p) := by
  intro es
  induction es with
  | nil =>
    intro l i h
    cases l with
    | nil => exact ⟨none, rfl, .inl ⟨rfl, rfl⟩⟩
    | cons p l => simp at h
  | cons e es ih =>
    intro l i h
    cases l with
    | nil => simp at h
    | cons p l =>
      simp only [List.map_cons, List.cons.injEq, Prod.mk.injEq] at h
      obtain ⟨⟨h1, h2⟩, h3⟩ := h
      obtain ⟨r, hr, hiff⟩ := MapKept.sameNow_of_keys (d := .int .i64) (a := .int .i64 k) (b := e.key) rfl (by rw [h1]; rfl)
      rw [h1] at hiff
      cases r with
      | true =>
        have hk : k = p.1 := by have := hiff.1 rfl; simpa using this
        exact ⟨some (i, e.val), by simp [Instr.findNow, hr], .inr ⟨i, p, by rw [h2], by simp [hk]⟩⟩
      | false =>
        have hk : ¬ p.1 = k := fun e => by have := hiff.2 (by rw [e]); cases this
        obtain ⟨r, h4, h5⟩ := ih l (i + 1) h3
        refine ⟨r, by simp [Instr.findNow, hr, h4], ?_⟩
        simpa [List.find?_cons, hk] using h5
theorem isKeyI (k : Int) : MapKept.IsKey (.int .i64) (.int .i64 k) := rfl
theorem map_lookup {P : Program} {t kt et : TypeId} {z : Value} {w : World} {b : Nat} {l : List (Int × Value)} (ht : P.underlying t = some (.map kt et)) (hk : P.underlying kt = some (.int .i64)) (hz : (zeroValue et).run P w = .ok z w) (h : MapI w b l) (k : Int) :
    (Instr.lookup t (.map (some b)) (.int .i64 k) true).run P w = .ok (.tuple #[((l.find? fun p => decide (p.1 = k)).map (·.2)).getD z, .bool (l.find? fun p => decide (p.1 = k)).isSome]) w := by
  obtain ⟨es, clock, hb, he⟩ := h
  obtain ⟨r, h1, h2⟩ := findNow_int k es.toList l 0 he
  have hf := MapKept.run_findKey (w := w) hk h1
  have hc := fun em => MapKept.run_checkKey (w := w) hk (isKeyI k) em 9999
  rcases h2 with ⟨rfl, h2⟩ | ⟨j, p, rfl, h2⟩
  · simp [Instr.lookup, run_underlying ht, MapKept.run_getObj_map hb, hc, hf, hz, Result.andThen, h2]
  · simp [Instr.lookup, run_underlying ht, MapKept.run_getObj_map hb, hc, hf, Result.andThen, h2]
theorem map_update {P : Program} {t kt et : TypeId} {w : World} {b : Nat} {l : List (Int × Value)} (ht : P.underlying t = some (.map kt et)) (hk : P.underlying kt = some (.int .i64)) (h : MapI w b l) (k : Int) (v : Value) (hn : l.find? (fun p => decide (p.1 = k)) = none) :
    ∃ w', (Instr.mapUpdate t (.map (some b)) (.int .i64 k) v).run P w = .ok () w' ∧ MapI w' b (l ++ [(k, v)]) ∧ Mod (fun x => x = b) w w' := by
  obtain ⟨es, clock, hb, he⟩ := h
  obtain ⟨r, h1, h2⟩ := findNow_int k es.toList l 0 he
  have hf := MapKept.run_findKey (w := w) hk h1
  have hc := fun em => MapKept.run_checkKey (w := w) hk (isKeyI k) em 9999
  rcases h2 with ⟨rfl, h2⟩ | ⟨j, p, rfl, h2⟩
  · refine ⟨{ w with heap := w.heap.setIfInBounds b (.map (es.push ⟨.int .i64 k, v, clock⟩) (clock + 1)) }, by simp [Instr.mapUpdate, run_underlying ht, MapKept.run_getObj_map hb, hc, hf, MapKept.run_setObj_map _ hb, Result.andThen], ⟨_, _, (MapKept.heap_set hb).1, ?_⟩, ⟨rfl, rfl, rfl, by simp, fun x _ hx => (MapKept.heap_set hb).2 x hx⟩⟩
    simp [he]
  · rw [h2] at hn; cases hn
end Go.K
