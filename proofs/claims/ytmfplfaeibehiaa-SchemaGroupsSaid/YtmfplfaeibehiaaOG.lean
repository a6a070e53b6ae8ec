/- Contracts: the document's sets and patches that may be; keys that may be a schema's. Conditions: the sizes of texts. -/
import Derived.Test.YtmfplfaeibehiaaOF
namespace Go.Proofs.Ytmfplfaeibehiaa
open Go Go.K

/-- keys that rise, up to a place -/
def RisN {α : Type} (key : α → Int) (l : List α) (n : Nat) : Prop := ∀ i, 1 ≤ i → i < n → ∀ a b, l[i - 1]? = some a → l[i]? = some b → key a < key b
theorem ris_loop {α : Type} {k : Nat} {R : World → List Value → α → Prop} {key : α → Int} {S : Nat → Prop} {w : World} {a : Option Addr} {c : Nat} {l : List α} {K : Cont} (h : SlR S k R w (.slice a l.length c) l) (hm : l.length ≤ maxLen) (hk : 0 < k)
    (hR : ∀ w r x, R w r x → r[0]? = some (.int .i64 (key x))) (h1 : ∀ w', Grow w w' → RisN key l l.length → K (.bool true) w') (h0 : ∀ w', Grow w w' → ¬ RisN key l l.length → K (.bool false) w') :
    LoopK [(.int .i64 1)] (fun vs again w1 => ∀ _ : Env, lenK (.slice a l.length c) fun t6 => ltK .i64 (nth vs 0) t6 fun t7 => condK t7
      (DrawK w1 (fun C => subK .i64 (nth vs 0) (.int .i64 1) fun t12 => ixK k (.slice a l.length c) t12 fun t13 => faK 0 t13 fun t14 => qld1K C t14 fun t15 => ixK k (.slice a l.length c) (nth vs 0) fun t18 => faK 0 t18 fun t19 => qld1K C t19 fun t20 => geK .i64 t15 t20 fun t21 =>
        ∀ w2 : World, C w2 → condK t21 (K (.bool false) w2) (addK .i64 (nth vs 0) (.int .i64 1) fun t9 => again [t9] w2)))
      (K (.bool true) w1)) w := by
  simp only [maxLen] at hm
  refine LoopK_i (fun vs w1 => ∃ i : Nat, 1 ≤ i ∧ vs = [.int .i64 i] ∧ Grow w w1 ∧ (i ≤ l.length ∨ i = 1) ∧ RisN key l i) (fun vs _ => l.length - iOf vs 0) ⟨1, Nat.le_refl _, rfl, Mod.refl _ _, .inr rfl, fun i h1 h2 => by omega⟩ ?_
  rintro vs w1 ⟨i, hi1, rfl, hg, hi2, hris⟩ _
  rw [lenK_i, nth_z, List.headD_cons, ltK_i]
  refine condK_p (fun hlt => ?_) fun hge => ?_
  · have hlt' : i < l.length := by omega
    refine ⟨fun w2 => Grow w1 w2, Mod.drew _ _, ?_⟩
    obtain ⟨p, r, rfl, _, hr, hc, hx⟩ := h.get (show i - 1 < l.length by omega)
    obtain ⟨_, r', e, _, hr', hc', hx'⟩ := h.get hlt'
    cases e
    rw [subK_i, wrap64 (by omega) (by omega), show ((i : Int) - 1) = ((i - 1 : Nat) : Int) by omega]
    refine ixK_n (by omega) ?_
    rw [faK_i, Addr.add_add]
    refine qld1K_i (fun w2 h2 => h2.cell (hg.cell (hc 0 _ (hR _ _ _ hx)) fun h => h) fun h => h) ?_
    refine ixK_n hlt' ?_
    rw [faK_i, Addr.add_add]
    refine qld1K_i (fun w2 h2 => h2.cell (hg.cell (hc' 0 _ (hR _ _ _ hx')) fun h => h) fun h => h) ?_
    rw [geK_i]
    intro w2 h2
    refine condK_p (fun hx => ?_) fun hx => ?_
    · refine h0 _ (hg.trans h2) fun hall => ?_
      have := hall i hi1 hlt' _ _ (List.getElem?_eq_getElem (by omega)) (List.getElem?_eq_getElem hlt')
      omega
    · rw [addK_i, loop_step (by omega)]
      refine ⟨⟨i + 1, by omega, rfl, hg.trans h2, .inl hlt', fun j h1 h2 a b ha hb => ?_⟩, by rw [iOf0, iOf0]; omega⟩
      by_cases e : j = i
      · subst e
        rw [List.getElem?_eq_getElem (by omega)] at ha
        rw [List.getElem?_eq_getElem hlt'] at hb
        cases ha; cases hb; omega
      · exact hris j h1 (by omega) a b ha hb
  · refine h1 _ hg fun j h1 h2 => ?_
    by_cases e : i ≤ l.length
    · exact hris j h1 (by omega)
    · omega
abbrev RisA (l : List Attr) : Prop := RisN Attr.key l l.length
abbrev RisC (l : List Chg) : Prop := RisN Chg.key l l.length
open Classical in
theorem risa_ok {S : Nat → Prop} {v : Value} {l : List Attr} {w : World} (h : RSet S w v l) : callK Try.prog 93 [v] (fun v' w' => v' = .bool (decide (RisA l)) ∧ Grow w w') w := by
  apply S93_ok
  unfold S93
  obtain ⟨a, c, rfl, hm⟩ := h.shape
  exact ris_loop (K := fun v' w' => v' = .bool (decide (RisA l)) ∧ Grow w w') (key := Attr.key) h hm (by decide) (fun w r x hx => by subst hx; rfl) (fun w' g hr => ⟨by rw [decide_eq_true hr], g⟩) fun w' g hr => ⟨by rw [decide_eq_false hr], g⟩
open Classical in
theorem risc_ok {S : Nat → Prop} {v : Value} {l : List Chg} {w : World} (h : RPat S w v l) : callK Try.prog 96 [v] (fun v' w' => v' = .bool (decide (RisC l)) ∧ Grow w w') w := by
  apply S96_ok
  unfold S96
  obtain ⟨a, c, rfl, hm⟩ := h.shape
  exact ris_loop (K := fun v' w' => v' = .bool (decide (RisC l)) ∧ Grow w w') (key := Chg.key) h hm (by decide) (fun w r x hx => by subst hx; rfl) (fun w' g hr => ⟨by rw [decide_eq_true hr], g⟩) fun w' g hr => ⟨by rw [decide_eq_false hr], g⟩

/-- why a set may not be -/
def SetBad (l : List Attr) : Prop := ¬ RisA l ∨ 64 < l.length ∨ ∃ a ∈ l, ¬ ValOK a.val
def SetNoKey (keys : List DKey) (l : List Attr) : Prop := ∃ a ∈ l, ¬ FitsK keys a.key a.val
open Classical in
noncomputable def maySet (keys : List DKey) (l : List Attr) : Int := if SetBad l then 3 else if SetNoKey keys l then 4 else 0
open Classical in
theorem mayset_ok {S S' : Nat → Prop} {kv v : Value} {keys : List DKey} {l : List Attr} {w : World} (hk : RKeys S w kv keys) (h : RSet S' w v l) (hs : ∀ a ∈ l, a.val.s.size * 4 ≤ 140737488355328) :
    callK Try.prog 81 [kv, v] (fun v' w' => v' = .int .i64 (maySet keys l) ∧ Grow w w') w := by
  apply S81_ok
  unfold S81
  obtain ⟨a, c, rfl, hm⟩ := h.shape
  simp only [maxLen] at hm
  have bad : ∀ w', Grow w w' → SetBad l → Value.int .i64 3 = .int .i64 (maySet keys l) ∧ Grow w w' := fun w' g hb => ⟨by rw [maySet, if_pos hb], g⟩
  refine JoinK_i (fun vs w1 => Grow w w1 ∧ RisA l ∧ l.length ≤ 64) ?_ ?_
  · rintro vs w1 ⟨g1, hris, h64⟩ _
    refine LoopK_i (fun vs w2 => ∃ i : Nat, i ≤ l.length ∧ vs = [.int .i64 i] ∧ Grow w w2 ∧ ∀ a ∈ l.take i, ValOK a.val) (fun vs _ => l.length - iOf vs 0) ⟨0, Nat.zero_le _, rfl, g1, by simp⟩ ?_
    rintro vs w2 ⟨i, hi, rfl, g2, hv⟩ _
    rw [lenK_i, nth_z, List.headD_cons, ltK_i]
    refine condK_p (fun hlt => ?_) fun hge => ?_
    · have hlt' : i < l.length := by omega
      obtain ⟨p, r, rfl, _, hr, hc, rfl⟩ := (h.grow g2 (by decide) fun _ _ h => h).get hlt'
      refine ixK_n hlt' ?_
      rw [faK_i, Addr.add_add]
      refine ldnK_i (vs := l[i].val.cells) rfl (fun j u hu => by rw [Addr.add_add, Nat.add_assoc]; exact hc (1 + j) u (by rw [Nat.add_comm]; exact hu)) ?_
      refine callK_mono (rval_ok (hs _ (by simp))) ?_
      rintro v3 w3 ⟨rfl, g3⟩
      rw [notK_i]
      refine condK_neg (fun ho => ?_) fun ho => bad _ (g2.trans g3) (.inr (.inr ⟨_, by simp, ho⟩))
      rw [addK_i, loop_step (by omega)]
      refine ⟨⟨i + 1, hlt', rfl, g2.trans g3, fun a ha => ?_⟩, by rw [iOf0, iOf0]; omega⟩
      rw [List.take_add_one, List.getElem?_eq_getElem hlt'] at ha
      rcases List.mem_append.1 ha with ha | ha
      · exact hv a ha
      · simp at ha; subst ha; exact ho
    · have : i = l.length := by omega
      subst this
      rw [List.take_length] at hv
      have ok : ¬ SetBad l := by
        rintro (h | h | ⟨a, ha, h⟩)
        · exact h hris
        · omega
        · exact h (hv a ha)
      refine LoopK_i (fun vs w3 => ∃ i : Nat, i ≤ l.length ∧ vs = [.int .i64 i] ∧ Grow w w3 ∧ ∀ a ∈ l.take i, FitsK keys a.key a.val) (fun vs _ => l.length - iOf vs 0) ⟨0, Nat.zero_le _, rfl, g2, by simp⟩ ?_
      rintro vs w3 ⟨i, hi, rfl, g3, hf⟩ _
      rw [lenK_i, nth_z, List.headD_cons, ltK_i]
      refine condK_p (fun hlt => ?_) fun hge => ?_
      · have hlt' : i < l.length := by omega
        have g3d : Grow w w3.drew := g3.trans (Mod.drew _ _)
        obtain ⟨p, r, rfl, hS, hr, hc, rfl⟩ := ((h.old (by decide)).grow g3d (by decide) fun _ _ h => h).get hlt'
        refine drawC_i (fun _ b => False) ?_
        refine ixK_n hlt' ?_
        rw [faK_i, Addr.add_add]
        refine sld1_i ⟨hc 0 _ rfl, fun j _ h => h⟩ ?_
        refine ixK_n hlt' ?_
        rw [faK_i, Addr.add_add]
        refine sldn_i (vs := l[i].val.cells) rfl (fun j u hu => ⟨by rw [Addr.add_add, Nat.add_assoc]; exact hc (1 + j) u (by rw [Nat.add_comm]; exact hu), fun j _ h => h⟩) ?_
        refine callK_mono (rfits_ok (hk.grow g3d (by decide) fun _ _ h => h) (hs _ (by simp))) ?_
        rintro v4 w4 ⟨rfl, g4⟩
        refine ⟨g4, ?_⟩
        rw [notK_i]
        refine condK_neg (fun ho => ?_) fun ho => ⟨by rw [maySet, if_neg ok, if_pos ⟨_, by simp, ho⟩], g3d.trans g4⟩
        rw [addK_i, loop_step (by omega)]
        refine ⟨⟨i + 1, hlt', rfl, g3d.trans g4, fun a ha => ?_⟩, by rw [iOf0, iOf0]; omega⟩
        rw [List.take_add_one, List.getElem?_eq_getElem hlt'] at ha
        rcases List.mem_append.1 ha with ha | ha
        · exact hf a ha
        · simp at ha; subst ha; exact ho
      · have : i = l.length := by omega
        subst this
        rw [List.take_length] at hf
        refine ⟨?_, g3⟩
        rw [maySet, if_neg ok, if_neg]
        rintro ⟨a, ha, h⟩; exact h (hf a ha)
  · refine callK_mono (risa_ok h) ?_
    rintro v2 w2 ⟨rfl, g2⟩
    rw [notK_i]
    refine condK_neg (fun hr => ?_) fun hr => bad _ g2 (.inl hr)
    rw [lenK_i, gtK_i]
    refine condK_p (fun h6 => bad _ g2 (.inr (.inl (by omega)))) fun h6 => ⟨g2, hr, by omega⟩
def AVal.zero : AVal := ⟨0, 0, 0, noS⟩
def PatBad (p : List Chg) : Prop := ¬ RisC p ∨ 64 < p.length ∨ ∃ c ∈ p, (c.gone = true ∧ c.val ≠ AVal.zero) ∨ (c.gone = false ∧ ¬ ValOK c.val)
def PatNoKey (keys : List DKey) (p : List Chg) : Prop := ∃ c ∈ p, findK keys c.key = none ∨ (c.gone = false ∧ ¬ FitsK keys c.key c.val)
open Classical in
noncomputable def mayPat (keys : List DKey) (p : List Chg) : Int := if PatBad p then 3 else if PatNoKey keys p then 4 else 0
open Classical in
theorem maypat_ok {S S' : Nat → Prop} {kv v : Value} {keys : List DKey} {l : List Chg} {w : World} (hk : RKeys S w kv keys) (h : RPat S' w v l) (hs : ∀ a ∈ l, a.val.s.size * 4 ≤ 140737488355328) :
    callK Try.prog 82 [kv, v] (fun v' w' => v' = .int .i64 (mayPat keys l) ∧ Grow w w') w := by
  apply S82_ok
  unfold S82
  obtain ⟨a, c, rfl, hm⟩ := h.shape
  simp only [maxLen] at hm
  have bad : ∀ w', Grow w w' → PatBad l → Value.int .i64 3 = .int .i64 (mayPat keys l) ∧ Grow w w' := fun w' g hb => ⟨by rw [mayPat, if_pos hb], g⟩
  refine JoinK_i (fun vs w1 => Grow w w1 ∧ RisC l ∧ l.length ≤ 64) ?_ ?_
  · rintro vs w1 ⟨g1, hris, h64⟩ _
    refine LoopK_i (fun vs w2 => ∃ i : Nat, i ≤ l.length ∧ vs = [.int .i64 i] ∧ Grow w w2 ∧ ∀ c ∈ l.take i, ¬ ((c.gone = true ∧ c.val ≠ AVal.zero) ∨ (c.gone = false ∧ ¬ ValOK c.val))) (fun vs _ => l.length - iOf vs 0) ⟨0, Nat.zero_le _, rfl, g1, by simp⟩ ?_
    rintro vs w2 ⟨i, hi, rfl, g2, hv⟩ _
    rw [lenK_i, nth_z, List.headD_cons, ltK_i]
    refine condK_p (fun hlt => ?_) fun hge => ?_
    · have hlt' : i < l.length := by omega
      refine JoinK_i (fun vs w3 => Grow w w3 ∧ ¬ ((l[i].gone = true ∧ l[i].val ≠ AVal.zero) ∨ (l[i].gone = false ∧ ¬ ValOK l[i].val))) ?_ ?_
      · rintro vs w3 ⟨g3, ho⟩ _
        rw [addK_i, loop_step (by omega)]
        refine ⟨⟨i + 1, hlt', rfl, g3, fun a ha => ?_⟩, by rw [iOf0, iOf0]; omega⟩
        rw [List.take_add_one, List.getElem?_eq_getElem hlt'] at ha
        rcases List.mem_append.1 ha with ha | ha
        · exact hv a ha
        · simp at ha; subst ha; exact ho
      · have bad' : ∀ w', Grow w w' → ((l[i].gone = true ∧ l[i].val ≠ AVal.zero) ∨ (l[i].gone = false ∧ ¬ ValOK l[i].val)) → Value.int .i64 3 = .int .i64 (mayPat keys l) ∧ Grow w w' := fun w' g hb => bad w' g (.inr (.inr ⟨_, by simp, hb⟩))
        obtain ⟨p, r, rfl, _, hr, hc, hx⟩ := (h.grow g2 (by decide) fun _ _ h => h).get hlt'
        subst hx
        have cv : ∀ j u, l[i].val.cells[j]? = some u → w2.cell? (((p.add (i * 6)).add 2).add j) = some u := fun j u hu => by rw [Addr.add_add, Addr.add_add]; exact hc (2 + j) u (by rw [Nat.add_comm]; exact hu)
        have cg : w2.cell? ((p.add (i * 6)).add 1) = some (.bool l[i].gone) := by rw [Addr.add_add]; exact hc 1 _ rfl
        refine ixK_n hlt' ?_
        rw [faK_i]
        refine ld1K_i cg ?_
        cases hg : l[i].gone with
        | true =>
          rw [condK_b, if_pos rfl]
          refine ixK_n hlt' ?_
          rw [faK_i]
          refine ldnK_i (vs := l[i].val.cells) rfl cv ?_
          refine ⟨AVal.zero.cells.toArray, by kernel_rfl, runK_i (run_ne_val _ _ l[i].val AVal.zero w2) ?_⟩
          refine condK_neg (fun hz => ?_) fun hz => bad' _ g2 (.inl ⟨hg, hz⟩)
          refine ixK_n hlt' ?_
          rw [faK_i]
          refine ld1K_i cg ?_
          rw [hg, notK_i, condK_b]
          refine (if_neg (by simp)).mpr ⟨g2, ?_⟩
          rintro (h | h)
          · exact h.2 hz
          · cases h.1
        | false =>
          rw [condK_b]
          refine (if_neg (by simp)).mpr ?_
          refine ixK_n hlt' ?_
          rw [faK_i]
          refine ld1K_i cg ?_
          rw [hg, notK_i, condK_b]
          refine (if_pos (by simp)).mpr ?_
          refine ixK_n hlt' ?_
          rw [faK_i]
          refine ldnK_i (vs := l[i].val.cells) rfl cv ?_
          refine callK_mono (rval_ok (hs _ (by simp))) ?_
          rintro v3 w3 ⟨rfl, g3⟩
          rw [notK_i]
          refine condK_neg (fun ho => ⟨g2.trans g3, ?_⟩) fun ho => bad' _ (g2.trans g3) (.inr ⟨hg, ho⟩)
          rintro (h | h)
          · cases h.1
          · exact h.2 ho
    · have : i = l.length := by omega
      subst this
      rw [List.take_length] at hv
      have ok : ¬ PatBad l := by
        rintro (h | h | ⟨a, ha, h⟩)
        · exact h hris
        · omega
        · exact hv a ha h
      refine LoopK_i (fun vs w3 => ∃ i : Nat, i ≤ l.length ∧ vs = [.int .i64 i] ∧ Grow w w3 ∧ ∀ c ∈ l.take i, ¬ (findK keys c.key = none ∨ (c.gone = false ∧ ¬ FitsK keys c.key c.val))) (fun vs _ => l.length - iOf vs 0) ⟨0, Nat.zero_le _, rfl, g2, by simp⟩ ?_
      rintro vs w3 ⟨i, hi, rfl, g3, hf⟩ _
      rw [lenK_i, nth_z, List.headD_cons, ltK_i]
      refine condK_p (fun hlt => ?_) fun hge => ?_
      · have hlt' : i < l.length := by omega
        refine JoinK_i (fun vs w4 => Grow w w4 ∧ ¬ (findK keys l[i].key = none ∨ (l[i].gone = false ∧ ¬ FitsK keys l[i].key l[i].val))) ?_ ?_
        · rintro vs w4 ⟨g4, ho⟩ _
          rw [addK_i, loop_step (by omega)]
          refine ⟨⟨i + 1, hlt', rfl, g4, fun a ha => ?_⟩, by rw [iOf0, iOf0]; omega⟩
          rw [List.take_add_one, List.getElem?_eq_getElem hlt'] at ha
          rcases List.mem_append.1 ha with ha | ha
          · exact hf a ha
          · simp at ha; subst ha; exact ho
        · have bad' : ∀ w', Grow w w' → (findK keys l[i].key = none ∨ (l[i].gone = false ∧ ¬ FitsK keys l[i].key l[i].val)) → Value.int .i64 4 = .int .i64 (mayPat keys l) ∧ Grow w w' := fun w' g hb => ⟨by rw [mayPat, if_neg ok, if_pos ⟨_, by simp, hb⟩], g⟩
          obtain ⟨p, r, rfl, _, hr, hc, hx⟩ := h.get hlt'
          subst hx
          have cell : ∀ {W : World}, Grow w W → ∀ j u, l[i].cells[j]? = some u → W.cell? ((p.add (i * 6)).add j) = some u := fun hW j u hu => by rw [Addr.add_add]; exact hW.cell (hc j u hu) fun h => h
          refine ixK_n hlt' ?_
          rw [faK_i]
          refine ld1K_i (cell g3 0 _ rfl) ?_
          refine callK_mono (find_ok (hk.grow g3 (by decide) fun _ _ h => h)) ?_
          rintro v4 w4 ⟨rfl, g4⟩
          refine extK_i (vs := [_, _]) (by rfl) (extK_i (vs := [_, _]) (by rfl) ?_)
          generalize hkk : (findK keys l[i].key).getD DKey.zero = kk
          refine newst_i (vs := kk.cells) rfl (RKey.one (w := w) (x := kk) rfl) fun b5 w5 _ _ g5 _ _ => ?_
          have g05 : Grow w w5.drew := ((g3.trans g4).trans g5).trans (Mod.drew _ _)
          refine drawC_i (fun _ b => False) ?_
          rw [notK_i]
          cases hfk : findK keys l[i].key with
          | none =>
            rw [Option.isSome_none, condK_b]
            exact (if_pos (by rfl)).mpr (bad' _ g05 (.inl hfk))
          | some k' =>
            rw [Option.isSome_some, condK_b]
            refine (if_neg (by simp)).mpr ?_
            refine ixK_n hlt' ?_
            rw [faK_i]
            refine sld1_i ⟨cell g05 1 _ rfl, fun j _ h => h⟩ ?_
            rw [notK_i]
            cases hg : l[i].gone with
            | true =>
              rw [condK_b]
              refine (if_neg (by simp)).mpr ⟨g05, ?_⟩
              rintro (h | h)
              · first | cases h | (rw [hfk] at h; cases h)
              · first | cases h.1 | (rw [hg] at h; cases h.1)
            | false =>
              rw [condK_b]
              refine (if_pos (by simp)).mpr ?_
              refine ixK_n hlt' ?_
              rw [faK_i]
              refine sld1_i ⟨cell g05 0 _ rfl, fun j _ h => h⟩ ?_
              refine ixK_n hlt' ?_
              rw [faK_i]
              refine sldn_i (vs := l[i].val.cells) rfl (fun j u hu => ⟨by rw [Addr.add_add]; exact cell g05 (2 + j) u (by rw [Nat.add_comm]; exact hu), fun j _ h => h⟩) ?_
              refine callK_mono (rfits_ok (hk.grow g05 (by decide) fun _ _ h => h) (hs _ (by simp))) ?_
              rintro v6 w6 ⟨rfl, g6⟩
              refine ⟨g6, ?_⟩
              rw [notK_i]
              refine condK_neg (fun ho => ⟨g05.trans g6, ?_⟩) fun ho => bad' _ (g05.trans g6) (.inr ⟨hg, ho⟩)
              rintro (h | h)
              · first | cases h | (rw [hfk] at h; cases h)
              · exact h.2 ho
      · have : i = l.length := by omega
        subst this
        rw [List.take_length] at hf
        refine ⟨?_, g3⟩
        rw [mayPat, if_neg ok, if_neg]
        rintro ⟨a, ha, h⟩; exact hf a ha h
  · refine callK_mono (risc_ok h) ?_
    rintro v2 w2 ⟨rfl, g2⟩
    rw [notK_i]
    refine condK_neg (fun hr => ?_) fun hr => bad _ g2 (.inl hr)
    rw [lenK_i, gtK_i]
    refine condK_p (fun h6 => bad _ g2 (.inr (.inl (by omega)))) fun h6 => ⟨g2, hr, by omega⟩
end Go.Proofs.Ytmfplfaeibehiaa
