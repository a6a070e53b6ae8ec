/- Contracts: the document's values, keys, sets and patches that may be. Conditions: the size of a text. -/
import Derived.Test.YtmfplfaeibehiaaOE
namespace Go.Proofs.Ytmfplfaeibehiaa
open Go Go.K

theorem cell_allocF (W : World) (c : Array Value) (t : TypeId) (fr : Nat × Nat) (i : Nat) : (W.alloc (.cells c t fr)).cell? ⟨W.heap.size, i, none⟩ = c[i]? := by
  have h : (W.alloc (.cells c t fr)).heap[W.heap.size]? = some (.cells c t fr) := heap_alloc_new W _
  unfold World.cell?
  simp only [h]
  rfl
theorem strbytes {s : ByteArray} {K : Cont} {w : World} (hs : s.size * 4 ≤ 140737488355328) (hK : ∀ v w', Grow w w' → RBytes (fun _ => True) w' v (bytesL s) → K v w') : runK Try.prog (convert 9 137 (.string s)) K w := by
  refine ⟨_, _, run_bytes_of_string w _ _ 5 s (by kernel_rfl) (by kernel_rfl) (by kernel_rfl), hK _ _ ((Mod.drew (fun _ => False) w).trans (Mod.alloc _ _ _)) ?_⟩
  have hl : (bytesL s).length = s.size := by simp [bytesL]
  have hm : s.size ≤ maxLen := by simp only [maxLen]; omega
  refine ⟨_, _, by rw [hl], by rw [hl]; exact grownCap_ge _ _ _ _, grownCap_le_maxLen _ _ _ _ hm, fun i x hx => ⟨_, [.int .u8 x], rfl, trivial, rfl, fun j u hu => ?_, rfl⟩⟩
  have hj : j = 0 := by have := (List.getElem?_eq_some_iff.1 hu).1; simp at this; exact this
  subst hj
  simp at hu; subst hu
  rw [addr0, Nat.mul_one, Nat.add_zero]
  have hi := (List.getElem?_eq_some_iff.1 hx).1
  rw [hl] at hi
  have hx' : x = ((s.data[i]'hi).toNat : Int) := by
    simp only [bytesL, List.getElem?_map, Array.getElem?_toList] at hx
    rw [Array.getElem?_eq_getElem hi] at hx
    simpa using hx.symm
  subst hx'
  have hs2 : i < s.data.size := hi
  refine (cell_allocF w.drew _ _ _ i).trans ?_
  simp [bytesRow, Array.getElem?_append, hi]
/-- bits that say that it is no number -/
def NoNum (f : Int) : Prop := 9218868437227405312 < f.tmod 9223372036854775808
instance (f : Int) : Decidable (NoNum f) := by unfold NoNum; infer_instance
theorem none_ok {f : Int} {w : World} : callK Try.prog 109 [.int .u64 f] (fun v w' => v = .bool (decide (NoNum f)) ∧ w' = w) w := by
  apply S109_ok
  unfold S109
  refine rem_i (by decide) ?_
  rw [gtK_i]
  exact ⟨rfl, rfl⟩
def noS : ByteArray := ByteArray.mk #[]
/-- a value that may be -/
def ValOK (v : AVal) : Prop := (v.kind = 1 ∧ v = ⟨1, v.n, 0, noS⟩ ∧ (v.n = 0 ∨ v.n = 1)) ∨ (v.kind = 2 ∧ v = ⟨2, v.n, 0, noS⟩) ∨ (v.kind = 3 ∧ v = ⟨3, 0, v.f, noS⟩ ∧ (¬ NoNum v.f ∨ v.f = 9221120237041090560)) ∨
  (v.kind = 4 ∧ v = ⟨4, 0, 0, v.s⟩ ∧ v.s.size ≤ 64 ∧ (readB (bytesL v.s)).isSome = true)
instance (v : AVal) : Decidable (ValOK v) := by unfold ValOK; infer_instance
theorem AVal.one (v : AVal) : ∀ u ∈ v.cells, u.oneCell' = true := by
  intro u hu
  simp only [AVal.cells, List.mem_cons, List.not_mem_nil, or_false] at hu
  rcases hu with rfl | rfl | rfl | rfl <;> rfl
theorem rval_ok {v : AVal} {w : World} (hs : v.s.size * 4 ≤ 140737488355328) :
    callK Try.prog 94 [.agg v.cells.toArray] (fun v' w' => v' = .bool (decide (ValOK v)) ∧ Grow w w') w := by
  apply S94_ok
  unfold S94
  refine boxn_i fun b w1 _ hz g hc _ => ?_
  have l0 := hc 0 _ rfl
  have l1 := hc 1 _ rfl
  have l2 := hc 2 _ rfl
  have l3 := hc 3 _ rfl
  have key : ∀ (b : Bool) w', Grow w w' → (b = true ↔ ValOK v) → Value.bool b = .bool (decide (ValOK v)) ∧ Grow w w' := fun b w' g h => ⟨by congr 1; rw [Bool.eq_iff_iff, h, decide_eq_true_eq], g⟩
  have no : ∀ w', Grow w w' → ¬ ValOK v → Value.bool false = .bool (decide (ValOK v)) ∧ Grow w w' := fun w' g h => key false w' g (by simp only [Bool.false_eq_true, false_iff]; exact h)
  have hall : ∀ j u, v.cells[j]? = some u → w1.cell? ((⟨b, 0, none⟩ : Addr).add j) = some u := hc
  simp only [faK_i]
  refine ld1K_i l0 ?_
  rw [eqK_i]
  refine condK_p (fun k1 => ?_) fun k1 => ?_
  · refine ldnK_i rfl hall (ld1K_i l1 ?_)
    refine ⟨(⟨1, v.n, 0, noS⟩ : AVal).cells.toArray, by kernel_rfl, runK_i (run_eq_val _ _ v ⟨1, v.n, 0, noS⟩ w1) ?_⟩
    refine condK_p (fun e1 => ?_) fun e1 => no _ g ?_
    · refine ld1K_i l1 ?_
      rw [eqK_i]
      refine condK_p (fun e2 => ?_) fun e2 => ?_
      · exact key true _ g (by simp only [true_iff]; exact .inl ⟨k1, e1, .inl e2⟩)
      · refine ld1K_i l1 ?_
        rw [eqK_i]
        refine key _ _ g ?_
        rw [decide_eq_true_eq]
        refine ⟨fun h => .inl ⟨k1, e1, .inr h⟩, fun h => ?_⟩
        rcases h with h | h | h | h
        · exact h.2.2.resolve_left e2
        · omega
        · omega
        · omega
    · rintro (h | h | h | h)
      · exact e1 h.2.1
      · omega
      · omega
      · omega
  rw [eqK_i]
  refine condK_p (fun k2 => ?_) fun k2 => ?_
  · refine ldnK_i rfl hall (ld1K_i l1 ?_)
    refine ⟨(⟨2, v.n, 0, noS⟩ : AVal).cells.toArray, by kernel_rfl, runK_i (run_eq_val _ _ v ⟨2, v.n, 0, noS⟩ w1) ?_⟩
    refine key _ _ g ?_
    rw [decide_eq_true_eq]
    refine ⟨fun h => .inr (.inl ⟨k2, h⟩), fun h => ?_⟩
    rcases h with h | h | h | h
    · omega
    · exact h.2
    · omega
    · omega
  rw [eqK_i]
  refine condK_p (fun k3 => ?_) fun k3 => ?_
  · refine ldnK_i rfl hall (ld1K_i l2 ?_)
    refine ⟨(⟨3, 0, v.f, noS⟩ : AVal).cells.toArray, by kernel_rfl, runK_i (run_eq_val _ _ v ⟨3, 0, v.f, noS⟩ w1) ?_⟩
    refine condK_p (fun e1 => ?_) fun e1 => no _ g ?_
    · refine ld1K_i l2 (callK_mono none_ok ?_)
      rintro v2 w2 ⟨rfl, rfl⟩
      rw [notK_i]
      refine condK_neg (fun e2 => ?_) fun e2 => ?_
      · refine ld1K_i l2 ?_
        rw [eqK_i]
        refine key _ _ g ?_
        rw [decide_eq_true_eq]
        refine ⟨fun h => .inr (.inr (.inl ⟨k3, e1, .inr h⟩)), fun h => ?_⟩
        rcases h with h | h | h | h
        · omega
        · omega
        · exact h.2.2.resolve_left fun h => h e2
        · omega
      · exact key true _ g (by simp only [true_iff]; exact .inr (.inr (.inl ⟨k3, e1, .inl e2⟩)))
    · rintro (h | h | h | h)
      · omega
      · omega
      · exact e1 h.2.1
      · omega
  rw [eqK_i]
  refine condK_p (fun k4 => ?_) fun k4 => no _ g ?_
  · refine ld1K_i l3 (strbytes hs fun v2 w2 g2 hb => callK_mono (read_ok hb ?_) ?_)
    · have : (bytesL v.s).length = v.s.size := by simp [bytesL]
      omega
    rintro v3 w3 ⟨g3, hm⟩
    have g13 := g2.trans g3
    have g03 := g.trans g13
    have sh : ∃ sl, v3 = .tuple #[sl, .int .i64 (if (readB (bytesL v.s)).isSome then 0 else 3)] := by
      cases hr : readB (bytesL v.s) with
      | none => rw [hr] at hm; exact ⟨_, by rw [hm]; rfl⟩
      | some l => rw [hr] at hm; obtain ⟨sl, e, _⟩ := hm; exact ⟨sl, by rw [e]; rfl⟩
    obtain ⟨sl, rfl⟩ := sh
    refine extK_i (vs := [sl, .int .i64 (if (readB (bytesL v.s)).isSome then 0 else 3)]) (by rfl) (extK_i (vs := [sl, .int .i64 (if (readB (bytesL v.s)).isSome then 0 else 3)]) (by rfl) ?_)
    refine ldnK_i rfl (fun j u hu => g13.cell (hall j u hu) fun h => h) (ld1K_i (g13.cell l3 fun h => h) ?_)
    refine ⟨(⟨4, 0, 0, v.s⟩ : AVal).cells.toArray, by kernel_rfl, runK_i (run_eq_val _ _ v ⟨4, 0, 0, v.s⟩ w3) ?_⟩
    refine condK_p (fun e1 => ?_) fun e1 => no _ g03 ?_
    · refine ld1K_i (g13.cell l3 fun h => h) ?_
      rw [slenK_i, leK_i]
      refine condK_p (fun e2 => ?_) fun e2 => no _ g03 ?_
      · rw [eqK_i]
        refine key _ _ g03 ?_
        rw [decide_eq_true_eq]
        constructor
        · intro h
          refine .inr (.inr (.inr ⟨k4, e1, by omega, ?_⟩))
          cases hr : (readB (bytesL v.s)).isSome with
          | true => rfl
          | false => rw [hr] at h; simp at h
        · intro h
          rcases h with h | h | h | h
          · omega
          · omega
          · omega
          · rw [h.2.2.2]; rfl
      · rintro (h | h | h | h)
        · omega
        · omega
        · omega
        · have := h.2.2.1; omega
    · rintro (h | h | h | h)
      · omega
      · omega
      · omega
      · exact e1 h.2.1
  · rintro (h | h | h | h) <;> omega

/-! ### keys -/
def DKey.zero : DKey := ⟨0, false, 0, false, false, 0⟩
def findK (keys : List DKey) (id : Int) : Option DKey := keys.find? fun k => decide (k.id = id)
theorem find_ok {S : Nat → Prop} {v : Value} {keys : List DKey} {id : Int} {w : World} (h : RKeys S w v keys) :
    callK Try.prog 97 [v, .int .i64 id] (fun v' w' => v' = .tuple #[.agg ((findK keys id).getD DKey.zero).cells.toArray, .bool (findK keys id).isSome] ∧ Grow w w') w := by
  apply S97_ok
  unfold S97
  obtain ⟨a, c, rfl, hm⟩ := h.shape
  simp only [maxLen] at hm
  refine newz_i fun b w1 hb hz g _ hl => ?_
  have fillBox : ∀ (k : DKey) (K' : Cont), (∀ w2, Grow w w2 → K' (.agg k.cells.toArray) w2) → stnK 6 (.pointer (some ⟨b, 0, none⟩)) (.agg k.cells.toArray) (fun w5 => ldnK 6 (.pointer (some ⟨b, 0, none⟩)) K' w5) w1 := by
    intro k K' hK'
    refine stn_over rfl (RKey.one (w := w) (x := k) rfl) hl fun w2 m2 hc2 _ => ?_
    exact ldnK_i (vs := k.cells) rfl hc2 (hK' _ (g.next m2 fun x hx e => by omega))
  refine LoopK_i (fun vs w2 => ∃ i : Nat, i ≤ keys.length ∧ vs = [.int .i64 i] ∧ w2 = w1 ∧ ∀ k ∈ keys.take i, ¬ k.id = id) (fun vs _ => keys.length - iOf vs 0) ⟨0, Nat.zero_le _, rfl, rfl, by simp⟩ ?_
  rintro vs _ ⟨i, hi, rfl, rfl, hno⟩ _
  rename World => w1
  rw [lenK_i, nth_z, List.headD_cons, ltK_i]
  refine condK_p (fun hlt => ?_) fun hge => ?_
  · have hlt' : i < keys.length := by omega
    obtain ⟨p, r, rfl, _, hr, hc, rfl⟩ := (h.grow g (by decide) fun _ _ h => h).get hlt'
    refine ixK_n hlt' ?_
    rw [faK_i, Addr.add_add]
    refine ld1K_i (hc 0 _ rfl) ?_
    rw [eqK_i]
    refine condK_p (fun he => ?_) fun he => ?_
    · refine ixK_n hlt' (ldnK_i hr (fun j u hu => by rw [Addr.add_add]; exact hc j u hu) ?_)
      have hf : findK keys id = some keys[i] := by
        unfold findK
        rw [List.find?_eq_some_iff_append]
        refine ⟨by simpa using he, keys.take i, keys.drop (i + 1), ?_, fun k hk => by simpa using hno k hk⟩
        rw [← List.drop_eq_getElem_cons hlt', List.take_append_drop]
      rw [hf]
      exact fillBox keys[i] _ fun w2 g2 => ⟨rfl, g2⟩
    · rw [addK_i, loop_step (by omega)]
      refine ⟨⟨i + 1, hlt', rfl, rfl, fun k hk => ?_⟩, by rw [iOf0, iOf0]; omega⟩
      rw [List.take_add_one, List.getElem?_eq_getElem hlt'] at hk
      rcases List.mem_append.1 hk with hk | hk
      · exact hno k hk
      · simp at hk; subst hk; exact he
  · have : i = keys.length := by omega
    subst this
    rw [List.take_length] at hno
    have hf : findK keys id = none := by
      unfold findK
      rw [List.find?_eq_none]
      intro k hk; simpa using hno k hk
    rw [hf]
    refine ⟨DKey.zero.cells.toArray, by kernel_rfl, ?_⟩
    exact fillBox DKey.zero _ fun w2 g2 => ⟨rfl, g2⟩
def FitsK (keys : List DKey) (id : Int) (v : AVal) : Prop := ∃ k, findK keys id = some k ∧ ValOK v ∧ v.kind = k.kind
open Classical in
theorem rfits_ok {S : Nat → Prop} {kv : Value} {keys : List DKey} {id : Int} {v : AVal} {w : World} (h : RKeys S w kv keys) (hs : v.s.size * 4 ≤ 140737488355328) :
    callK Try.prog 95 [kv, .int .i64 id, .agg v.cells.toArray] (fun v' w' => v' = .bool (decide (FitsK keys id v)) ∧ Grow w w') w := by
  apply S95_ok
  unfold S95
  have no : ∀ w', Grow w w' → ¬ FitsK keys id v → Value.bool false = .bool (decide (FitsK keys id v)) ∧ Grow w w' := fun w' g h => ⟨by rw [decide_eq_false h], g⟩
  refine boxn_i fun b w1 _ hz g hc _ => ?_
  refine callK_mono (find_ok (h.grow g (by decide) fun _ _ h => h)) ?_
  rintro v2 w2 ⟨rfl, g2⟩
  refine extK_i (vs := [_, _]) (by rfl) (extK_i (vs := [_, _]) (by rfl) ?_)
  generalize hk : (findK keys id).getD DKey.zero = k
  refine newst_i (vs := k.cells) rfl (RKey.one (w := w) (x := k) rfl) fun b2 w3 _ hz3 g3 hc3 _ => ?_
  have g13 := g2.trans g3
  have g03 := g.trans g13
  cases hf : findK keys id with
  | none =>
    rw [Option.isSome_none]
    exact no _ g03 (by rintro ⟨k, e, _⟩; rw [hf] at e; cases e)
  | some k' =>
    rw [hf] at hk
    simp only [Option.getD_some] at hk
    subst hk
    rw [Option.isSome_some, condK_b, if_pos rfl]
    refine ldnK_i rfl (fun j u hu => g13.cell (hc j u hu) fun h => h) (callK_mono (rval_ok hs) ?_)
    rintro v4 w4 ⟨rfl, g4⟩
    have g04 := g03.trans g4
    refine condK_p (fun ho => ?_) fun ho => no _ g04 (by rintro ⟨_, _, h, _⟩; exact ho h)
    rw [faK_i]
    refine ld1K_i ((g13.trans g4).cell (hc 0 _ rfl) fun h => h) ?_
    rw [faK_i]
    refine ld1K_i (g4.cell (hc3 2 _ rfl) fun h => h) ?_
    rw [eqK_i]
    refine ⟨?_, g04⟩
    congr 1
    rw [decide_eq_decide]
    constructor
    · intro h; exact ⟨k', hf, ho, h⟩
    · rintro ⟨k, e, _, h⟩; rw [hf] at e; cases e; exact h
end Go.Proofs.Ytmfplfaeibehiaa
