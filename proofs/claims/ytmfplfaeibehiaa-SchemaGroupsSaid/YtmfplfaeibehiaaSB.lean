/- A schema in memory; contracts of what reads it: Find, Len, Keys, Group; of one key by itself; of comparing keys. No conditions. -/
import Derived.Test.YtmfplfaeibehiaaOH
import Derived.Test.YtmfplfaeibehiaaS2
import Derived.Test.YtmfplfaeibehiaaSA
namespace Go.K
open Go
theorem pnilK_s {a : Addr} {K : Bool → Prop} (h : K false) : pnilK (.pointer (some a)) K := ⟨_, rfl, h⟩
theorem condK_f {A B : Prop} (h : B) : condK (.bool false) A B := h
theorem condK_t {A B : Prop} (h : A) : condK (.bool true) A B := h
theorem nilckK_s {a : Addr} {K : Value → Prop} (h : K (.pointer (some a))) : nilckK (.pointer (some a)) K := ⟨_, rfl, h⟩
end Go.K
namespace Go.Proofs.Ytmfplfaeibehiaa
open Go Go.K

theorem elem_key : ElemOK Try.prog 49 72 6 24 := ⟨Try.t72, .agg #[.int .i64 0, .bool false, .int .u8 0, .bool false, .bool false, .int .i64 0], by kernel_rfl, by kernel_rfl, by kernel_rfl, by kernel_rfl, by kernel_rfl, by rfl, by decide⟩
theorem elem_int : ElemOK Try.prog 79 3 1 8 := ⟨Try.t3, .int .i64 0, by kernel_rfl, by kernel_rfl, by kernel_rfl, by kernel_rfl, by kernel_rfl, by rfl, by decide⟩

open Classical in
theorem may1_ok {k : DKey} {w : World} : callK Try.prog 73 [.agg k.cells.toArray] (fun v' w' => v' = .bool (decide (KeyOK k)) ∧ Grow w w') w := by
  apply S73_ok
  unfold S73
  refine boxn_i fun b w1 _ _ g hc _ => ?_
  have l0 := hc 0 _ rfl
  have l1 := hc 1 _ rfl
  have l2 := hc 2 _ rfl
  have l4 := hc 4 _ rfl
  have l5 := hc 5 _ rfl
  simp only [faK_i]
  have ans : ∀ q : Bool, (q = true ↔ KeyOK k) → Value.bool q = .bool (decide (KeyOK k)) ∧ Grow w w1 := fun q h => ⟨by congr 1; rw [Bool.eq_iff_iff, h, decide_eq_true_eq], g⟩
  refine JoinK_i (fun vs w2 => w2 = w1 ∧ ∃ q : Bool, vs = [.bool q] ∧ (q = false ↔ 1 ≤ k.id ∧ k.id ≤ 1000 ∧ 1 ≤ k.kind ∧ k.kind ≤ 4)) ?_ ?_
  · rintro vs _ ⟨rfl, q, rfl, hq⟩ _
    rename World => w1
    rw [nth_z, List.headD_cons]
    cases q with
    | true => exact condK_t (ans false ⟨fun h => (nomatch h), fun h => by have := hq.2 ⟨h.1, h.2.1, h.2.2.1, h.2.2.2.1⟩; cases this⟩)
    | false =>
      obtain ⟨h1, h2, h3, h4⟩ := hq.1 rfl
      refine condK_f (ld1K_i l1 ?_)
      cases hb : k.block with
      | true =>
        refine condK_t (ld1K_i l4 ?_)
        rw [notK_i]
        cases hf : k.before with
        | true => exact condK_f (ans false ⟨fun h => (nomatch h), fun h => by have := h.2.2.2.2.2.2.2 hb; rw [hf] at this; cases this⟩)
        | false =>
          refine condK_t (ld1K_i l5 ?_)
          rw [geK_i]
          refine condK_p (fun h5 => ?_) fun h5 => ans false ⟨fun h => (nomatch h), fun h => by have := h.2.2.2.2.1; omega⟩
          refine ld1K_i l5 ?_
          rw [leK_i]
          refine ans _ ?_
          rw [decide_eq_true_eq]
          exact ⟨fun h6 => ⟨h1, h2, h3, h4, h5, h6, (fun e => by rw [hb] at e; cases e), fun _ => hf⟩, fun h => h.2.2.2.2.2.1⟩
      | false =>
        refine condK_f (ld1K_i l5 ?_)
        rw [eqK_i]
        refine ans _ ?_
        rw [decide_eq_true_eq]
        exact ⟨fun h6 => ⟨h1, h2, h3, h4, by omega, by omega, fun _ => h6, fun e => by rw [hb] at e; cases e⟩, fun h => h.2.2.2.2.2.2.1 hb⟩
  · refine ld1K_i l0 ?_
    rw [ltK_i]
    refine condK_p (fun h1 => ⟨rfl, true, rfl, ⟨fun h => (nomatch h), fun h => by omega⟩⟩) fun h1 => ?_
    refine ld1K_i l0 ?_
    rw [gtK_i]
    refine condK_p (fun h2 => ⟨rfl, true, rfl, ⟨fun h => (nomatch h), fun h => by omega⟩⟩) fun h2 => ?_
    refine ld1K_i l2 ?_
    rw [ltK_i]
    refine condK_p (fun h3 => ⟨rfl, true, rfl, ⟨fun h => (nomatch h), fun h => by omega⟩⟩) fun h3 => ?_
    refine ld1K_i l2 ?_
    rw [gtK_i]
    refine ⟨rfl, _, rfl, ?_⟩
    rw [decide_eq_false_iff_not]
    exact ⟨fun h => by omega, fun h => by omega⟩

theorem clone_key {S : Nat → Prop} {v : Value} {l : List DKey} {w : World} (h : RKeys S w v l) (hl : l.length ≤ 1099511627776) :
    callK Try.prog 72 [v] (fun v' w' => OwnR w.heap.size 72 6 RKey w' v' l ∧ Grow w w') w := by
  apply S72_ok
  unfold S72
  exact clone_g (K := fun v' w' => OwnR w.heap.size 72 6 RKey w' v' l ∧ Grow w w') elem_key h (by omega) (fun _ _ _ => RKey.one) (fun _ _ _ _ _ _ h => h) fun _ _ h g => ⟨h, g⟩

/-- how two ids compare -/
def cmpI (a b : Int) : Int := if a < b then -1 else if b < a then 1 else 0
theorem cmp_ok {a b : Int} {w : World} : callK Try.prog 76 [.int .i64 a, .int .i64 b] (fun v' w' => v' = .int .i64 (cmpI a b) ∧ w' = w) w := by
  have nan : ∀ (c : Int) (K : Cont), K (.bool false) w → callK Try.prog 91 [.int .i64 c] K w := by
    intro c K hK
    apply S91_ok
    unfold S91
    rw [neK_i]
    rw [show (!decide (c = c)) = false by simp]; exact hK
  apply S76_ok
  unfold S76
  refine nan _ _ (nan _ _ ?_)
  refine condK_f (condK_f ?_)
  rw [ltK_i]
  unfold cmpI
  refine condK_p (fun h => ⟨by rw [if_pos h], rfl⟩) fun h => ?_
  rw [gtK_i]
  exact condK_p (fun h2 => ⟨by rw [if_neg h, if_pos h2], rfl⟩) fun h2 => ⟨by rw [if_neg h, if_neg h2], rfl⟩

/-- a schema that was made, in memory -/
def SchR (D : Nat → Prop) (w : World) (v : Value) (ks : List DKey) : Prop :=
  ∃ b m kv l, v = .pointer (some ⟨b, 0, none⟩) ∧ D b ∧ D m ∧ w.cell? ⟨b, 0, none⟩ = some kv ∧ w.cell? ⟨b, 1, none⟩ = some (.map (some m)) ∧ SlR D 6 RKey w kv ks ∧ MapI w m l ∧
    ∀ id : Int, (l.find? fun p => decide (p.1 = id)).map (·.2) = (findK ks id).map fun k => .agg k.cells.toArray
theorem SchR.mod {D M : Nat → Prop} {w w' : World} {v : Value} {ks : List DKey} (h : SchR D w v ks) (hm : Mod M w w') (hd : ∀ b, b < w.heap.size → D b → ¬ M b) : SchR D w' v ks := by
  obtain ⟨b, m, kv, l, rfl, h1, h2, h3, h4, h5, h6, h7⟩ := h
  have hb := World.block_lt_of_cell? w _ h3
  exact ⟨b, m, kv, l, rfl, h1, h2, hm.cell h3 (hd _ hb h1), hm.cell h4 (hd _ hb h1), h5.mod hm hd (by decide) fun _ _ h => h, h6.mod hm (hd _ h6.lt h2), h7⟩
theorem SchR.grow {D : Nat → Prop} {w w' : World} {v : Value} {ks : List DKey} (h : SchR D w v ks) (hm : Grow w w') : SchR D w' v ks := h.mod hm fun _ _ _ h => h
theorem SchR.sub {D D' : Nat → Prop} {w : World} {v : Value} {ks : List DKey} (h : SchR D w v ks) (hd : ∀ b, b < w.heap.size → D b → D' b) : SchR D' w v ks := by
  obtain ⟨b, m, kv, l, rfl, h1, h2, h3, h4, h5, h6, h7⟩ := h
  exact ⟨b, m, kv, l, rfl, hd _ (World.block_lt_of_cell? w _ h3) h1, hd _ h6.lt h2, h3, h4, h5.sub hd (by decide) fun _ _ h => h, h6, h7⟩

theorem zero_key (w : World) : (zeroValue 72).run Try.prog w = .ok (.agg DKey.zero.cells.toArray) w := run_zeroValue (by kernel_rfl) w
theorem sfind_ok {D : Nat → Prop} {v : Value} {ks : List DKey} {w : World} (h : SchR D w v ks) (id : Int) :
    callK Try.prog 77 [v, .int .i64 id] (fun v' w' => v' = .tuple #[.agg ((findK ks id).getD DKey.zero).cells.toArray, .bool (findK ks id).isSome] ∧ Grow w w') w := by
  apply S77_ok
  unfold S77
  obtain ⟨b, m, kv, l, rfl, _, _, h3, h4, h5, h6, h7⟩ := h
  refine newz_i fun b4 w1 hb4 hz4 g4 _ hl4 => ?_
  refine pnilK_s (condK_f (nilckK_s ?_))
  rw [faK_i]
  refine ld1K_i (g4.cell (by rw [addr0]; exact h4) fun h => h) ?_
  refine runK_i (map_lookup Try.underlying97 Try.underlying3 (zero_key _) (h6.mod g4 fun h => h) id) ?_
  have e1 : ((l.find? fun p => decide (p.1 = id)).map (·.2)).getD (.agg DKey.zero.cells.toArray) = .agg ((findK ks id).getD DKey.zero).cells.toArray := by
    rw [h7]; cases findK ks id <;> rfl
  have e2 : (l.find? fun p => decide (p.1 = id)).isSome = (findK ks id).isSome := by
    have := congrArg Option.isSome (h7 id)
    simpa using this
  rw [e1, e2]
  refine extK_i (vs := [_, _]) (by rfl) (extK_i (vs := [_, _]) (by rfl) ?_)
  generalize (findK ks id).getD DKey.zero = k
  refine newst_n (vs := k.cells) rfl rfl (RKey.one (w := w) (x := k) rfl) fun b6 w3 hb6 hz6 g6 hc6 _ => ?_
  refine ldnK_i (vs := k.cells) rfl hc6 ?_
  refine stn_over rfl (RKey.one (w := w) (x := k) rfl) (fun j hj => (hl4 j hj).mod g6 fun h => h) fun w4 m4 hc4 _ => ?_
  refine ldnK_i (vs := k.cells) rfl hc4 ⟨rfl, ?_⟩
  exact (g4.trans g6).next m4 fun x hx e => by omega
theorem slen_ok {D : Nat → Prop} {v : Value} {ks : List DKey} {w : World} (h : SchR D w v ks) :
    callK Try.prog 71 [v] (fun v' w' => v' = .int .i64 ks.length ∧ w' = w) w := by
  apply S71_ok
  unfold S71
  obtain ⟨b, m, kv, l, rfl, _, _, h3, h4, h5, h6, h7⟩ := h
  refine pnilK_s (condK_f (nilckK_s ?_))
  rw [faK_i]
  refine ld1K_i (by rw [addr0]; exact h3) ?_
  obtain ⟨a, c, rfl, _⟩ := h5.shape
  rw [lenK_i]
  exact ⟨rfl, rfl⟩
theorem skeys_ok {D : Nat → Prop} {v : Value} {ks : List DKey} {w : World} (h : SchR D w v ks) (hl : ks.length ≤ 1099511627776) :
    callK Try.prog 48 [v] (fun v' w' => OwnR w.heap.size 72 6 RKey w' v' ks ∧ Grow w w') w := by
  apply S48_ok
  unfold S48
  obtain ⟨b, m, kv, l, rfl, _, _, h3, h4, h5, h6, h7⟩ := h
  refine pnilK_s (condK_f (nilckK_s ?_))
  rw [faK_i]
  refine ld1K_i (by rw [addr0]; exact h3) ?_
  exact callK_mono (clone_key h5 hl) fun _ _ h => h

abbrev RNum : World → List Value → Int → Prop := fun _ r x => r = [.int .i64 x]
theorem RNum.one {w : World} {r : List Value} {x : Int} (h : RNum w r x) : ∀ u ∈ r, u.oneCell' = true := by
  subst h; intro u hu; simp at hu; subst hu; rfl
theorem has_ok {S : Nat → Prop} {v : Value} {l : List Int} {n : Int} {w : World} (h : SlR S 1 RNum w v l) :
    callK Try.prog 49 [v, .int .i64 n] (fun v' w' => v' = .bool (decide (n ∈ l)) ∧ w' = w) w := by
  apply S49_ok
  unfold S49
  obtain ⟨a, c, rfl, hm⟩ := h.shape
  simp only [maxLen] at hm
  rw [lenK_i]
  refine LoopK_i (fun vs w1 => ∃ i : Nat, i ≤ l.length ∧ vs = [.int .i64 i] ∧ w1 = w ∧ n ∉ l.take i) (fun vs _ => l.length - iOf vs 0) ⟨0, Nat.zero_le _, rfl, rfl, by simp⟩ ?_
  rintro vs _ ⟨i, hi, rfl, rfl, hno⟩ _
  rename World => w
  rw [nth_z, List.headD_cons, ltK_i]
  refine condK_p (fun hlt => ?_) fun hge => ?_
  · have hlt' : i < l.length := by omega
    obtain ⟨p, r, rfl, _, hr, hc, rfl⟩ := h.get hlt'
    refine ixK_n hlt' (ld1K_i (hc 0 _ rfl) ?_)
    rw [eqK_i]
    refine condK_p (fun he => ⟨?_, rfl⟩) fun he => ?_
    · rw [decide_eq_true (he ▸ List.getElem_mem hlt')]
    · rw [addK_i, loop_step (by omega)]
      refine ⟨⟨i + 1, hlt', rfl, rfl, fun hk => ?_⟩, by rw [iOf0, iOf0]; omega⟩
      rw [List.take_add_one, List.getElem?_eq_getElem hlt'] at hk
      rcases List.mem_append.1 hk with hk | hk
      · exact hno hk
      · simp at hk; exact he hk.symm
  · have : i = l.length := by omega
    subst this
    rw [List.take_length] at hno
    exact ⟨by rw [decide_eq_false hno], rfl⟩

/-- the others of a key's group -/
def groupK (ks : List DKey) (id : Int) : List Int := match findK ks id with
  | none => []
  | some k => if k.group = 0 then [] else (ks.filter fun o => decide (o.group = k.group ∧ o.id ≠ id)).map (·.id)
end Go.Proofs.Ytmfplfaeibehiaa
