/- Contracts: the changes of block keys, or of inline ones; a cell with a patch on it. Conditions: the sizes. A slice from a place up to a place; of a row of one's own, cut short. No conditions. Contracts of composing: the reader that cuts a delta as it is needed. Conditions: the sizes. Contracts of composing: what a maker is told of both deltas. Conditions: the sizes. Contract: whether bytes are UTF-8 (utf8.Valid): as the document reads. Conditions: the two tables lie in memory as they are laid. Plain laws: the text of a set in the table of interned sets; no two sets have the same. Conditions: the numbers lie in their types. Plain laws: the table of interned sets as data. No conditions. Plain laws: the map from the sets' texts to ids. Conditions: the numbers of the sets lie in their types. Contract: the runes of bytes (runes.Read): as the document reads. Conditions: the size; the two tables lie in memory as they are laid. By a program of ours: of each function below the predicate that its code comes to, and that it is sound. No conditions. Contracts: numbers and bytes in groups of seven bits (wire). Conditions: the sizes. Contracts: the program's values (value.Flag, Int, Float, Text, May). Conditions: the size of a text; the two tables lie in memory as they are laid. What is known of schemas; the law SchemaGroups: it answers true, and leaves all memory as it was. No conditions. Contract of Schema.Fits; the law SchemaFits: it answers true, and leaves all memory as it was. Conditions: the two tables lie in memory as they are laid. Contracts: the text of a set (intern.text); why a set may not be (attrs.May). Conditions: the sets' numbers lie in their types; of the text: the set may be. -/
import Derived.Test.YtlbaopamhkmepaaGreatDoorZHistoryMostUpto5
import Derived.Laws.BytesArg
import Derived.Laws.IdiomStrings
import Derived.MapKept
import Derived.Lib.Zigzag
namespace Go.K
open Go
theorem addr_at (g o x : Nat) : (⟨g, o, none⟩ : Addr).add x = ⟨g, o + x, none⟩ := by unfold Addr.add; split <;> simp_all
/-- cells in a row written over -/
theorem setL_at {g off : Nat} : ∀ (vs : List Value) (q : Nat) (W : World), (∀ j, q ≤ j → j < q + vs.length → Live W ⟨g, off + j, none⟩) →
    Mod (fun x => x = g) W (setL W ⟨g, off, none⟩ q vs) ∧ (∀ j u, vs[j]? = some u → (setL W ⟨g, off, none⟩ q vs).cell? ⟨g, off + q + j, none⟩ = some u) ∧ (∀ j, (j < off + q ∨ off + q + vs.length ≤ j) → (setL W ⟨g, off, none⟩ q vs).cell? ⟨g, j, none⟩ = W.cell? ⟨g, j, none⟩) ∧ (∀ a, Live W a → Live (setL W ⟨g, off, none⟩ q vs) a) := by
  intro vs
  induction vs with
  | nil => intro q W _; exact ⟨Mod.refl _ _, fun j u hu => by simp at hu, fun _ _ => rfl, fun _ h => h⟩
  | cons x vs ih =>
    intro q W hl
    simp only [setL]
    rw [addr_at]
    have hl0 := hl q (Nat.le_refl _) (by simp)
    obtain ⟨i1, i2, i3, i4⟩ := ih (q + 1) (W.setCell ⟨g, off + q, none⟩ x) fun j h1 h2 => (hl j (by omega) (by simp; omega)).set _ _
    refine ⟨(Mod.setCell (M := fun x => x = g) W ⟨g, off + q, none⟩ x rfl).trans i1, fun j u hu => ?_, fun j hj => ?_, fun a ha => i4 a (ha.set _ _)⟩
    · cases j with
      | zero =>
        simp at hu; subst hu
        obtain ⟨u', hu'⟩ := Option.isSome_iff_exists.1 hl0.1
        rw [i3 _ (.inl (by omega))]
        exact World.cell?_setCell_same _ _ _ hu'
      | succ j =>
        have := i2 j u (by simpa using hu)
        rw [show off + q + (j + 1) = off + (q + 1) + j by omega]; exact this
    · simp only [List.length_cons] at hj
      rw [i3 j (by omega), World.cell?_setCell_other _ _ _ _ (by intro e; simp only [Addr.mk.injEq] at e; omega)]
/-- elements side by side in a block, to be written over -/
structure RowG {α : Type} (k : Nat) (cs : α → List Value) (W : World) (g : Nat) (L : List α) : Prop where
  cells : ∀ m (h : m < L.length) j u, (cs L[m])[j]? = some u → W.cell? ⟨g, m * k + j, none⟩ = some u
  live : ∀ m j, m < L.length → j < k → Live W ⟨g, m * k + j, none⟩
section
variable {α : Type} {k : Nat} {cs : α → List Value} {W W' : World} {g : Nat} {L : List α}
theorem RowG.mod {M : Nat → Prop} (h : RowG k cs W g L) (m : Mod M W W') (hg : ¬ M g) : RowG k cs W' g L := ⟨fun i hi j u hu => m.cell (h.cells i hi j u hu) hg, fun i j hi hj => (h.live i j hi hj).mod m hg⟩
theorem RowG.store {i : Nat} {x : α} {K : World → Prop} (h : RowG k cs W g L) (hi : i < L.length) (hk : ∀ y, (cs y).length = k) (h1 : ∀ v ∈ cs x, v.oneCell' = true)
    (hK : ∀ W', RowG k cs W' g (L.set i x) → Mod (fun b => b = g) W W' → K W') : stnK k (.pointer (some ⟨g, i * k, none⟩)) (.agg (cs x).toArray) K W := by
  have lv : ∀ j, j < k → Live W ((⟨g, i * k, none⟩ : Addr).add j) := fun j hj => by rw [addr_at]; exact h.live i j hi hj
  obtain ⟨q1, q2, q3, q4⟩ := setL_at (g := g) (off := i * k) (cs x) 0 W fun j _ hj => h.live i j hi (by have := hk x; omega)
  refine ⟨_, cs x, rfl, rfl, hk x, h1, fun j hj => lv j hj, hK _ ⟨fun m hm j u hu => ?_, fun m j hm hj => q4 _ (h.live m j (by simpa using hm) hj)⟩ q1⟩
  rw [List.getElem_set] at hu
  split at hu
  · rename_i e
    subst e
    have := q2 j u hu
    rwa [Nat.add_zero] at this
  · rename_i hne
    have hm' : m < L.length := by simpa using hm
    have hj : j < k := by have := (List.getElem?_eq_some_iff.1 hu).1; rw [hk] at this; exact this
    rw [q3]
    · exact h.cells m hm' j u hu
    · rw [hk]
      rcases Nat.lt_or_gt_of_ne hne with e | e
      · right
        have : (i + 1) * k ≤ m * k := Nat.mul_le_mul_right _ e
        rw [Nat.add_mul] at this; omega
      · left
        have : (m + 1) * k ≤ i * k := Nat.mul_le_mul_right _ e
        rw [Nat.add_mul] at this; omega
theorem RowG.of {B e n c : Nat} {R : World → List Value → α → Prop} (h : OwnR B e k R W (.slice (some ⟨g, 0, none⟩) n c) L) (hk : 0 < k) (hR : ∀ r x, R W r x → r = cs x) : RowG k cs W g L := by
  refine ⟨fun m hm j u hu => ?_, fun m j hm hj => ?_⟩
  · obtain ⟨rows, h1, h2, h3, h4⟩ := id h
    obtain ⟨a, r, e1, _, hr, hc, hx⟩ := (OwnR.sl h).get hm
    cases e1
    have := hc j u (by rw [hR _ _ hx]; exact hu)
    rwa [addr_at, Nat.zero_add] at this
  · obtain ⟨g', e1, _, hl⟩ := OwnR.live h hm hj
    cases e1
    rwa [addr_at, Nat.zero_add] at hl
end
theorem zero_one {zero : Array Value} {n : Nat} (hz : 0 < zero.size) (h1 : ∀ v ∈ zero.toList, v.oneCell' = true) : ∀ v ∈ (Builtin.zeroCells zero n).toList, v.oneCell' = true := by
  intro v hv
  simp only [Builtin.zeroCells, Array.toList_map, List.mem_map] at hv
  obtain ⟨i, _, rfl⟩ := hv
  refine h1 _ ?_
  have : i % zero.size < zero.size := Nat.mod_lt _ hz
  rw [getElem!_pos zero _ this]
  exact Array.getElem_mem_toList this
/-- the end of a row cleared -/
theorem clear_end {P : Program} {t e k : Nat} {i : TypeInfo} {zv : Value} {W : World} {g off m c : Nat} (hu : P.underlying t = some (.slice e)) (hi : P.info? e = some i) (hz : i.zero = some zv) (hk : zv.cells.size = k) (hk0 : 0 < k) (h1 : ∀ v ∈ zv.cells.toList, v.oneCell' = true) (hm : 0 < m)
    (hl : ∀ j, j < m * k → Live W ⟨g, off + j, none⟩) : ∃ W', (Builtin.clear_ #[t] 0 [.slice (some ⟨g, off, none⟩) m c].toArray).run P W = .ok (.tuple #[]) W' ∧ Mod (fun x => x = g) W W' ∧ ∀ j, j < off → W'.cell? ⟨g, j, none⟩ = W.cell? ⟨g, j, none⟩ := by
  have hlen : (Builtin.zeroCells zv.cells m).toList.length = m * k := by rw [Array.length_toList, size_zeroCells, hk]
  have lv : ∀ j, 0 ≤ j → j < 0 + (Builtin.zeroCells zv.cells m).toList.length → Live W ⟨g, off + j, none⟩ := fun j _ hj => hl j (by omega)
  obtain ⟨q1, _, q3, _⟩ := setL_at (g := g) (off := off) (Builtin.zeroCells zv.cells m).toList 0 W lv
  have hrun := setL_run (P := P) (⟨g, off, none⟩ : Addr) (Builtin.zeroCells zv.cells m).toList 0 W (zero_one (by omega) h1) (fun j h0 hj => by rw [addr_at]; exact lv j h0 hj)
  refine ⟨_, ?_, q1, fun j hj => q3 j (.inl (by omega))⟩
  have hv : (zeroValue e).run P W = .ok zv W := by simp [zeroValue, typeInfo, hi, hz]
  obtain ⟨m, rfl⟩ : ∃ q, m = q + 1 := ⟨m - 1, by omega⟩
  simp [Builtin.clear_, run_underlying hu, hv, hrun]
end Go.K
namespace Go.Proofs.YtlbaopamhkmepaaGreatDoor
open Go Go.K

/-- a function of changes that tells true or false -/
def Tells (G : World → Prop) (fv : Value) (del : Chg → Bool) : Prop := ∀ W c (K : Cont), G W → (∀ W', Grow W W' → K (.bool (del c)) W') → callyK Tryz.prog okf fv [.agg c.cells.toArray] K W
theorem idxc_ok {S : Nat → Prop} {v fv : Value} {p : List Chg} {del : Chg → Bool} {w : World} (h : RPat S w v p) (hf : Tells (Grow w) fv del) :
    callK Tryz.prog 218 [v, fv] (fun v' w' => Grow w w' ∧ ((v' = .int .i64 (-1) ∧ ∀ c ∈ p, del c = false) ∨ ∃ i : Nat, ∃ hi : i < p.length, v' = .int .i64 i ∧ del p[i] = true ∧ ∀ c ∈ p.take i, del c = false)) w := by
  apply S218_ok
  unfold S218
  obtain ⟨a, c, rfl, hm⟩ := h.shape
  simp only [maxLen] at hm
  rw [lenK_i]
  refine LoopK_i (fun vs W => ∃ i : Nat, i ≤ p.length ∧ vs = [.int .i64 i] ∧ Grow w W ∧ ∀ c ∈ p.take i, del c = false) (fun vs _ => p.length - iOf vs 0) ⟨0, Nat.zero_le _, rfl, Mod.refl _ _, by simp⟩ ?_
  rintro vs W ⟨i, hi, rfl, g, hall⟩ _
  rw [nth_z, List.headD_cons, ltK_i]
  refine condK_p (fun hlt => ?_) fun hge => ?_
  · have hlt' : i < p.length := by omega
    obtain ⟨q, r, rfl, _, hr, hc, rfl⟩ := (h.grow g (by decide) fun _ _ h => h).get hlt'
    refine ixK_n hlt' (ldnK_i hr (fun j u hu => by rw [Addr.add_add]; exact hc j u hu) ?_)
    refine hf W p[i] _ g fun W' g' => ?_
    cases e : del p[i] with
    | true => exact condK_t ⟨g.trans g', .inr ⟨i, hlt', rfl, e, hall⟩⟩
    | false =>
      refine condK_f ?_
      rw [addK_i, loop_step (by omega)]
      refine ⟨⟨i + 1, hlt', rfl, g.trans g', fun c hc => ?_⟩, by rw [iOf0, iOf0]; omega⟩
      rw [List.take_add_one, List.getElem?_eq_getElem hlt'] at hc
      rcases List.mem_append.1 hc with hc | hc
      · exact hall c hc
      · simp at hc; subst hc; exact e
  · have : i = p.length := by omega
    subst this
    exact ⟨g, .inl ⟨rfl, fun c hc => hall c (by rw [List.take_length]; exact hc)⟩⟩
theorem Chg.len (c : Chg) : c.cells.length = 6 := rfl
set_option maxRecDepth 20000 in
theorem delf_ok {B : Nat} {v fv : Value} {p : List Chg} {del : Chg → Bool} {w : World} (ho : OwnR B 111 6 RChg w v p) (hsz : p.length ≤ 1099511627776) (hf : Tells (Mod (fun b => v.ownBlock = some b) w) fv del) :
    callK Tryz.prog 214 [v, fv] (fun v' w' => RPat (fun b => v.ownBlock = some b) w' v' (p.filter fun c => !del c) ∧ Mod (fun b => v.ownBlock = some b) w w') w := by
  apply S214_ok
  unfold S214
  refine callK_mono (idxc_ok (OwnR.sl ho) fun W c K g hK => hf W c K (g.mono fun _ _ e => e.elim) hK) ?_
  rintro _ w1 ⟨g1, ⟨rfl, hall⟩ | ⟨i0, hi0, rfl, hd, hall⟩⟩
  · rw [eqK_i]
    refine condK_p (fun _ => ?_) fun e => (e rfl).elim
    rw [List.filter_eq_self.2 fun c hc => by rw [hall c hc]; rfl]
    exact ⟨SlR.sub (OwnR.sl (OwnR.mod ho g1 (fun _ _ h => h) fun _ _ _ h => h)) (fun b _ h => h.2) (by decide) fun _ _ h => h, g1.mono fun _ _ e => e.elim⟩
  rw [eqK_i]
  refine condK_p (fun e => absurd e (by omega)) fun _ => ?_
  obtain ⟨a, c, rfl, hlc, hcm, hp, hn⟩ := OwnR.shape ho
  cases a with
  | none => rw [hn rfl] at hi0; simp at hi0
  | some q =>
  obtain ⟨g, rfl, hgB, hgw, hown⟩ := hp q rfl
  have hoM : ∀ b, (Value.slice (some ⟨g, 0, none⟩) p.length c).ownBlock = some b ↔ b = g := fun b => ⟨fun e => by cases e; rfl, fun e => by subst e; rfl⟩
  simp only [hoM] at hf ⊢
  have R0 : RowG 6 Chg.cells w g p := RowG.of ho (by decide) fun _ _ h => h
  have R1 := R0.mod g1 fun h => h
  rw [addK_i, loop_step (by omega)]
  -- what stays of what was looked at
  refine LoopK_i (fun vs W => ∃ (i j : Nat) (L : List Chg), i < j ∧ j ≤ p.length ∧ vs = [.int .i64 i, .int .i64 j] ∧ L.length = p.length ∧ RowG 6 Chg.cells W g L ∧ L.take i = (p.take j).filter (fun c => !del c) ∧ L.drop j = p.drop j ∧ Mod (fun b => b = g) w W) (fun vs _ => p.length - iOf vs 1)
    ⟨i0, i0 + 1, p, by omega, hi0, rfl, rfl, R1, ?_, rfl, g1.mono fun _ _ e => e.elim⟩ ?_
  · rw [List.take_add_one, List.getElem?_eq_getElem hi0, List.filter_append, List.filter_eq_self.2 fun c hc => by rw [hall c hc]; rfl]
    simp [hd]
  rintro vs W ⟨i, j, L, hij, hj, rfl, hL, hR, ht, hdr, hm⟩ _
  simp only [nth_s, nth_z, List.headD_cons, List.tail_cons]
  rw [lenK_i, ltK_i]
  refine condK_p (fun hlt => ?_) fun hge => ?_
  · have hlt' : j < p.length := by omega
    have hLj : L[j]'(by omega) = p[j] := by
      have e := congrArg List.head? hdr
      rw [List.head?_drop, List.head?_drop, List.getElem?_eq_getElem (by omega), List.getElem?_eq_getElem hlt'] at e
      exact Option.some.inj e
    refine ixK_n hlt' ?_
    rw [addr0]
    refine ldnK_i (vs := p[j].cells) rfl (fun q u hu => by rw [addr_at]; exact hR.cells j (by omega) q u (by rw [hLj]; exact hu)) ?_
    refine newst_n (vs := p[j].cells) rfl rfl (RChg.one (w := W) (x := p[j]) rfl) fun b7 w4 hb7 hz7 g4 hc7 _ => ?_
    have hgW : g < W.heap.size := Nat.lt_of_lt_of_le hgw hm.size
    refine ldnK_i (vs := p[j].cells) rfl hc7 ?_
    refine hf w4 p[j] _ (hm.next g4 fun _ _ e => e.elim) fun W5 g5 => ?_
    have R5 := (hR.mod g4 fun h => h).mod g5 fun h => h
    have m5 := (hm.next g4 fun _ _ e => e.elim).next g5 fun _ _ e => e.elim
    have et : (p.take (j + 1)).filter (fun c => !del c) = (p.take j).filter (fun c => !del c) ++ if del p[j] then [] else [p[j]] := by
      rw [List.take_add_one, List.getElem?_eq_getElem hlt', List.filter_append]
      cases e : del p[j] <;> simp [e]
    have hdr1 : L.drop (j + 1) = p.drop (j + 1) := by have := congrArg (List.drop 1) hdr; simpa [List.drop_drop] using this
    cases e : del p[j] with
    | true =>
      rw [notK_i]
      refine condK_f ?_
      rw [addK_i, loop_step (by omega)]
      rw [e, if_pos rfl, List.append_nil] at et
      refine ⟨⟨i, j + 1, L, by omega, hlt', rfl, hL, R5, by rw [et]; exact ht, ?_, m5⟩, by rw [iOf1, iOf1]; omega⟩
      exact hdr1
    | false =>
      rw [notK_i]
      refine condK_t ?_
      refine ldnK_i (vs := p[j].cells) rfl (fun q u hu => g5.cell (hc7 q u hu) fun h => h) ?_
      refine ixK_n (by omega) ?_
      rw [addr0]
      refine R5.store (i := i) (x := p[j]) (by omega) Chg.len (RChg.one (w := W) (x := p[j]) rfl) fun W6 R6 m6 => ?_
      rw [addK_i, addK_i, loop_step (by omega), loop_step (by omega)]
      rw [e, if_neg (by decide)] at et
      refine ⟨⟨i + 1, j + 1, L.set i p[j], by omega, hlt', rfl, by simp [hL], R6, ?_, ?_, m5.trans m6⟩, by rw [iOf1, iOf1]; omega⟩
      · rw [et, ← ht, List.take_set, List.take_add_one, List.getElem?_eq_getElem (by omega), List.set_append_right _ _ (by simp; omega)]
        simp [Nat.min_eq_left (show i ≤ L.length by omega)]
      · rw [List.drop_set_of_lt (by omega)]
        exact hdr1
  · obtain rfl : j = p.length := by omega
    rw [List.take_length] at ht
    refine runK_i (slice_lo_run (e := 111) (k := 6) (i := Tryz.t111) (by kernel_rfl) (by kernel_rfl) (by kernel_rfl) (by omega) W) ?_
    have esl : sliced (some (⟨g, 0, none⟩ : Addr)) i p.length c 6 = .slice (some ⟨g, i * 6, none⟩) (p.length - i) (c - i) := by
      unfold sliced
      rw [if_neg (by omega)]
      simp only [Option.map_some, addr0]
    rw [esl]
    obtain ⟨W2, hr, m2, h2⟩ := clear_end (P := Tryz.prog) (t := 37) (e := 111) (k := 6) (i := Tryz.t111) (zv := .agg (⟨0, false, AVal.zero⟩ : Chg).cells.toArray) (W := W) (g := g) (off := i * 6) (m := p.length - i) (c := c - i) (by kernel_rfl) (by kernel_rfl) (by kernel_rfl) (by kernel_rfl) (by decide)
      (fun u hu => RChg.one (w := W) (x := ⟨0, false, AVal.zero⟩) rfl u (by simpa [Value.cells] using hu)) (by omega) fun q hq => by
        have := hR.live (i + q / 6) (q % 6) (by omega) (Nat.mod_lt _ (by decide))
        rwa [show (i + q / 6) * 6 + q % 6 = i * 6 + q by omega] at this
    refine runK_i hr ?_
    refine runK_i (slice_hi_run (e := 111) (k := 6) (i := Tryz.t111) (by kernel_rfl) (by kernel_rfl) (by kernel_rfl) (by omega) W2) ?_
    refine ⟨?_, hm.trans m2⟩
    rw [← ht]
    have hlt : (L.take i).length = i := by simp; omega
    refine ⟨_, _, by rw [hlt], by omega, by omega, fun m x hx => ?_⟩
    obtain ⟨hmi, hx'⟩ := List.getElem?_eq_some_iff.1 hx
    rw [List.getElem_take] at hx'
    subst hx'
    refine ⟨⟨g, 0, none⟩, _, rfl, rfl, rfl, fun q u hu => ?_, rfl⟩
    have hq : q < 6 := (List.getElem?_eq_some_iff.1 hu).1
    rw [addr0, h2 _ (by omega)]
    exact hR.cells m (by omega) q u hu
def keepC (ks : List DKey) (b : Bool) (c : Chg) : Bool := match findK ks c.key with | some k => decide (k.block = b) | none => false
theorem part1_ok {D : Nat → Prop} {sv : Value} {ks : List DKey} {b : Bool} {c : Chg} {b3 b5 : Nat} {w : World} (hS : SchR D w sv ks) (h3 : w.cell? ⟨b3, 0, none⟩ = some sv) (h5 : w.cell? ⟨b5, 0, none⟩ = some (.bool b)) :
    callK Tryz.prog 215 [.agg c.cells.toArray, .pointer (some ⟨b3, 0, none⟩), .pointer (some ⟨b5, 0, none⟩)] (fun v' w' => v' = .bool (!keepC ks b c) ∧ Grow w w') w := by
  apply S215_ok
  unfold S215
  refine boxn_i fun b0 w1 hb0 hz1 g1 hc1 _ => ?_
  refine ld1K_i (g1.cell h3 fun h => h) ?_
  rw [faK_i]
  refine ld1K_i (hc1 0 _ rfl) ?_
  refine callK_mono (sfind_ok (hS.grow g1) c.key) ?_
  rintro _ w2 ⟨rfl, g2⟩
  refine extK_i (vs := [_, _]) (by rfl) (extK_i (vs := [_, _]) (by rfl) ?_)
  refine newst_n (vs := ((findK ks c.key).getD DKey.zero).cells) rfl rfl (RKey.one (w := w2) (x := (findK ks c.key).getD DKey.zero) rfl) fun b4 w3 hb4 hz4 g3 hc3 _ => ?_
  have g13 := (g1.trans g2).trans g3
  rw [notK_i]
  unfold keepC
  cases e : findK ks c.key with
  | none => exact condK_t ⟨rfl, g13⟩
  | some k =>
    rw [e] at hc3
    refine condK_f ?_
    rw [faK_i]
    refine ld1K_i (hc3 1 _ rfl) ?_
    refine ld1K_i (g13.cell h5 fun h => h) ?_
    rw [bneK_i]
    refine ⟨?_, g13⟩
    show Value.bool (k.block != b) = .bool (!decide (k.block = b))
    cases k.block <;> cases b <;> rfl
theorem ppart_ok {D S : Nat → Prop} {sv pv : Value} {ks : List DKey} {b : Bool} {p : List Chg} {w : World} (hS : SchR D w sv ks) (hp : RPat S w pv p) (hl : p.length ≤ 1099511627776) :
    callK Tryz.prog 204 [sv, pv, .bool b] (fun v' w' => RPat (fun x => w.heap.size ≤ x) w' v' (partP ks b p) ∧ Grow w w') w := by
  apply S204_ok
  unfold S204
  have hsv : sv.cells = #[sv] := by
    obtain ⟨b, m, kv, l, rfl, _⟩ := hS
    rfl
  have hS' : SchR (fun x => D x ∧ x < w.heap.size) w sv ks := hS.sub fun x hx h => ⟨h, hx⟩
  refine ⟨hsv, newz_i fun b3 w1 hb3 hz1 g1 hc1 _ => ?_⟩
  refine ⟨rfl, newz_i fun b5 w2 hb5 hz2 g2 hc2 _ => ?_⟩
  refine callK_mono (clone_pat (hp.grow (g1.trans g2) (by decide) fun _ _ h => h) (by omega)) ?_
  rintro v3 w3 ⟨o3, g3⟩
  have c3 : w2.cell? ⟨b3, 0, none⟩ = some sv := by have := g2.cell (hc1 0 _ rfl) fun h => h; rwa [addr0] at this
  have c5 : w2.cell? ⟨b5, 0, none⟩ = some (.bool b) := by have := hc2 0 _ rfl; rwa [addr0] at this
  have hown : ∀ x, v3.ownBlock = some x → w2.heap.size ≤ x := fun x e => (OwnR.ownB o3 x e).1
  have g13 := (g1.trans g2).trans g3
  have tl : Tells (Mod (fun x => v3.ownBlock = some x) w3) (.func (.func 215) #[] #[.pointer (some ⟨b3, 0, none⟩), .pointer (some ⟨b5, 0, none⟩)]) fun c => !keepC ks b c := by
    intro W c K m hK
    refine .inl ⟨_, [], [.pointer (some ⟨b3, 0, none⟩), .pointer (some ⟨b5, 0, none⟩)], rfl, by kernel_rfl, ?_⟩
    refine callK_mono (part1_ok ((hS'.grow g13).mod m fun x _ hx e => ?_) (m.cell (g3.cell c3 fun h => h) fun e => ?_) (m.cell (g3.cell c5 fun h => h) fun e => ?_)) ?_
    · have := hown _ e; have := hx.2; have := (g1.trans g2).size; omega
    · have h : w2.heap.size ≤ b3 := hown _ e
      omega
    · have h : w2.heap.size ≤ b5 := hown _ e
      omega
    · rintro _ W' ⟨rfl, g⟩; exact hK W' g
  refine callK_mono (delf_ok o3 hl tl) ?_
  rintro v4 w4 ⟨h4, m4⟩
  have e : (p.filter fun c => !(!keepC ks b c)) = partP ks b p := by simp only [Bool.not_not]; rfl
  rw [e] at h4
  refine ⟨SlR.sub h4 (fun x _ e => by have := hown x e; have := (g1.trans g2).size; omega) (by decide) fun _ _ h => h, ?_⟩
  exact g13.next m4 fun x hx e => by have := hown x e; have := (g1.trans g2).size; omega
/-- a cell with a patch on it -/
theorem acell_ok {D S S' : Nat → Prop} {sv cv pv : Value} {ks : List DKey} {r : Int} {s : List Attr} {p : List Chg} {w : World} (hS : SchR D w sv ks) (hs : RSet S w cv s) (hp : RPat S' w pv p) (hl : s.length + p.length ≤ 1099511627776) :
    callK Tryz.prog 186 [sv, .agg #[.int .i32 r, cv], pv] (fun v' w' => ∃ cv', v' = .agg #[.int .i32 r, cv'] ∧ OSet w.heap.size w' cv' (cellP ks s p r) ∧ Grow w w') w := by
  apply S186_ok
  unfold S186
  refine boxn_i (vs := [.int .i32 r, cv]) fun b4 w1 hb4 hz1 g1 hc1 _ => ?_
  refine newz_i fun b6 w2 hb6 hz2 g2 hc2 hl2 => ?_
  have gd : Grow w2 w2.drew := Mod.drew _ _
  have zd : w2.drew.heap.size = w2.heap.size := rfl
  have g0 := (g1.trans g2).trans gd
  have c4 : ∀ j u, ([.int .i32 r, cv] : List Value)[j]? = some u → w2.drew.cell? ((⟨b4, 0, none⟩ : Addr).add j) = some u := fun j u hu => gd.cell (g2.cell (hc1 j u hu) fun h => h) fun h => h
  have ne : b4 ≠ b6 := by omega
  refine drawC_i (fun k y => k = 12 ∧ y = b6) ?_
  rw [faK_i]
  refine sld1_i ⟨c4 0 _ rfl, fun j _ e => by rw [add_block] at e; exact ne e.2⟩ ?_
  rw [faK_i]
  refine sld1_i ⟨c4 1 _ rfl, fun j _ e => by rw [add_block] at e; exact ne e.2⟩ ?_
  rw [faK_i]
  refine sld1_i ⟨c4 0 _ rfl, fun j _ e => by rw [add_block] at e; exact ne e.2⟩ ?_
  rw [eqK_i]
  refine callK_mono (ppart_ok (hS.grow g0) (hp.grow g0 (by decide) fun _ _ h => h) (by omega)) ?_
  rintro v3 w3 ⟨h3, g3⟩
  refine ⟨g3.mono fun _ _ e => e.elim, ?_⟩
  have hpl : (partP ks (decide (r = 10)) p).length ≤ p.length := List.length_filter_le _ _
  refine callK_mono (papp_ok (hs.grow (g0.trans g3) (by decide) fun _ _ h => h) h3 (by omega)) ?_
  rintro v4 w4 ⟨o4, g4⟩
  refine ⟨g4.mono fun _ _ e => e.elim, ?_⟩
  have o1 := OwnR.one o4
  obtain ⟨a4, k4, e4, _⟩ := OwnR.shape o4
  refine ⟨#[.int .i32 r, v4], by subst e4; kernel_rfl, ?_⟩
  have z3 := g3.size
  have z4 := g4.size
  refine stn_over (vs := [.int .i32 r, v4]) rfl (fun u hu => by simp at hu; rcases hu with rfl | rfl; rfl; exact o1.1) (fun j hj => (((hl2 j hj).mod gd fun h => h).mod g3 fun h => h).mod g4 fun h => h) fun w5 m5 hc5 _ => ?_
  refine ⟨m5.mono fun x _ e => ⟨rfl, e⟩, ?_⟩
  refine ldnK_i (vs := [.int .i32 r, v4]) rfl hc5 ⟨v4, rfl, ?_, ?_⟩
  · have : OSet w.heap.size w4 v4 (cellP ks s p r) := o4.base fun g hg => by have := (OwnR.ownB o4 g hg).1; have := (g0.trans g3).size; omega
    refine OwnR.mod this m5 (fun g hg e => ?_) fun _ _ _ h => h
    have := (OwnR.ownB o4 g hg).1
    omega
  · exact ((g0.trans g3).trans g4).next m5 fun x hx e => by omega
end Go.Proofs.YtlbaopamhkmepaaGreatDoor

namespace Go.K
open Go
theorem slice_lh {α : Type} {P : Program} {t e k : Nat} {i : TypeInfo} {R : World → List Value → α → Prop} {S : Nat → Prop} {w : World} {a : Option Addr} {n c : Nat} {l : List α} {j q : Nat} {K : Cont} (ht : P.underlying t = some (.slice e)) (hi : P.info? e = some i) (hk : i.size = k)
    (h : SlR S k R w (.slice a n c) l) (hjq : j ≤ q) (hq : q ≤ l.length) (hK : ∀ v', SlR S k R w v' ((l.take q).drop j) → K v' w) : runK P (Instr.sliceAt t (.slice a n c) (some (.int .i64 j)) (some (.int .i64 q)) none) K w := by
  obtain ⟨a', c', e1, h1, h2, h3⟩ := h
  cases e1
  have hel : P.elem t = e := by simp [Program.elem, ht]
  refine ⟨sliced a j q c k, w, ?_, hK _ ?_⟩
  · rw [run_sliceAt_slice _ _ _ _ _ _ (by rw [hel]; exact ht), run_slice_lh _ _ _ _ _ (by rw [hel]; exact ht) _ _ _ _ (by omega) (by omega) (by omega), hel]
    simp [sizeOf, typeInfo, hi, hk]
  · unfold sliced
    have hl : ((l.take q).drop j).length = q - j := by simp; omega
    refine ⟨_, _, by rw [hl], by rw [hl]; omega, by omega, fun m x hx => ?_⟩
    rw [List.getElem?_drop, List.getElem?_take] at hx
    split at hx
    · obtain ⟨p, r, rfl, hS, hr, hc, hR⟩ := h3 _ x hx
      rw [if_neg (by omega)]
      refine ⟨p.add (j * k), r, rfl, by rw [add_block]; exact hS, hr, fun y u hu => ?_, hR⟩
      rw [Addr.add_add, ← Nat.add_assoc, ← Nat.add_mul]
      exact hc y u hu
    · cases hx
end Go.K

namespace Go.Proofs.YtlbaopamhkmepaaGreatDoor
open Go Go.K

theorem opk_n {o : Dop} (h : Opk o) (hk : o.kind ≠ 2) : o.n = (lenN o : Nat) ∧ 1 ≤ o.n := by
  have := h.pos
  simp only [lenN, hk, if_false] at this ⊢
  omega
theorem restO_0 (o : Dop) : restO 0 o = o := by
  obtain ⟨k, n, rs, s, p⟩ := o
  unfold restO
  split
  · rename_i e; simp only at e; subst e; simp
  · simp
theorem restO_restO (a c : Nat) (o : Dop) : restO c (restO a o) = restO (a + c) o := by
  obtain ⟨k, n, rs, s, p⟩ := o
  by_cases e : k = 2
  · subst e; simp [restO, List.drop_drop]
  · simp [restO, e]; omega
/-- what a reader has still to tell -/
def remO (x : List Dop) (d : Nat) : List Dop := match x with
  | [] => []
  | o :: r => restO d o :: r
/-- a reader in memory -/
structure RdR (S D : Nat → Prop) (W : World) (b : Nat) (sv : Value) (x : List Dop) (d : Nat) : Prop where
  c0 : W.cell? ⟨b, 0, none⟩ = some sv
  c1 : W.cell? ⟨b, 1, none⟩ = some (.int .i64 d)
  live : ∀ j, j < 2 → Live W ⟨b, j, none⟩
  rd : RDops S D W sv x
  lt : ∀ y, S y ∨ D y → y < b
  opk : ∀ o ∈ x, Opk o
def RdI (S D : Nat → Prop) (W : World) (b : Nat) (u : List Dop) : Prop := ∃ sv x d, RdR S D W b sv x d ∧ (∀ o r, x = o :: r → d < lenN o) ∧ u = remO x d
/-- the first op's kind, and how much it can give -/
def kindH : List Dop → Int
  | [] => 1
  | o :: _ => o.kind
def longH : List Dop → Nat
  | [] => 536870912
  | o :: _ => lenN o
theorem longH_nil : longH [] = 536870912 := rfl
theorem longH_cons {o : Dop} {x : List Dop} : longH (o :: x) = lenN o := rfl
/-- how far a reader is from its end -/
def rank (W : World) (b : Nat) : Nat := match W.cell? ⟨b, 0, none⟩, W.cell? ⟨b, 1, none⟩ with
  | some (.slice _ n _), some (.int _ d) => n * 2147483648 - d.toNat
  | _, _ => 0
section
variable {S D M : Nat → Prop} {W W' : World} {b d : Nat} {sv : Value} {x u : List Dop}
theorem RdR.rank (h : RdR S D W b sv x d) : rank W b = x.length * 2147483648 - d := by
  obtain ⟨a, c, rfl, _⟩ := h.rd.shape
  unfold rank
  rw [h.c0, h.c1]
  simp
theorem RdI.rank_mod (h : RdI S D W b u) (m : Mod M W W') (hb : ¬ M b) : rank W' b = rank W b := by
  obtain ⟨sv, x, d, h1, _⟩ := h
  unfold rank
  rw [m.cell h1.c0 hb, m.cell h1.c1 hb, h1.c0, h1.c1]
theorem RdR.mod (h : RdR S D W b sv x d) (m : Mod M W W') (hb : ¬ M b) (hS : ∀ y, S y → ¬ M y) (hD : ∀ y, D y → ¬ M y) : RdR S D W' b sv x d :=
  ⟨m.cell h.c0 hb, m.cell h.c1 hb, fun j hj => (h.live j hj).mod m hb, RDops.mod h.rd m (fun y _ hy => hS y hy) fun y _ hy => hD y hy, h.lt, h.opk⟩
theorem RdR.grow (h : RdR S D W b sv x d) (g : Grow W W') : RdR S D W' b sv x d := h.mod g (fun h => h) (fun _ _ h => h) fun _ _ h => h
theorem RdI.mod (h : RdI S D W b u) (m : Mod M W W') (hb : ¬ M b) (hS : ∀ y, S y → ¬ M y) (hD : ∀ y, D y → ¬ M y) : RdI S D W' b u := by
  obtain ⟨sv, x, d, h1, h2, h3⟩ := h
  exact ⟨sv, x, d, h1.mod m hb hS hD, h2, h3⟩
theorem RdI.opk (h : RdI S D W b u) : ∀ o ∈ u, Opk o := by
  obtain ⟨sv, x, d, h1, h2, rfl⟩ := h
  cases x with
  | nil => intro o ho; simp [remO] at ho
  | cons o r =>
    intro q hq
    rcases List.mem_cons.1 hq with rfl | hq
    · have ho := h1.opk o (by simp)
      have hd := h2 o r rfl
      have := restO_len (n := d) (o := o) (by omega)
      exact ⟨by rw [restO_kind]; exact ho.k, by omega, by have := ho.le; omega⟩
    · exact h1.opk q (by simp [hq])
theorem rover_ok (h : RdI S D W b u) : callK Tryz.prog 142 [.pointer (some ⟨b, 0, none⟩)] (fun v' w' => v' = .bool (decide (u = [])) ∧ w' = W) W := by
  apply S142_ok
  unfold S142
  obtain ⟨sv, x, d, h1, h2, rfl⟩ := h
  obtain ⟨a, c, rfl, _⟩ := h1.rd.shape
  refine nilckK_s ?_
  rw [faK_i, addr0]
  refine ld1K_i h1.c0 ?_
  rw [lenK_i, eqK_i]
  refine ⟨?_, rfl⟩
  congr 1
  rw [decide_eq_decide]
  cases x with
  | nil => simp [remO]
  | cons o r => simp [remO]; omega
theorem rkind_ok (h : RdI S D W b u) : callK Tryz.prog 143 [.pointer (some ⟨b, 0, none⟩)] (fun v' w' => v' = .int .u8 (kindH u) ∧ w' = W) W := by
  apply S143_ok
  unfold S143
  refine callK_mono (rover_ok h) ?_
  rintro _ _ ⟨rfl, rfl⟩
  rename World => W
  obtain ⟨sv, x, d, h1, h2, rfl⟩ := h
  cases x with
  | nil =>
    rw [decide_eq_true (show remO [] d = [] from rfl)]
    exact condK_t ⟨rfl, rfl⟩
  | cons o r =>
    rw [decide_eq_false (show ¬ remO (o :: r) d = [] by simp [remO])]
    refine condK_f (nilckK_s ?_)
    rw [faK_i, addr0]
    refine ld1K_i h1.c0 ?_
    obtain ⟨a, c, rfl, _⟩ := h1.rd.shape
    obtain ⟨p, q, rfl, _, hq, hc, rv, sv, pv, rfl, _⟩ := h1.rd.get (i := 0) (by simp)
    refine ixK_n (j := 0) (by simp) ?_
    rw [faK_i, Addr.add_add]
    refine ld1K_i (hc 0 _ rfl) ⟨?_, rfl⟩
    simp [remO, restO_kind, kindH]
/-- how much is left of the first op -/
theorem rleft_ok {o : Dop} {r : List Dop} (h : RdR S D W b sv (o :: r) d) (hd : d ≤ lenN o) : callK Tryz.prog 184 [.pointer (some ⟨b, 0, none⟩)] (fun v' w' => v' = .int .i64 (lenN o - d : Nat) ∧ Grow W w') W := by
  apply S184_ok
  unfold S184
  have ho := h.opk o (by simp)
  have hle := ho.le
  obtain ⟨a, c, rfl, _⟩ := h.rd.shape
  obtain ⟨p, q, rfl, _, hq, hc, rv, sv', pv, rfl, hrv, _⟩ := h.rd.get (i := 0) (by simp)
  obtain ⟨ra, rc, rfl, _⟩ := hrv.shape
  have hc' : ∀ j u, ([.int .u8 o.kind, .int .i64 o.n, .slice ra o.runes.length rc, sv', pv] : List Value)[j]? = some u → W.cell? ((p.add (0 * 5)).add j) = some u := fun j u hu => by rw [Addr.add_add]; exact hc j u hu
  refine nilckK_s ?_
  rw [faK_i, addr0]
  refine ld1K_i h.c0 ?_
  refine ixK_n (j := 0) (by simp) ?_
  rw [faK_i]
  refine ld1K_i (hc' 0 _ rfl) ?_
  rw [eqK_i]
  refine condK_p (fun k2 => ?_) fun k2 => ?_
  · refine drawK_i (fun w => Grow W w) (Mod.drew _ _) ?_
    refine nilckK_s ?_
    rw [faK_i, addr0]
    refine qld1K_i (fun w hw => hw.cell h.c0 fun h => h) ?_
    refine ixK_n (j := 0) (by simp) ?_
    rw [faK_i]
    refine qld1K_i (fun w hw => hw.cell (hc' 2 _ rfl) fun h => h) ?_
    rw [lenK_i]
    refine nilckK_s ?_
    rw [faK_i, addr0]
    refine qld1K_i (fun w hw => hw.cell h.c1 fun h => h) ?_
    have hl : lenN o = o.runes.length := by simp [lenN, k2]
    rw [subK_i, wrap64 (by omega) (by omega)]
    intro w3 g3
    exact ⟨by rw [hl]; congr 1; omega, g3⟩
  · refine drawK_i (fun w => Grow W w) (Mod.drew _ _) ?_
    refine nilckK_s ?_
    rw [faK_i, addr0]
    refine qld1K_i (fun w hw => hw.cell h.c0 fun h => h) ?_
    refine ixK_n (j := 0) (by simp) ?_
    rw [faK_i]
    refine qld1K_i (fun w hw => hw.cell (hc' 1 _ rfl) fun h => h) ?_
    refine nilckK_s ?_
    rw [faK_i, addr0]
    refine qld1K_i (fun w hw => hw.cell h.c1 fun h => h) ?_
    have hl := opk_n ho k2
    rw [subK_i, wrap64 (by omega) (by omega)]
    intro w3 g3
    exact ⟨by congr 1; omega, g3⟩
theorem rlong_ok (h : RdI S D W b u) : callK Tryz.prog 146 [.pointer (some ⟨b, 0, none⟩)] (fun v' w' => v' = .int .i64 (longH u : Nat) ∧ Grow W w') W := by
  apply S146_ok
  unfold S146
  refine callK_mono (rover_ok h) ?_
  rintro _ _ ⟨rfl, rfl⟩
  rename World => W
  obtain ⟨sv, x, d, h1, h2, rfl⟩ := h
  cases x with
  | nil =>
    rw [decide_eq_true (show remO [] d = [] from rfl)]
    exact condK_t ⟨rfl, Mod.refl _ _⟩
  | cons o r =>
    rw [decide_eq_false (show ¬ remO (o :: r) d = [] by simp [remO])]
    refine condK_f ?_
    have hd := h2 o r rfl
    refine callK_mono (rleft_ok h1 (by omega)) ?_
    rintro _ w' ⟨rfl, g⟩
    refine ⟨?_, g⟩
    simp only [remO, longH, restO_len (show d ≤ lenN o by omega)]
theorem headO_rest (k : Nat) (o : Dop) : headO k (restO d o) = if o.kind = 2 then ⟨2, o.n, (o.runes.take (d + k)).drop d, o.set, o.patch⟩ else ⟨o.kind, k, o.runes, o.set, o.patch⟩ := by
  obtain ⟨q, n, rs, s, p⟩ := o
  by_cases e : q = 2
  · subst e
    simp only [headO, restO, if_true]
    rw [List.drop_take]; simp
  · simp [headO, restO, e]
set_option maxRecDepth 20000 in
theorem rtake_ok (h : RdI S D W b u) {n : Nat} (hn1 : 1 ≤ n) (hn2 : n ≤ 536870912) : callK Tryz.prog 145 [.pointer (some ⟨b, 0, none⟩), .int .i64 n] (fun v' w' => ∃ r o u', v' = .agg r.toArray ∧ RDop D w' r o ∧ RdI S D w' b u' ∧ Mod (fun y => y = b) W w' ∧
    ((u = [] ∧ o = ⟨1, n, [], [], []⟩ ∧ u' = [] ∧ rank w' b = rank W b) ∨ ∃ o1 u1, u = o1 :: u1 ∧ o = headO (min n (lenN o1)) o1 ∧ u' = behind (min n (lenN o1)) u ∧ rank w' b < rank W b)) W := by
  apply S145_ok
  unfold S145
  refine newz_i fun b4 w1 hb4 hz1 g1 hc1 hl1 => ?_
  have hI := h.mod g1 (fun h => h) (fun _ _ h => h) fun _ _ h => h
  refine callK_mono (rover_ok hI) ?_
  rintro _ _ ⟨rfl, rfl⟩
  rename World => w1
  have hbW : b < W.heap.size := by obtain ⟨sv, x, d, h1, _⟩ := h; exact World.block_lt_of_cell? W _ h1.c0
  obtain ⟨sv, x, d, h1, h2, rfl⟩ := hI
  cases x with
  | nil =>
    rw [decide_eq_true (show remO [] d = [] from rfl)]
    refine condK_t ⟨#[.int .u8 1, .int .i64 n, .slice none 0 0, .slice none 0 0, .slice none 0 0], by kernel_rfl, ?_⟩
    refine stn_over (vs := [.int .u8 1, .int .i64 n, .slice none 0 0, .slice none 0 0, .slice none 0 0]) rfl (fun u hu => by simp at hu; rcases hu with rfl | rfl | rfl <;> rfl) (fun j hj => hl1 j hj) fun w3 m3 hc3 _ => ?_
    refine ldnK_i (vs := [.int .u8 1, .int .i64 n, .slice none 0 0, .slice none 0 0, .slice none 0 0]) rfl hc3 ?_
    have m13 : Mod (fun y => y = b) W w3 := (g1.mono fun _ _ e => e.elim).next m3 fun y hy e => by omega
    refine ⟨_, ⟨1, n, [], [], []⟩, [], rfl, ⟨_, _, _, rfl, SlR.nil, SlR.nil, SlR.nil⟩, ?_, m13, .inl ⟨rfl, rfl, rfl, h.rank_mod ((g1.mono fun _ _ e => e.elim).next m3 fun y hy e => e : Mod (fun y => y = b4) W w3) (by omega)⟩⟩
    refine ⟨sv, [], d, ?_, h2, rfl⟩
    refine ⟨m3.cell h1.c0 (by intro e; simp only at e; omega), m3.cell h1.c1 (by intro e; simp only at e; omega), fun j hj => (h1.live j hj).mod m3 (by intro e; simp only at e; omega), ?_, h1.lt, h1.opk⟩
    have hs := h1.rd.shape
    obtain ⟨a, c, rfl, hm⟩ := hs
    obtain ⟨a', c', e, q1, q2, q3⟩ := h1.rd
    exact ⟨a', c', e, q1, q2, fun i y hy => by simp at hy⟩
  | cons o r =>
    rw [decide_eq_false (show ¬ remO (o :: r) d = [] by simp [remO])]
    refine condK_f (nilckK_s ?_)
    have hd := h2 o r rfl
    have ho := h1.opk o (by simp)
    have hle := ho.le
    rw [faK_i, addr0]
    refine ld1K_i h1.c0 ?_
    obtain ⟨a, c, rfl, _⟩ := h1.rd.shape
    obtain ⟨p, q, rfl, hSp, hq, hc, hop⟩ := h1.rd.get (i := 0) (by simp)
    refine ixK_n (j := 0) (by simp) ?_
    refine ldnK_i hq (fun j u hu => by rw [Addr.add_add]; exact hc j u hu) ?_
    refine newst_n hq rfl hop.one fun b5 w7 hb5 hz7 g7 hc7 hl7 => ?_
    have hbw : b < w1.heap.size := Nat.lt_of_lt_of_le hbW g1.size
    have h7 := h1.grow g7
    refine callK_mono (rleft_ok h7 (by omega)) ?_
    rintro _ w8 ⟨rfl, g8⟩
    have h8 := h7.grow g8
    have z7 := g7.size
    have z8 := g8.size
    have hop8 : RDop D w8 q o := hop.mod (g7.trans g8) (fun _ _ _ h => h) fun _ _ h => h
    have hc8 : ∀ j v, q[j]? = some v → w8.cell? ⟨b5, j, none⟩ = some v := fun j v hv => by have := g8.cell (hc7 j v hv) fun h => h; rwa [addr0] at this
    have hl8 : ∀ j, j < q.length → Live w8 ⟨b5, j, none⟩ := fun j hj => by have := (hl7 j hj).mod g8 fun h => h; rwa [addr0] at this
    rw [minK_i]
    obtain ⟨k, hk⟩ : ∃ k : Nat, k = min n (lenN o - d) := ⟨_, rfl⟩
    have ek : (if ((lenN o - d : Nat) : Int) < (n : Int) then ((lenN o - d : Nat) : Int) else (n : Int)) = (k : Int) := by split <;> omega
    rw [ek]
    refine JoinK_i (fun _ W4 => ∃ r', RDop D W4 r' (headO k (restO d o)) ∧ (∀ j v, r'[j]? = some v → W4.cell? ((⟨b5, 0, none⟩ : Addr).add j) = some v) ∧ Mod (fun y => y = b5) w8 W4) ?_ ?_
    · rintro _ W4 ⟨r', hr', hcr, m4⟩ _
      have z4 := m4.size
      have l4 : ∀ j, j < 5 → Live W4 ((⟨b4, 0, none⟩ : Addr).add j) := fun j hj => ((((hl1 j hj).mod g7 fun h => h).mod g8 fun h => h).mod m4 (by rw [add_block]; show ¬ b4 = b5; omega))
      have hr1 := hr'.one
      have hr5 : r'.length = 5 := by obtain ⟨_, _, _, rfl, _⟩ := hr'; rfl
      have e1 : W4.cell? ⟨b, 0, none⟩ = some (.slice (some p) (o :: r).length c) := m4.cell h8.c0 (by show ¬ b = b5; omega)
      have e2 : W4.cell? ⟨b, 1, none⟩ = some (.int .i64 d) := m4.cell h8.c1 (by show ¬ b = b5; omega)
      have e3 : ∀ j, j < 2 → Live W4 ⟨b, j, none⟩ := fun j hj => (h8.live j hj).mod m4 (by show ¬ b = b5; omega)
      have hrd4 : RDops S D W4 (.slice (some p) (o :: r).length c) (o :: r) := RDops.mod h8.rd m4 (fun y _ hy e => by have := h1.lt y (.inl hy); omega) fun y _ hy e => by have := h1.lt y (.inr hy); omega
      have g18 : Grow W w8 := (g1.trans g7).trans g8
      have hrW : rank W b = (o :: r).length * 2147483648 - d := by rw [← h1.rank, h.rank_mod g1 fun h => h]
      have fin : ∀ W6, Mod (fun y => y = b) W4 W6 → RdI S D W6 b (behind k (remO (o :: r) d)) → rank W6 b < rank W b → ldnK 5 (.pointer (some ⟨b5, 0, none⟩)) (fun t61 w18 => stnK 5 (.pointer (some ⟨b4, 0, none⟩)) t61 (fun w19 => ldnK 5 (.pointer (some ⟨b4, 0, none⟩)) (fun r0 w20 =>
          ∃ r' o' u', r0 = .agg r'.toArray ∧ RDop D w20 r' o' ∧ RdI S D w20 b u' ∧ Mod (fun y => y = b) W w20 ∧
            ((remO (o :: r) d = [] ∧ o' = ⟨1, n, [], [], []⟩ ∧ u' = [] ∧ rank w20 b = rank W b) ∨ ∃ o1 u1, remO (o :: r) d = o1 :: u1 ∧ o' = headO (min n (lenN o1)) o1 ∧ u' = behind (min n (lenN o1)) (remO (o :: r) d) ∧ rank w20 b < rank W b)) w19) w18) W6 := by
        intro W6 m6 hI6 hrk
        have z6 := m6.size
        refine ldnK_i hr5 (fun j v hv => m6.cell (hcr j v hv) (by rw [add_block]; show ¬ b5 = b; omega)) ?_
        refine stn_over hr5 hr1 (fun j hj => (l4 j hj).mod m6 (by rw [add_block]; show ¬ b4 = b; omega)) fun W7 m7 hc7 _ => ?_
        refine ldnK_i hr5 hc7 ?_
        have mW : Mod (fun y => y = b) W W7 := (((g18.mono fun _ _ e => e.elim : Mod (fun y => y = b) W w8).next m4 fun y hy e => by omega).trans m6).next m7 fun y hy e => by omega
        have hr6 : RDop D W7 r' (headO k (restO d o)) := (hr'.mod m6 (fun y _ hy e => by have := h1.lt y (.inr hy); omega) fun _ _ h => h).mod m7 (fun y _ hy e => by have := h1.lt y (.inr hy); omega) fun _ _ h => h
        have hI7 := hI6.mod m7 (by show ¬ b = b4; omega) (fun y hy e => by have := h1.lt y (.inl hy); omega) fun y hy e => by have := h1.lt y (.inr hy); omega
        refine ⟨r', _, _, rfl, hr6, hI7, mW, .inr ⟨restO d o, r, rfl, ?_, ?_, ?_⟩⟩
        · rw [restO_len (by omega), ← hk]
        · rw [restO_len (by omega), ← hk]
        · rw [hI6.rank_mod m7 (by show ¬ b = b4; omega)]; exact hrk
      refine nilckK_s ?_
      rw [faK_i, addr0]
      refine ld1K_i e2 ?_
      rw [addK_i, wrap64 (by omega) (by omega), show (d : Int) + (k : Int) = ((d + k : Nat) : Int) by omega]
      refine nilckK_s ?_
      rw [faK_i, addr0]
      refine box_store (b := b) (vs := [.slice (some p) (o :: r).length c, .int .i64 d]) (q := 1) (fun j v hv => by
        rcases (show j = 0 ∨ j = 1 by have := (List.getElem?_eq_some_iff.1 hv).1; simp at this; omega) with rfl | rfl
        · cases hv; exact e1
        · cases hv; exact e2) (fun j hj => e3 j (by simpa using hj)) (by simp) rfl rfl fun W5 m5 hc5 hl5 => ?_
      have hrd5 : RDops S D W5 (.slice (some p) (o :: r).length c) (o :: r) := RDops.mod hrd4 m5 (fun y _ hy e => by have := h1.lt y (.inl hy); omega) fun y _ hy e => by have := h1.lt y (.inr hy); omega
      have h5 : RdR S D W5 b (.slice (some p) (o :: r).length c) (o :: r) (d + k) := ⟨hc5 0 _ rfl, hc5 1 _ rfl, fun j hj => hl5 j (by simpa using hj), hrd5, h1.lt, h1.opk⟩
      refine callK_mono (rleft_ok h5 (by omega)) ?_
      rintro _ W6 ⟨rfl, g6⟩
      have h6 := h5.grow g6
      have hl6 : ∀ j, j < 2 → Live W6 ⟨b, j, none⟩ := h6.live
      rw [eqK_i]
      have m46 : Mod (fun y => y = b) W4 W6 := m5.next g6 fun _ _ e => e.elim
      refine condK_p (fun hz => ?_) fun hnz => ?_
      · refine nilckK_s ?_
        rw [faK_i, addr0]
        refine ld1K_i h6.c0 ?_
        refine slice_lo (j := 1) (e := 39) (k := 5) (i := Tryz.t39) (by kernel_rfl) (by kernel_rfl) (by kernel_rfl) h6.rd (by simp) fun v' hv' => ?_
        have hv1 : v'.oneCell' = true ∧ v'.cells = #[v'] := by obtain ⟨a', c', rfl, _⟩ := hv'.shape; exact ⟨rfl, rfl⟩
        refine nilckK_s ?_
        rw [faK_i, addr0]
        refine box_store (b := b) (vs := [.slice (some p) (o :: r).length c, .int .i64 ((d + k : Nat) : Int)]) (q := 0) (fun j v hv => by
          rcases (show j = 0 ∨ j = 1 by have := (List.getElem?_eq_some_iff.1 hv).1; simp at this; omega) with rfl | rfl
          · cases hv; exact h6.c0
          · cases hv; exact h6.c1) (fun j hj => hl6 j (by simpa using hj)) (by simp) hv1.1 hv1.2 fun W7 m7 hc7 hl7 => ?_
        refine nilckK_s ?_
        rw [faK_i, addr0]
        refine box_store (b := b) (vs := [v', .int .i64 ((d + k : Nat) : Int)]) (q := 1) (fun j v hv => hc7 j v hv) (fun j hj => hl7 j hj) (by simp) rfl rfl fun W8 m8 hc8' hl8' => ?_
        have hI8 : RdR S D W8 b v' r 0 := ⟨hc8' 0 _ rfl, hc8' 1 _ rfl, fun j hj => hl8' j (by simpa using hj), RDops.mod hv' (m7.trans m8) (fun y _ hy e => by have := h1.lt y (.inl hy); omega) fun y _ hy e => by have := h1.lt y (.inr hy); omega, h1.lt, fun u hu => h1.opk u (by simp [hu])⟩
        refine fin W8 ((m46.trans m7).trans m8) ⟨v', r, 0, ⟨hc8' 0 _ rfl, hc8' 1 _ rfl, fun j hj => hl8' j (by simpa using hj), ?_, h1.lt, fun u hu => h1.opk u (by simp [hu])⟩, fun o' r' e => by have := (h1.opk o' (by rw [e]; simp)).pos; omega, ?_⟩ (by rw [hI8.rank, hrW]; simp only [List.length_cons]; omega)
        · exact RDops.mod hv' (m7.trans m8) (fun y _ hy e => by have := h1.lt y (.inl hy); omega) fun y _ hy e => by have := h1.lt y (.inr hy); omega
        · simp only [remO, behind]
          rw [restO_len (by omega), if_neg (by omega)]
          cases r with
          | nil => rfl
          | cons o' r' => simp only [restO_0]
      · refine fin W6 m46 ⟨_, _, d + k, h6, fun o' r' e => by cases e; omega, ?_⟩ (by rw [h6.rank, hrW]; simp only [List.length_cons]; omega)
        simp only [remO, behind]
        rw [restO_len (by omega), if_pos (by omega), restO_restO]
    · obtain ⟨rv, sv', pv, rfl, q1, q2, q3⟩ := hop8
      obtain ⟨ra, rc, rfl, hrm⟩ := q1.shape
      rw [faK_i, addr0]
      refine ld1K_i (hc8 0 _ rfl) ?_
      rw [eqK_i]
      refine condK_p (fun k2 => ?_) fun k2 => ?_
      · have hlo : lenN o = o.runes.length := by simp [lenN, k2]
        have gd : Grow w8 w8.drew := Mod.drew _ _
        have h8d := h8.grow gd
        refine drawC_i (fun q y => q = 14 ∧ y = b5) ?_
        rw [faK_i, addr0]
        refine sld1_i ⟨gd.cell (hc8 2 _ rfl) fun h => h, fun j hj e => absurd hj (by rw [e.1]; decide)⟩ ?_
        refine nilckK_s ?_
        rw [faK_i, addr0]
        refine sld1_i ⟨h8d.c1, fun j hj e => absurd hj (by rw [e.1]; decide)⟩ ?_
        refine nilckK_s ?_
        rw [faK_i, addr0]
        refine sld1_i ⟨h8d.c1, fun j hj e => absurd hj (by rw [e.1]; decide)⟩ ?_
        rw [addK_i, wrap64 (by omega) (by omega), show (d : Int) + (k : Int) = ((d + k : Nat) : Int) by omega]
        refine slice_lh (j := d) (q := d + k) (e := 21) (k := 1) (i := Tryz.t21) (by kernel_rfl) (by kernel_rfl) (by kernel_rfl) (q1.grow gd (by decide) fun _ _ h => h) (by omega) (by omega) fun v' hv' => ?_
        have hv1 : v'.oneCell' = true ∧ v'.cells = #[v'] := by obtain ⟨a', c', rfl, _⟩ := hv'.shape; exact ⟨rfl, rfl⟩
        refine ⟨Mod.refl _ _, ?_⟩
        rw [faK_i, addr0]
        refine box_store (q := 2) (fun j v hv => gd.cell (hc8 j v hv) fun h => h) (fun j hj => (hl8 j hj).mod gd fun h => h) (by simp) hv1.1 hv1.2 fun W4 m4 hc4 _ => ?_
        refine ⟨m4.mono fun y _ e => ⟨rfl, e⟩, ?_⟩
        have hD : ∀ y, y < w8.drew.heap.size → D y → ¬ y = b5 := fun y _ hy e => by have := h1.lt y (.inr hy); omega
        refine ⟨_, ?_, fun j v hv => by rw [addr0]; exact hc4 j v hv, (gd.mono fun _ _ e => e.elim : Mod (fun y => y = b5) w8 w8.drew).trans m4⟩
        rw [headO_rest, if_pos k2]
        refine ⟨v', sv', pv, ?_, hv'.mono (fun _ _ h => h) (fun y hy hd => m4.same y hy (hD y hy hd)) (by decide) fun _ _ h => h, (q2.grow gd (by decide) fun _ _ h => h).mono (fun _ _ h => h) (fun y hy hd => m4.same y hy (hD y hy hd)) (by decide) fun _ _ h => h, (q3.grow gd (by decide) fun _ _ h => h).mono (fun _ _ h => h) (fun y hy hd => m4.same y hy (hD y hy hd)) (by decide) fun _ _ h => h⟩
        simp [k2]
      · rw [faK_i, addr0]
        refine box_store (q := 1) (fun j v hv => hc8 j v hv) (fun j hj => hl8 j hj) (by simp) rfl rfl fun W4 m4 hc4 _ => ?_
        have hD : ∀ y, y < w8.heap.size → D y → ¬ y = b5 := fun y _ hy e => by have := h1.lt y (.inr hy); omega
        refine ⟨_, ?_, fun j v hv => by rw [addr0]; exact hc4 j v hv, m4⟩
        rw [headO_rest, if_neg k2]
        refine ⟨_, sv', pv, rfl, q1.mono (fun _ _ h => h) (fun y hy hd => m4.same y hy (hD y hy hd)) (by decide) fun _ _ h => h, q2.mono (fun _ _ h => h) (fun y hy hd => m4.same y hy (hD y hy hd)) (by decide) fun _ _ h => h, q3.mono (fun _ _ h => h) (fun y hy hd => m4.same y hy (hD y hy hd)) (by decide) fun _ _ h => h⟩
end
end Go.Proofs.YtlbaopamhkmepaaGreatDoor

namespace Go.Proofs.YtlbaopamhkmepaaGreatDoor
open Go Go.K

theorem MkI.cut {F : Nat → Prop} {W : World} {b : Nat} {s : MkS} (h : MkI F W b s) : MkI (fun x => F x ∧ x < W.heap.size) W b s := by
  obtain ⟨dv, iv, C, hot, h⟩ := h
  refine ⟨dv, iv, C, hot, h.c0, h.c1, h.c2, h.lv, ⟨h.fb, World.block_lt_of_cell? W _ h.c0⟩, h.nb, fun x hx => ⟨h.cf x hx, (h.cf x hx).2⟩, h.done, fun g hg => ⟨⟨(h.dF g hg).1, (OwnR.ownB h.done g hg).2⟩, (h.dF g hg).2⟩, ?_⟩
  rcases h.ins with h0 | ⟨g, c, hh, e1, e2, e3, e4, e5, e6, e7, e8, e9, e10, e11, e12, e13, e14⟩
  · exact .inl h0
  · exact .inr ⟨g, c, hh, e1, e2, e3, ⟨e4, (OwnR.ownB e3 g (by rw [e1]; rfl)).2⟩, e5, e6, e7, ⟨e8, e13⟩, e9, e10, e11, e12, e13, e14⟩
/-- a maker that has been at work since a world -/
def MkL (W0 : World) (F0 : Nat → Prop) (W : World) (b : Nat) (s : MkS) : Prop := ∃ F : Nat → Prop, MkI F W b s ∧ (∀ x, F x → (F0 x ∨ W0.heap.size ≤ x) ∧ x < W.heap.size) ∧ Mod F0 W0 W
section
variable {W0 W W' : World} {F0 F F1 : Nat → Prop} {b : Nat} {s s' : MkS}
theorem MkL.start (h : MkI F0 W0 b s) : MkL W0 F0 W0 b s := ⟨_, h.cut, fun x hx => ⟨.inl hx.1, hx.2⟩, Mod.refl _ _⟩
theorem MkL.grow (h : MkL W0 F0 W b s) (g : Grow W W') : MkL W0 F0 W' b s := by
  obtain ⟨F, h1, h2, h3⟩ := h
  exact ⟨F, h1.mod g fun _ _ h => h, fun x hx => ⟨(h2 x hx).1, Nat.lt_of_lt_of_le (h2 x hx).2 g.size⟩, h3.next g fun _ _ e => e.elim⟩
/-- what a call of the maker's leaves -/
theorem MkL.next (h2 : ∀ x, F x → (F0 x ∨ W0.heap.size ≤ x)) (h3 : Mod F0 W0 W) (h4 : MkI F1 W' b s') (h5 : ∀ x, F1 x → F x ∨ W.heap.size ≤ x) (h6 : Mod F W W') : MkL W0 F0 W' b s' := by
  refine ⟨_, h4.cut, fun x hx => ⟨?_, hx.2⟩, h3.next h6 fun x hx e => ?_⟩
  · rcases h5 x hx.1 with e | e
    · exact h2 x e
    · exact .inr (Nat.le_trans h3.size e)
  · rcases h2 x e with e | e
    · exact e
    · omega
theorem MkL.trans {W1 : World} {F1 : Nat → Prop} (h : MkL W1 F1 W b s) (h2 : ∀ x, F1 x → F0 x ∨ W0.heap.size ≤ x) (h3 : Mod F0 W0 W1) : MkL W0 F0 W b s := by
  obtain ⟨F, q1, q2, q3⟩ := h
  refine ⟨F, q1, fun x hx => ⟨?_, (q2 x hx).2⟩, h3.next q3 fun x hx e => ?_⟩
  · rcases (q2 x hx).1 with e | e
    · exact h2 x e
    · exact .inr (Nat.le_trans h3.size e)
  · rcases h2 x e with e | e
    · exact e
    · omega
end
theorem valS {v : AVal} (h : ValOK v) : v.s.size ≤ 64 := by
  rcases h with ⟨_, e, _⟩ | ⟨_, e⟩ | ⟨_, e, _⟩ | ⟨_, _, h, _⟩
  · rw [e]; show noS.size ≤ 64; decide
  · rw [e]; show noS.size ≤ 64; decide
  · rw [e]; show noS.size ≤ 64; decide
  · exact h
theorem sum_le {α : Type} (f : α → Nat) (c : Nat) : ∀ (l : List α), (∀ a ∈ l, f a ≤ c) → (l.map f).sum ≤ c * l.length := by
  intro l
  induction l with
  | nil => intro _; simp
  | cons a l ih =>
    intro h
    have h1 := ih fun a ha => h a (by simp [ha])
    have h2 := h a (by simp)
    simp only [List.map_cons, List.sum_cons, List.length_cons, Nat.mul_add, Nat.mul_one]
    omega
section
variable {ks : List DKey}
theorem SetK.m {l : List Attr} (h : SetK ks l) : mSet l ≤ 4160 := by
  have := sum_le mAttr 65 l fun a ha => by have := valS (h.2.2 a ha).1; unfold mAttr; omega
  have := h.2.1
  unfold mSet
  omega
theorem PatK.m {l : List Chg} (h : PatK ks l) : mPat l ≤ 4160 := by
  have := sum_le mChg 65 l fun c hc => by
    obtain ⟨h1, h2, _⟩ := h.2.2 c hc
    unfold mChg
    cases e : c.gone with
    | true => rw [h1 e]; decide
    | false => have := valS (h2 e).1; omega
  have := h.2.1
  unfold mPat
  omega
theorem GoodK.m {o : Dop} (h : GoodK ks o) : mDop o ≤ 8322 * lenN o ∧ 1 ≤ lenN o := by
  have nil1 : mSet [] = 0 := rfl
  have nil2 : mPat [] = 0 := rfl
  rcases h with ⟨h1, h2, h3, h4, h5⟩ | ⟨h1, h2, h3, h4, h5⟩ | ⟨h1, h2, h3, h4, h5, h6⟩
  · have := h5.m
    simp only [mDop, lenN, h1, h2, h3, nil1, List.length_nil, show ¬ (1 : Int) = 2 by decide, if_false]
    omega
  · simp only [mDop, lenN, h1, h2, h3, h4, nil1, nil2, List.length_nil, show ¬ (3 : Int) = 2 by decide, if_false]
    omega
  · have := h6.m
    have := List.length_pos_iff.2 h5
    simp only [mDop, lenN, h1, h4, nil2, if_true]
    omega
theorem good_m {l : List Dop} (h : ∀ o ∈ l, GoodK ks o) : mDops l ≤ 8322 * total l ∧ l.length ≤ total l := by
  induction l with
  | nil => simp [mDops, total]
  | cons o l ih =>
    have h1 := ih fun o ho => h o (by simp [ho])
    have h2 := GoodK.m (h o (by simp))
    simp only [mDops, total, List.map_cons, List.sum_cons, List.length_cons] at *
    omega
theorem GoodM.bnd {s : MkS} {t : Nat} (h : GoodM (SetK ks) (PatK ks) s t) (ht : t ≤ 16777216) : mDops s.done + mDops s.ins ≤ 274877906944 ∧ s.done.length + s.ins.length ≤ 16777216 ∧ ∀ o ∈ s.ins, o.runes.length ≤ 16777216 := by
  have h1 := good_m h.done
  have h2 := good_m fun o ho => (h.ins o ho).1
  have h3 := h.tot
  refine ⟨by omega, by omega, fun o ho => ?_⟩
  have := total_mem ho
  have k2 := (h.ins o ho).2
  simp only [lenN, k2, if_true] at this
  omega
/-- a maker is told an op as it is -/
theorem tell_ok {F D : Nat → Prop} {W : World} {b t : Nat} {s : MkS} {r : List Value} {o : Dop} (hm : MkI F W b s) (hr : RDop D W r o) (hD : ∀ x, D x → ¬ F x) (hs : GoodM (SetK ks) (PatK ks) s t) (ho : GoodK ks o) (ht : t + lenN o ≤ 16777216) :
    callK Tryz.prog 144 [.pointer (some ⟨b, 0, none⟩), .agg r.toArray] (fun _ w' => MkL W F w' b (stepS s o)) W := by
  apply S144_ok
  unfold S144
  obtain ⟨q1, q2, q3⟩ := hs.bnd (by omega)
  have hsz := GoodK.form ho (by omega)
  have hp64 := hsz.2.2.2.1
  have hs64 := hsz.2.1.2.1
  refine boxn_i fun b3 w1 hb3 hz1 g1 hc1 _ => ?_
  have hm1 : MkI F w1 b s := hm.mod g1 fun _ _ h => h
  obtain ⟨rv, sv, pv, rfl, h1, h2, h3⟩ := hr.mod (D' := D) g1 (fun _ _ _ h => h) fun _ _ h => h
  have st : MkL W F w1 b s := (MkL.start hm).grow g1
  rw [faK_i]
  refine ld1K_i (hc1 0 _ rfl) ?_
  rw [eqK_i]
  have nx : ∀ w', MkI (fun x => F x ∨ w1.heap.size ≤ x) w' b (stepS s o) → Mod F w1 w' → MkL W F w' b (stepS s o) := fun w' q m => MkL.next (F := F) (fun x hx => .inl hx) (g1.mono fun _ _ e => e.elim) q (fun x hx => hx) m
  refine condK_p (fun k1 => ?_) fun k1 => ?_
  · rw [faK_i]
    refine ld1K_i (hc1 1 _ rfl) ?_
    rw [faK_i]
    refine ld1K_i (hc1 4 _ rfl) ?_
    refine callK_mono (retain_ok hm1 h3 hD (by omega) (by omega)) ?_
    rintro _ w' ⟨q, m⟩
    exact nx w' (by rw [stepS, if_pos k1]; exact q) m
  · rw [eqK_i]
    refine condK_p (fun k2 => ?_) fun k2 => ?_
    · have hl : lenN o = o.runes.length := by simp [lenN, k2]
      rw [faK_i]
      refine ld1K_i (hc1 2 _ rfl) ?_
      rw [faK_i]
      refine ld1K_i (hc1 3 _ rfl) ?_
      refine callK_mono (insert_ok hm1 h1 h2 hD (by omega) (fun o' ho' => by have := q3 o' ho'; omega) (by omega) (by omega)) ?_
      rintro _ w' ⟨q, m⟩
      exact nx w' (by rw [stepS, if_neg k1, if_pos k2]; exact q) m
    · rw [faK_i]
      refine ld1K_i (hc1 1 _ rfl) ?_
      refine callK_mono (delete_ok hm1) ?_
      rintro _ w' ⟨q, m⟩
      exact nx w' (by rw [stepS, if_neg k1, if_neg k2]; exact q.sub fun x hx => .inl hx) m
theorem fold_good (h64 : ks.length ≤ 64) {s : MkS} {t : Nat} (set : List Attr) (p : List Chg) (hset : SetK ks set) (hp : PatK ks p) : ∀ (rs : List Int), (∀ r ∈ rs, MayR r) → GoodM (SetK ks) (PatK ks) s t → t + rs.length ≤ 16777216 →
    GoodM (SetK ks) (PatK ks) (rs.foldl (fun s r => insS s [r] (cellP ks set p r)) s) (t + rs.length) := by
  intro rs
  induction rs using rev_ind with
  | h0 => intro _ h _; exact h
  | h1 rs r ih =>
    intro hr h ht
    simp only [List.length_append, List.length_cons, List.length_nil] at ht ⊢
    rw [List.foldl_append]
    have h1 := ih (fun q hq => hr q (by simp [hq])) h (by omega)
    have := good_step h1 (o := ⟨2, 0, [r], cellP ks set p r, []⟩) (.inr (.inr ⟨rfl, by simpa using hr r (by simp), rfl, rfl, by simp, cellP_may h64 hset hp r⟩)) (by simp [lenN]; omega)
    simpa [stepS, lenN, Nat.add_assoc] using this
set_option maxRecDepth 20000 in
/-- what a retain or delete of the one does to what the other makes -/
theorem both_ok {E F D D' : Nat → Prop} {W : World} {b t : Nat} {sv : Value} {s : MkS} {r r' : List Value} {u v : Dop} (h64 : ks.length ≤ 64) (hS : SchR E W sv ks) (hE : ∀ x, E x → ¬ F x) (hm : MkI F W b s) (hF : ∀ x, F x → x < W.heap.size) (hr : RDop D W r u) (hD : ∀ x, D x → ¬ F x) (hr' : RDop D' W r' v) (hD' : ∀ x, D' x → ¬ F x)
    (hs : GoodM (SetK ks) (PatK ks) s t) (hu : GoodK ks u) (hv : GoodK ks v) (ht : t + lenN u ≤ 16777216) (hl : lenN u = lenN v) (hk : v.kind ≠ 2) :
    callK Tryz.prog 147 [sv, .pointer (some ⟨b, 0, none⟩), .agg r.toArray, .agg r'.toArray] (fun _ w' => MkL W F w' b (bothS ks s u v)) W := by
  apply S147_ok
  unfold S147
  obtain ⟨q1, q2, q3⟩ := hs.bnd (by omega)
  have fu := GoodK.form hu (by omega)
  have fv := GoodK.form hv (by omega)
  have hup := fu.2.2.2.1
  have hvp := fv.2.2.2.1
  have hus := fu.2.1.2.1
  refine boxn_i fun b6 w1 hb6 hz1 g1 hc1 _ => ?_
  refine boxn_i fun b7 w2 hb7 hz2 g2 hc2 _ => ?_
  have g12 := g1.trans g2
  have hm2 : MkI F w2 b s := hm.mod g12 fun _ _ h => h
  have st : MkL W F w2 b s := (MkL.start hm).grow g12
  obtain ⟨rv, uv, pv, rfl, h1, h2, h3⟩ := hr.mod (D' := D) g12 (fun _ _ _ h => h) fun _ _ h => h
  obtain ⟨rv', uv', pv', rfl, k1, k2, k3⟩ := hr'.mod (D' := D') g12 (fun _ _ _ h => h) fun _ _ h => h
  have c6 : ∀ j x, ([.int .u8 u.kind, .int .i64 u.n, rv, uv, pv] : List Value)[j]? = some x → w2.cell? ((⟨b6, 0, none⟩ : Addr).add j) = some x := fun j x hx => g2.cell (hc1 j x hx) fun h => h
  have n6 : ¬ F b6 := fun e => by have := hF b6 e; omega
  have n7 : ¬ F b7 := fun e => by have := hF b7 e; omega
  have nx : ∀ {w3 w' s'}, Grow w2 w3 → MkI (fun x => F x ∨ w3.heap.size ≤ x) w' b s' → Mod F w3 w' → MkL W F w' b s' := fun g q m => MkL.next (F := F) (fun x hx => .inl hx) ((g12.trans g).mono fun _ _ e => e.elim) q (fun x hx => hx) m
  refine JoinK_i (fun vs w3 => w3 = w2 ∧ vs = [.bool (decide (u.kind = 1) && decide (v.kind = 1))]) ?_ ?_
  rotate_left
  · rw [faK_i]
    refine ld1K_i (c6 0 _ rfl) ?_
    rw [eqK_i]
    refine condK_p (fun ku => ?_) fun ku => ?_
    · rw [faK_i]
      refine ld1K_i (hc2 0 _ rfl) ?_
      rw [eqK_i]
      exact ⟨rfl, by rw [decide_eq_true ku, Bool.true_and]⟩
    · exact ⟨rfl, by rw [decide_eq_false ku, Bool.false_and]⟩
  rintro _ _ ⟨rfl, rfl⟩ _
  rename World => w2
  rw [nth_z, List.headD_cons]
  by_cases ku : u.kind = 1
  · rw [decide_eq_true ku, Bool.true_and]
    refine condK_p (fun kv => ?_) fun kv => ?_
    · have gd : Grow w2 w2.drew := Mod.drew _ _
      refine drawC_i (fun q y => q = 8 ∧ F y) ?_
      rw [faK_i]
      refine sld1_i ⟨gd.cell (hc2 1 _ rfl) fun h => h, fun j _ e => n7 (by rw [add_block] at e; exact e.2)⟩ ?_
      rw [faK_i]
      refine sld1_i ⟨gd.cell (c6 4 _ rfl) fun h => h, fun j _ e => n6 (by rw [add_block] at e; exact e.2)⟩ ?_
      rw [faK_i]
      refine sld1_i ⟨gd.cell (hc2 4 _ rfl) fun h => h, fun j _ e => n7 (by rw [add_block] at e; exact e.2)⟩ ?_
      refine callK_mono (pcom_ok (h3.grow gd (by decide) fun _ _ h => h) (k3.grow gd (by decide) fun _ _ h => h) (by omega)) ?_
      rintro cv w4 ⟨o4, g4⟩
      refine ⟨g4.mono fun _ _ e => e.elim, ?_⟩
      have hc64 := (comP_may h64 fu.2.2 fv.2.2).2.1
      refine callK_mono (retain_ok (hm2.mod (gd.trans g4) fun _ _ h => h) (SlR.sub (OwnR.sl o4) (fun x _ h => h.1) (by decide) fun _ _ h => h) (fun x hx hf => by have := hF x hf; have h5 : w2.drew.heap.size ≤ x := hx; have := (g12.trans gd).size; omega) (by omega) (by omega)) ?_
      rintro _ w5 ⟨q, m⟩
      refine ⟨m.mono fun x _ e => ⟨rfl, e⟩, nx (gd.trans g4) ?_ m⟩
      rw [bothS, if_pos ku, if_pos kv]; exact q
    · rw [faK_i]
      refine ld1K_i (c6 0 _ rfl) ?_
      rw [eqK_i]
      refine condK_p (fun _ => ?_) fun e => (e ku).elim
      rw [faK_i]
      refine ld1K_i (hc2 1 _ rfl) ?_
      refine callK_mono (delete_ok hm2) ?_
      rintro _ w5 ⟨q, m⟩
      refine nx (Mod.refl _ _) ?_ m
      rw [bothS, if_pos ku, if_neg kv]; exact q.sub fun x hx => .inl hx
  · rw [decide_eq_false ku, Bool.false_and]
    refine condK_f ?_
    rw [faK_i]
    refine ld1K_i (c6 0 _ rfl) ?_
    rw [eqK_i]
    refine condK_p (fun e => (ku e).elim) fun _ => ?_
    rw [faK_i]
    refine ld1K_i (hc2 0 _ rfl) ?_
    rw [eqK_i]
    refine condK_p (fun kv => ?_) fun kv => ?_
    rotate_left
    · rw [bothS, if_neg ku, if_neg kv]; exact st
    have k2u : u.kind = 2 ∨ u.kind = 3 := by rcases hu with ⟨h, _⟩ | ⟨h, _⟩ | ⟨h, _⟩ <;> omega
    -- a delete has no runes
    have hrun : u.runes.length ≤ lenN u ∧ ∀ x ∈ u.runes, MayR x := by
      rcases hu with ⟨h, _⟩ | ⟨h, e, _⟩ | ⟨h, e, _⟩
      · omega
      · rw [e]; simp
      · exact ⟨by simp [lenN, h], e⟩
    obtain ⟨ra, rc, rfl, _⟩ := h1.shape
    rw [faK_i]
    refine ld1K_i (c6 2 _ rfl) ?_
    rw [lenK_i]
    rw [bothS, if_neg ku, if_pos kv]
    refine LoopK_i (fun vs W3 => ∃ (i : Nat) (F3 : Nat → Prop), i ≤ u.runes.length ∧ vs = [.int .i64 i] ∧ MkI F3 W3 b ((u.runes.take i).foldl (fun s r => insS s [r] (cellP ks u.set v.patch r)) s) ∧ (∀ x, F3 x → (F x ∨ w2.heap.size ≤ x) ∧ x < W3.heap.size) ∧ Mod F w2 W3) (fun vs _ => u.runes.length - iOf vs 0)
      ⟨0, _, Nat.zero_le _, rfl, hm2.cut, fun x hx => ⟨.inl hx.1, hx.2⟩, Mod.refl _ _⟩ ?_
    rintro vs W3 ⟨i, F3, hi, rfl, hm3, hF3, m3⟩ _
    rw [nth_z, List.headD_cons, ltK_i]
    have hs3 := fold_good h64 u.set v.patch fu.2.1 fv.2.2 (u.runes.take i) (fun x hx => hrun.2 x (List.mem_of_mem_take hx)) hs (by have := List.length_take_le i u.runes; omega)
    obtain ⟨e1, e2, e3⟩ := hs3.bnd (by have := List.length_take_le i u.runes; omega)
    refine condK_p (fun hlt => ?_) fun hge => ?_
    rotate_left
    · have : i = u.runes.length := by omega
      subst this
      rw [List.take_length] at hm3
      exact ⟨_, hm3, fun x hx => ⟨by rcases (hF3 x hx).1 with e | e; exact .inl e; exact .inr (Nat.le_trans g12.size e), (hF3 x hx).2⟩, (g12.mono fun _ _ e => e.elim : Mod F W w2).trans m3⟩
    have hlt' : i < u.runes.length := by omega
    have z3 := m3.size
    have lD : ∀ {x}, D x → ¬ F x := fun h => hD _ h
    have h1' : RRun D W3 (.slice ra u.runes.length rc) u.runes := h1.mono (fun _ _ h => h) (fun y hy hd => m3.same y hy (hD y hd)) (by decide) fun _ _ h => h
    have h2' : RSet D W3 uv u.set := h2.mono (fun _ _ h => h) (fun y hy hd => m3.same y hy (hD y hd)) (by decide) fun _ _ h => h
    have k3' : RPat D' W3 pv' v.patch := k3.mono (fun _ _ h => h) (fun y hy hd => m3.same y hy (hD' y hd)) (by decide) fun _ _ h => h
    have hS3 : SchR E W3 sv ks := (hS.grow g12).mod m3 fun x _ hx => hE x hx
    have c6' : ∀ j x, ([.int .u8 u.kind, .int .i64 u.n, .slice ra u.runes.length rc, uv, pv] : List Value)[j]? = some x → W3.cell? ((⟨b6, 0, none⟩ : Addr).add j) = some x := fun j x hx => m3.cell (c6 j x hx) (by rw [add_block]; exact n6)
    have c7' : ∀ j x, ([.int .u8 v.kind, .int .i64 v.n, rv', uv', pv'] : List Value)[j]? = some x → W3.cell? ((⟨b7, 0, none⟩ : Addr).add j) = some x := fun j x hx => m3.cell (hc2 j x hx) (by rw [add_block]; exact n7)
    obtain ⟨p, q, rfl, _, hq, hc, rfl⟩ := h1'.get hlt'
    refine ixK_n hlt' ?_
    refine ld1K_i (by have := hc 0 _ rfl; rwa [Nat.mul_one] at this ⊢) ?_
    rw [faK_i]
    refine ld1K_i (c6' 3 _ rfl) ?_
    obtain ⟨ua, uc, rfl, _⟩ := h2'.shape
    refine ⟨#[.int .i32 u.runes[i], .slice ua u.set.length uc], by kernel_rfl, ?_⟩
    dsimp only
    rw [faK_i]
    refine ld1K_i (c7' 4 _ rfl) ?_
    refine callK_mono (acell_ok hS3 h2' k3' (by omega)) ?_
    rintro _ w4 ⟨cv, rfl, o4, g4⟩
    have cv1 := (OwnR.one o4).1
    refine newst_n (vs := [.int .i32 u.runes[i], cv]) rfl rfl (fun y hy => by simp at hy; rcases hy with rfl | rfl; rfl; exact cv1) fun b10 w5 hb10 hz5 g5 hc5 _ => ?_
    rw [faK_i]
    refine ld1K_i (hc5 0 _ rfl) ?_
    refine rowK_i (cs := [.int .i32 u.runes[i]]) (by kernel_rfl) ?_
    have g6 : Grow w5 (w5.alloc (.cells [Value.int .i32 u.runes[i]].toArray 21)) := Mod.alloc _ _ _
    have o6 : OwnR w5.heap.size 21 1 RRune (w5.alloc (.cells [Value.int .i32 u.runes[i]].toArray 21)) (.slice (some ⟨w5.heap.size, 0, none⟩) 1 1) [u.runes[i]] := OwnR.row1 (Nat.le_refl _) rfl (fun y hy => by simp at hy; subst hy; rfl) rfl
    generalize w5.alloc (.cells [Value.int .i32 u.runes[i]].toArray 21) = w6 at g6 o6 ⊢
    rw [faK_i]
    refine ld1K_i (g6.cell (hc5 1 _ rfl) fun h => h) ?_
    have g36 := (g4.trans g5).trans g6
    have z36 := g36.size
    have z5 := (g4.trans g5).size
    have hm6 : MkI F3 w6 b _ := hm3.mod g36 fun _ _ h => h
    have hset64 := (cellP_may h64 fu.2.1 fv.2.2 u.runes[i]).2.1
    refine callK_mono (insert_ok (S := fun x => W3.heap.size ≤ x) hm6 (SlR.sub (OwnR.sl o6) (fun x _ h => Nat.le_trans z5 h.1) (by decide) fun _ _ h => h) (SlR.sub (OwnR.sl (OwnR.mod o4 (g5.trans g6) (fun _ _ h => h) fun _ _ _ h => h)) (fun x _ h => h.1) (by decide) fun _ _ h => h)
      (fun x hx hf => by have := (hF3 x hf).2; omega) (by omega) (fun o ho => by have := e3 o ho; simp only [List.length_cons, List.length_nil]; omega) (by simp) (by omega)) ?_
    rintro _ w7 ⟨hm7, m7⟩
    rw [addK_i, loop_step (by omega)]
    refine ⟨⟨i + 1, fun x => (F3 x ∨ w6.heap.size ≤ x) ∧ x < w7.heap.size, hlt', rfl, ?_, fun x hx => ?_, (m3.next g36 fun _ _ e => e.elim).next m7 fun x hx e => ?_⟩, by rw [iOf0, iOf0]; omega⟩
    · rw [List.take_add_one, List.getElem?_eq_getElem hlt', Option.toList, List.foldl_append]
      exact hm7.cut
    · refine ⟨?_, hx.2⟩
      rcases hx.1 with e | e
      · exact (hF3 x e).1
      · exact .inr (by omega)
    · rcases (hF3 x e).1 with e | e
      · exact e
      · omega
end
end Go.Proofs.YtlbaopamhkmepaaGreatDoor

namespace Go.Proofs.YtlbaopamhkmepaaGreatDoor
open Go Go.K

/-- the library's table of first bytes, from 128 on; the ranges of second bytes -/
def firstT (x : Int) : Int := if x < 194 then 241 else if x < 224 then 2 else if x = 224 then 19 else if x = 237 then 35 else if x < 240 then 3 else if x = 240 then 52 else if x < 244 then 4 else if x = 244 then 68 else 241
def accLo (j : Nat) : Int := if j = 1 then 160 else if j = 3 then 144 else if j < 5 then 128 else 0
def accHi (j : Nat) : Int := if j = 2 then 159 else if j = 4 then 143 else if j < 5 then 191 else 0
/-- the tables lie in memory -/
structure Tabs (w : World) : Prop where
  size : 1 < w.heap.size
  first : ∀ j : Nat, 128 ≤ j → j < 256 → w.cell? ⟨0, j, none⟩ = some (.int .u8 (firstT j))
  acc : ∀ j : Nat, j < 16 → w.cell? ⟨1, j * 2, none⟩ = some (.int .u8 (accLo j)) ∧ w.cell? ⟨1, j * 2 + 1, none⟩ = some (.int .u8 (accHi j))
theorem Tabs.grow {w w' : World} (h : Tabs w) (g : Grow w w') : Tabs w' :=
  ⟨Nat.lt_of_lt_of_le h.size g.size, fun j h1 h2 => g.cell (h.first j h1 h2) fun h => h, fun j hj => ⟨g.cell (h.acc j hj).1 fun h => h, g.cell (h.acc j hj).2 fun h => h⟩⟩
theorem Tabs.mod {M : Nat → Prop} {w w' : World} (h : Tabs w) (g : Mod M w w') (hM : ∀ b, b < 3 → ¬ M b) : Tabs w' :=
  ⟨Nat.lt_of_lt_of_le h.size g.size, fun j h1 h2 => g.cell (h.first j h1 h2) (hM 0 (by decide)), fun j hj => ⟨g.cell (h.acc j hj).1 (hM 1 (by decide)), g.cell (h.acc j hj).2 (hM 1 (by decide))⟩⟩

/-- what a first byte's entry says -/
theorem tab_ok {x : Int} (h0 : 128 ≤ x) (h1 : x < 256) : ∃ (f : Int) (z j : Nat), firstT x = f ∧ 0 ≤ f ∧ f < 256 ∧ (f.toNat &&& 7) = z ∧ f / 16 = j ∧ j < 16 ∧ (z = hdSize x ∨ hdSize x = 0 ∧ z = 1) ∧ (hdSize x ≠ 0 → accLo j = hdLo x ∧ accHi j = hdHi x) := by
  unfold firstT hdSize hdLo hdHi
  by_cases a1 : x < 194
  · exact ⟨241, 1, 15, by rw [if_pos a1], by decide, by decide, by decide, by decide, by decide, by rw [if_pos a1]; exact .inr ⟨rfl, rfl⟩, by rw [if_pos a1]; exact fun h => absurd rfl h⟩
  rw [if_neg a1, if_neg a1]
  by_cases a2 : x < 224
  · rw [if_pos a2, if_pos a2]
    exact ⟨2, 2, 0, rfl, by decide, by decide, by decide, by decide, by decide, .inl rfl, fun _ => ⟨by rw [if_neg (by omega), if_neg (by omega)]; rfl, by rw [if_neg (by omega), if_neg (by omega)]; rfl⟩⟩
  rw [if_neg a2, if_neg a2]
  by_cases a3 : x = 224
  · subst a3
    exact ⟨19, 3, 1, rfl, by decide, by decide, by decide, by decide, by decide, .inl rfl, fun _ => ⟨rfl, rfl⟩⟩
  rw [if_neg a3, if_neg a3]
  by_cases a4 : x = 237
  · subst a4
    exact ⟨35, 3, 2, rfl, by decide, by decide, by decide, by decide, by decide, .inl rfl, fun _ => ⟨rfl, rfl⟩⟩
  rw [if_neg a4, if_neg a4]
  by_cases a5 : x < 240
  · rw [if_pos a5, if_pos a5]
    exact ⟨3, 3, 0, rfl, by decide, by decide, by decide, by decide, by decide, .inl rfl, fun _ => ⟨by rw [if_neg (by omega)]; rfl, by rw [if_neg (by omega)]; rfl⟩⟩
  rw [if_neg a5, if_neg a5]
  by_cases a6 : x = 240
  · subst a6
    exact ⟨52, 4, 3, rfl, by decide, by decide, by decide, by decide, by decide, .inl rfl, fun _ => ⟨rfl, rfl⟩⟩
  rw [if_neg a6, if_neg a6]
  by_cases a7 : x < 244
  · rw [if_pos a7, if_pos (by omega)]
    exact ⟨4, 4, 0, rfl, by decide, by decide, by decide, by decide, by decide, .inl rfl, fun _ => ⟨rfl, by rw [if_neg (by omega)]; rfl⟩⟩
  rw [if_neg a7]
  by_cases a8 : x = 244
  · subst a8
    exact ⟨68, 4, 4, rfl, by decide, by decide, by decide, by decide, by decide, .inl rfl, fun _ => ⟨rfl, rfl⟩⟩
  rw [if_neg a8, if_neg (by omega)]
  exact ⟨241, 1, 15, rfl, by decide, by decide, by decide, by decide, by decide, .inr ⟨rfl, rfl⟩, fun h => absurd rfl h⟩
theorem hdSize_v (x : Int) : hdSize x = 0 ∨ hdSize x = 2 ∨ hdSize x = 3 ∨ hdSize x = 4 := by
  unfold hdSize
  (repeat' split) <;> simp
theorem run_and8 {t : TypeId} {xo yo : Operand} {a : Int} {z : Nat} (w : World) (h0 : 0 ≤ a) (h1 : a < 256) (hz : (a.toNat &&& 7) = z) : (binS .and t xo yo (.int .u8 a) (.int .u8 7)).run Tryz.prog w = .ok (.int .u8 z) w := by
  rw [(run_bits w).2]
  have e : ((BitVec.ofInt IntKind.u8.bits a &&& BitVec.ofInt IntKind.u8.bits 7).toNat : Int) = ((a.toNat &&& 7 : Nat) : Int) := by
    show ((BitVec.ofInt 8 a &&& BitVec.ofInt 8 7).toNat : Int) = _
    rw [BitVec.toNat_and, BitVec.toNat_ofInt, BitVec.toNat_ofInt]
    have e : ((2 ^ 8 : Nat) : Int) = 256 := by decide
    rw [e, Int.emod_eq_of_lt h0 h1]
    rfl
  have hz8 : z ≤ 7 := hz ▸ Nat.and_le_right
  rw [e, hz]
  congr 2
  have e1 : (2 : Int) ^ IntKind.u8.bits = 256 := by decide
  simp only [IntKind.wrap, e1, IntKind.signed, Bool.false_and]
  rw [if_neg (by decide)]
  omega
/-- how long a slice is -/
def slLen (v : Value) : Nat := match v with | .slice _ n _ => n | _ => 0
theorem skip_ok {l : List Int} {k : Nat} (hl : ByteL l) (hk : k ≤ l.length) (h : ∀ j, j < k → l.getD j 0 < 128) : (readB l).isSome = (readB (l.drop k)).isSome := by
  refine readB_skip hk fun j x hj hx => ?_
  have := h j hj
  rw [List.getD_eq_getElem?_getD, hx] at this
  exact ⟨(hl x (List.mem_iff_getElem?.2 ⟨j, hx⟩)).1, this⟩
theorem getD_drop (l : List Int) (k j : Nat) : (l.drop k).getD j 0 = l.getD (k + j) 0 := by
  rw [List.getD_eq_getElem?_getD, List.getD_eq_getElem?_getD, List.getElem?_drop]
theorem and_or_zero {a b c : Nat} (h : ((a ||| b) &&& c) = 0) : (a &&& c) = 0 ∧ (b &&& c) = 0 := by
  rw [Nat.and_or_distrib_right] at h
  exact Nat.or_eq_zero_iff.1 h
theorem hi_zero {n : Nat} (h : ((n &&& (9259542123273814144 : Int).toNat : Nat) : Int) = 0) : (n &&& 9259542123273814144) = 0 := Int.ofNat_inj.1 h
set_option maxRecDepth 10000 in
theorem valid_ok {S : Nat → Prop} {v : Value} {b : List Int} {w : World} (h : RBytes S w v b) (hb : ByteL b) (hT : Tabs w) :
    callK Tryz.prog 174 [v] (fun v' w' => v' = .bool (readB b).isSome ∧ Grow w w') w := by
  apply S174_ok
  unfold S174
  have hu : Tryz.prog.underlying 70 = some (.slice 5) := by kernel_rfl
  have hi : Tryz.prog.info? 5 = some Tryz.t5 := by kernel_rfl
  have hs : Tryz.t5.size = 1 := by kernel_rfl
  obtain ⟨a, c, rfl, hm⟩ := h.shape
  obtain ⟨_, _, e0, hc0, _, _⟩ := id h
  cases e0
  rw [lenK_i, lenK_i]
  obtain ⟨a', hr0, ha'⟩ := slice_all_run (a := a) (n := b.length) (c := c) hu hi hs hc0 w
  refine runK_i hr0 ?_
  have h' : RBytes S w (.slice a' b.length b.length) b := by
    obtain ⟨_, _, e0, h1, h2, h3⟩ := h
    cases e0
    refine ⟨_, _, rfl, Nat.le_refl _, hm, fun i x hx => ?_⟩
    obtain ⟨p, r, rfl, q⟩ := h3 i x hx
    have := (List.getElem?_eq_some_iff.1 hx).1
    exact ⟨p, r, ha' (by omega), q⟩
  refine LoopK_i (fun vs W => ∃ l v1, vs = [v1] ∧ RBytes S W v1 l ∧ ByteL l ∧ (readB b).isSome = (readB l).isSome ∧ Grow w W) (fun vs _ => slLen (nth vs 0)) ⟨b, _, rfl, h', hb, rfl, Mod.refl _ _⟩ ?_
  rintro vs W ⟨l, v1, rfl, hl, hB, hrd, gW⟩ _
  rw [nth_z, List.headD_cons]
  obtain ⟨p1, c1, rfl, hm1⟩ := hl.shape
  simp only [maxLen] at hm1
  rw [lenK_i, gtK_i]
  refine condK_p (fun hpos => ?_) fun hneg => ?_
  rotate_left
  · have : l = [] := List.eq_nil_of_length_eq_zero (by omega)
    subst this
    exact ⟨by rw [hrd, readB_nil]; rfl, gW⟩
  -- the round ends with a rest that is shorter
  have again : ∀ {W' : World} {v' : Value} {l' : List Int}, RBytes S W' v' l' → ByteL l' → (readB l).isSome = (readB l').isSome → l'.length < l.length → Grow w W' →
      ((∃ l v1, [v'] = [v1] ∧ RBytes S W' v1 l ∧ ByteL l ∧ (readB b).isSome = (readB l).isSome ∧ Grow w W') ∧ slLen (nth [v'] 0) < slLen (nth [Value.slice p1 l.length c1] 0)) := by
    intro W' v' l' h1 h2 h3 h4 h5
    obtain ⟨q, d, rfl, _⟩ := h1.shape
    exact ⟨⟨l', _, rfl, h1, h2, hrd.trans h3, h5⟩, h4⟩
  have sl : ∀ {W' : World} {q : Option Addr} {n d j : Nat} {l' : List Int} {K : Cont}, RBytes S W' (.slice q n d) l' → j ≤ l'.length → (∀ v', RBytes S W' v' (l'.drop j) → K v' W') → runK Tryz.prog (Instr.sliceAt 70 (.slice q n d) (some (.int .i64 j)) none none) K W' :=
    fun h1 h2 h3 => slice_lo (e := 5) (i := Tryz.t5) hu hi hs h1 h2 h3
  have ge : ∀ {W1 W2 : World} {v' : Value} {l' : List Int}, RBytes S W1 v' l' → Grow W1 W2 → RBytes S W2 v' l' := fun h1 g => h1.grow g (by decide) fun _ _ h => h
  -- a word's call, in a region
  have wq : ∀ {W1 : World} {v' : Value} {l' : List Int} {K : Value → Prop}, RBytes S W1 v' l' → ByteL l' → 8 ≤ l'.length → K (.int .u64 (wordN l')) → qcallK Tryz.prog (fun W2 => Grow W1 W2) 200 [v'] K := by
    intro W1 v' l' K h1 h2 h3 h4
    refine ⟨_, fun w2 g => callK_mono (word_ok (ge h1 g) h2 h3) ?_, h4⟩
    rintro _ w3 ⟨rfl, g3⟩
    exact ⟨rfl, g.trans g3⟩
  obtain ⟨x, t, rfl⟩ : ∃ x t, l = x :: t := by cases l with | nil => simp at hpos | cons x t => exact ⟨x, t, rfl⟩
  have hx := hB x List.mem_cons_self
  have hBt : ByteL t := fun y hy => hB y (List.mem_cons_of_mem _ hy)
  obtain ⟨p, r, rfl, _, hr, hc, rfl⟩ := hl.get (i := 0) (by simp)
  have cx : W.cell? (p.add (0 * 1 + 0)) = some (.int .u8 x) := hc 0 _ rfl
  refine ixK_n (j := 0) (by simp) (ld1K_i cx ?_)
  show ltK .u8 (.int .u8 x) _ _
  rw [ltK_i]
  refine condK_p (fun hlo => ?_) fun hhi => ?_
  · -- ASCII
    have hrt : (readB (x :: t)).isSome = (readB t).isSome := by
      have := skip_ok (l := x :: t) (k := 1) hB (by simp) fun j hj => by
        have : j = 0 := by omega
        subst this; exact hlo
      simpa using this
    refine sl hl (j := 1) (by simp) fun v2 hv2 => ?_
    rw [List.drop_succ_cons, List.drop_zero] at hv2
    obtain ⟨q2, d2, rfl, _⟩ := hv2.shape
    refine JoinK_i (fun vs W2 => Grow W W2 ∧ ∃ q : Bool, vs = [.bool q] ∧ (q = true → 8 ≤ t.length ∧ ∀ j, j < 8 → t.getD j 0 < 128)) ?_ ?_
    · rintro vs W2 ⟨g2, q, rfl, hq⟩ _
      rw [nth_z, List.headD_cons]
      cases q with
      | false => exact condK_f (again (ge hv2 g2) hBt hrt (by simp) (gW.trans g2))
      | true =>
        obtain ⟨h8, hq8⟩ := hq rfl
        refine condK_t (sl (ge hv2 g2) (j := 8) h8 fun v3 hv3 => ?_)
        have hB3 : ByteL (t.drop 8) := ByteL.drop hBt 8
        have hr3 : (readB (x :: t)).isSome = (readB (t.drop 8)).isSome := hrt.trans (skip_ok hBt h8 hq8)
        have hl3 : (t.drop 8).length < (x :: t).length := by simp; omega
        generalize t.drop 8 = l3 at hv3 hB3 hr3 hl3
        obtain ⟨q3, d3, rfl, _⟩ := hv3.shape
        refine JoinK_i (fun vs W3 => Grow W W3 ∧ Grow W2 W3 ∧ ∃ q : Bool, vs = [.bool q] ∧ (q = true → 16 ≤ l3.length ∧ ∀ j, j < 16 → l3.getD j 0 < 128)) ?_ ?_
        · rintro vs W3 ⟨g3, g23, q, rfl, hq⟩ _
          rw [nth_z, List.headD_cons]
          cases q with
          | false => exact condK_f (again (ge hv3 g23) hB3 hr3 hl3 (gW.trans g3))
          | true =>
            obtain ⟨h16, hq16⟩ := hq rfl
            refine condK_t (sl (ge hv3 g23) (j := 16) h16 fun v4 hv4 => ?_)
            refine LoopK_i (fun vs W4 => ∃ l4 v5, vs = [v5] ∧ RBytes S W4 v5 l4 ∧ ByteL l4 ∧ (readB (x :: t)).isSome = (readB l4).isSome ∧ l4.length < (x :: t).length ∧ Grow W W4) (fun vs _ => slLen (nth vs 0))
              ⟨_, _, rfl, hv4, ByteL.drop hB3 16, hr3.trans (skip_ok hB3 h16 hq16), by simp only [List.length_drop]; omega, g3⟩ ?_
            rintro vs W4 ⟨l4, v5, rfl, hv5, hB4, hr4, hl4, g4⟩ _
            rw [nth_z, List.headD_cons]
            obtain ⟨q5, d5, rfl, _⟩ := hv5.shape
            refine drawK_i (fun W' => Grow W4 W') (Mod.drew _ _) ?_
            rw [lenK_i, gtK_i]
            refine condK_p (fun h32 => ?_) fun _ => fun W' g' => again (ge hv5 g') hB4 hr4 hl4 (gW.trans (g4.trans g'))
            have h32' : 32 < l4.length := by omega
            have run := fun (j : Nat) (hj : j ≤ l4.length) (w' : World) => slice_lo_run (a := q5) (n := l4.length) (c := d5) hu hi hs hj w'
            have sls := fun (j : Nat) (hj : j ≤ l4.length) => slice_lo_sl hv5 hj
            refine wq hv5 hB4 (by omega) ?_
            refine ⟨_, fun w' _ => run 8 (by omega) w', ?_⟩
            refine wq (sls 8 (by omega)) (ByteL.drop hB4 8) (by simp only [List.length_drop]; omega) ?_
            have u0 := wordN_U hB4
            have u1 := wordN_U (ByteL.drop hB4 8)
            have u2 := wordN_U (ByteL.drop hB4 16)
            have u3 := wordN_U (ByteL.drop hB4 24)
            refine ⟨_, fun w' _ => run_or64 w' u0 u1, ?_⟩
            refine ⟨_, fun w' _ => run 16 (by omega) w', ?_⟩
            refine wq (sls 16 (by omega)) (ByteL.drop hB4 16) (by simp only [List.length_drop]; omega) ?_
            refine ⟨_, fun w' _ => run 24 (by omega) w', ?_⟩
            refine wq (sls 24 (by omega)) (ByteL.drop hB4 24) (by simp only [List.length_drop]; omega) ?_
            refine ⟨_, fun w' _ => run_or64 w' u2 u3, ?_⟩
            refine ⟨_, fun w' _ => run_or64 w' (orN_U u0 u1) (orN_U u2 u3), ?_⟩
            refine ⟨_, fun w' _ => run_and64 w' (orN_U (orN_U u0 u1) (orN_U u2 u3)) (by unfold U64; decide), ?_⟩
            show eqK .u64 (.int .u64 _) _ _
            rw [eqK_i]
            intro W' g'
            refine condK_p (fun hz => ?_) fun _ => again (ge hv5 g') hB4 hr4 hl4 (gW.trans (g4.trans g'))
            have hz' : ((orN (orN (wordN l4) (wordN (l4.drop 8))) (orN (wordN (l4.drop 16)) (wordN (l4.drop 24)))).toNat &&& 9259542123273814144 : Nat) = 0 := hi_zero hz
            simp only [orN, Int.toNat_natCast] at hz'
            obtain ⟨z1, z2⟩ := and_or_zero hz'
            obtain ⟨z3, z4⟩ := and_or_zero z1
            obtain ⟨z5, z6⟩ := and_or_zero z2
            have a32 : ∀ j, j < 32 → l4.getD j 0 < 128 := by
              intro j hj
              rcases (show j < 8 ∨ 8 ≤ j ∧ j < 16 ∨ 16 ≤ j ∧ j < 24 ∨ 24 ≤ j by omega) with h | h | h | h
              · exact word_ascii hB4 z3 h
              · have := word_ascii (ByteL.drop hB4 8) z4 (j := j - 8) (by omega)
                rw [getD_drop, show 8 + (j - 8) = j by omega] at this; exact this
              · have := word_ascii (ByteL.drop hB4 16) z5 (j := j - 16) (by omega)
                rw [getD_drop, show 16 + (j - 16) = j by omega] at this; exact this
              · have := word_ascii (ByteL.drop hB4 24) z6 (j := j - 24) (by omega)
                rw [getD_drop, show 24 + (j - 24) = j by omega] at this; exact this
            refine sl (ge hv5 g') (j := 32) (by omega) fun v6 hv6 => ?_
            obtain ⟨q6, d6, rfl, _⟩ := hv6.shape
            refine ⟨⟨_, _, rfl, hv6, ByteL.drop hB4 32, hr4.trans (skip_ok hB4 (by omega) a32), by simp only [List.length_drop]; omega, g4.trans g'⟩, ?_⟩
            show (l4.drop 32).length < l4.length
            rw [List.length_drop]; omega
        · refine drawK_i (fun W' => Grow W2 W') (Mod.drew _ _) ?_
          rw [lenK_i, gtK_i]
          refine condK_p (fun h16 => ?_) fun _ => fun W' g' => ⟨g2.trans g', g', false, rfl, fun h => (nomatch h)⟩
          have h16' : 16 < l3.length := by omega
          refine wq hv3 hB3 (by omega) ?_
          refine ⟨_, fun w' _ => slice_lo_run (a := q3) (n := l3.length) (c := d3) hu hi hs (j := 8) (by omega) w', ?_⟩
          refine wq (slice_lo_sl hv3 (by omega)) (ByteL.drop hB3 8) (by simp only [List.length_drop]; omega) ?_
          have u0 := wordN_U hB3
          have u1 := wordN_U (ByteL.drop hB3 8)
          refine ⟨_, fun w' _ => run_or64 w' u0 u1, ?_⟩
          refine ⟨_, fun w' _ => run_and64 w' (orN_U u0 u1) (by unfold U64; decide), ?_⟩
          show eqK .u64 (.int .u64 _) _ _
          rw [eqK_i]
          intro W' g'
          refine ⟨g2.trans g', g', _, rfl, fun hz => ?_⟩
          rw [decide_eq_true_eq] at hz
          have hz' : ((orN (wordN l3) (wordN (l3.drop 8))).toNat &&& 9259542123273814144 : Nat) = 0 := hi_zero hz
          simp only [orN, Int.toNat_natCast] at hz'
          obtain ⟨z1, z2⟩ := and_or_zero hz'
          refine ⟨by omega, fun j hj => ?_⟩
          rcases (show j < 8 ∨ 8 ≤ j by omega) with h | h
          · exact word_ascii hB3 z1 h
          · have := word_ascii (ByteL.drop hB3 8) z2 (j := j - 8) (by omega)
            rw [getD_drop, show 8 + (j - 8) = j by omega] at this; exact this
    · rw [lenK_i, gtK_i]
      refine condK_p (fun h8 => ?_) fun _ => ⟨Mod.refl _ _, false, rfl, fun h => (nomatch h)⟩
      have h8' : 8 < t.length := by omega
      refine callK_mono (word_ok hv2 hBt (by omega)) ?_
      rintro _ W2 ⟨rfl, g2⟩
      refine runK_i (run_and64 W2 (wordN_U hBt) (by unfold U64; decide)) ?_
      rw [eqK_i]
      refine ⟨g2, _, rfl, fun hz => ?_⟩
      rw [decide_eq_true_eq] at hz
      exact ⟨by omega, fun j hj => word_ascii hBt (hi_zero hz) hj⟩
  · -- the first byte of several
    have bad : nextB (x :: t) = (0, 0) → ∀ {W'}, Grow w W' → Value.bool false = .bool (readB b).isSome ∧ Grow w W' := fun e W' g => ⟨by rw [hrd, readB_step (by simp), e]; rfl, g⟩
    have good : ∀ {n : Nat} {r : Int}, nextB (x :: t) = (r, n) → 0 < n → (readB (x :: t)).isSome = (readB ((x :: t).drop n)).isSome := by
      intro n r e hn
      rw [readB_step (by simp), e]
      show (decide (n ≠ 0) && _) = _
      rw [decide_eq_true (show n ≠ 0 by omega), Bool.true_and]
    obtain ⟨f, z, j, hf, hf0, hf1, hz, hj, hj16, hzs, hacc⟩ := tab_ok (x := x) (by omega) hx.2
    have hTW := hT.grow gW
    have cf : W.cell? (Addr.add ⟨0, 0, none⟩ (x.toNat * 1)) = some (.int .u8 f) := by
      rw [addr0, Nat.mul_one, ← hf]
      have := hTW.first x.toNat (by omega) (by omega)
      rwa [show ((x.toNat : Nat) : Int) = x by omega] at this
    refine runK_i (run_indexAt_arr (n := 256) (e := 5) (i := Tryz.t5) (s := 1) (by kernel_rfl) (by kernel_rfl) (by kernel_rfl) hx.1 (by omega)) (ld1K_i cf ?_)
    refine runK_i (run_and8 W hf0 hf1 hz) ?_
    refine runK_i (run_conv (k := .i64) W (by kernel_rfl) (by kernel_rfl)) ?_
    have hz7 : z ≤ 7 := hz ▸ Nat.and_le_right
    rw [wrap64 (by omega) (by omega)]
    refine runK_i (run_shr (n := 4) W (by decide)) ?_
    have ej : f.fdiv (2 ^ 4) = (j : Int) := by
      rw [Int.fdiv_eq_ediv_of_nonneg _ (by decide), ← hj]; rfl
    rw [ej]
    refine runK_i (run_indexAt_arr (n := 16) (e := 244) (i := Tryz.t244) (s := 2) (by kernel_rfl) (by kernel_rfl) (by kernel_rfl) (by omega) (by omega)) ?_
    rw [Int.toNat_natCast, addr0]
    obtain ⟨ca, cb⟩ := hTW.acc j hj16
    refine ldnK_i (vs := [.int .u8 (accLo j), .int .u8 (accHi j)]) rfl (fun q u hu => ?_) ?_
    · rcases q with _ | _ | q
      · cases hu; exact ca
      · cases hu; exact cb
      · simp at hu
    refine newst_n (vs := [.int .u8 (accLo j), .int .u8 (accHi j)]) rfl rfl (fun u hu => by simp at hu; rcases hu with rfl | rfl <;> rfl) fun b6 W2 hb6 hz6 g6 hc6 _ => ?_
    have c6a := hc6 0 _ rfl
    have c6b := hc6 1 _ rfl
    have gW2 := gW.trans g6
    have hl2 := ge hl g6
    have lenpos : 0 < (x :: t).length := by simp
    -- the second byte's test, the third's
    rw [eqK_i]
    refine condK_p (fun h2 => ?_) fun h2 => ?_
    · have hz2 : z = 2 := by omega
      have hsz : hdSize x = 2 := by omega
      obtain ⟨elo, ehi⟩ := hacc (by omega)
      refine JoinK_i (fun _ W3 => Grow W2 W3 ∧ 2 ≤ (x :: t).length ∧ (readB (x :: t)).isSome = (readB ((x :: t).drop 2)).isSome) ?_ ?_
      · rintro vs W3 ⟨g3, hle, hrr⟩ _
        refine sl (ge hl2 g3) (j := 2) hle fun v3 hv3 => ?_
        exact again hv3 (ByteL.drop hB 2) hrr (by rw [List.length_drop]; omega) (gW2.trans g3)
      refine drawK_i (fun W' => Grow W2 W') (Mod.drew _ _) ?_
      rw [lenK_i, ltK_i]
      refine condK_p (fun hsh => fun W' g' => bad (next_short hx.2 (by rw [hsz]; omega)) (gW2.trans g')) fun hlg => ?_
      obtain ⟨y1, t1, rfl⟩ : ∃ y t', t = y :: t' := by cases t with | nil => simp at hlg | cons y t' => exact ⟨y, t', rfl⟩
      have hy1 := hBt y1 List.mem_cons_self
      have hn := next_2 (t := t1) hsz hy1.1 hy1.2
      obtain ⟨_, r1, e1, _, hr1, hc1, rfl⟩ := hl2.get (i := 1) (by simp)
      cases e1
      have cy1 := hc1 0 _ rfl
      refine ixK_n (j := 1) (by simp) (qld1K_i (fun w' g => g.cell cy1 fun h => h) ?_)
      rw [faK_i]
      refine qld1K_i (fun w' g => g.cell c6a fun h => h) ?_
      show ltK .u8 (.int .u8 y1) _ _
      rw [ltK_i]
      refine condK_p (fun hb1 => fun W' g' => bad (by rw [hn, if_neg (by omega)]) (gW2.trans g')) fun hb1 => ?_
      rw [faK_i]
      refine qld1K_i (fun w' g => g.cell c6b fun h => h) ?_
      refine ixK_n (j := 1) (by simp) (qld1K_i (fun w' g => g.cell cy1 fun h => h) ?_)
      show ltK .u8 _ (.int .u8 y1) _
      rw [ltK_i]
      intro W' g'
      refine condK_p (fun hb2 => bad (by rw [hn, if_neg (by omega)]) (gW2.trans g')) fun hb2 => ?_
      exact ⟨g', by simp, good (by rw [hn, if_pos (by omega)]) (by decide)⟩
    rw [eqK_i]
    refine condK_p (fun h3 => ?_) fun h3 => ?_
    · have hz3 : z = 3 := by omega
      have hsz : hdSize x = 3 := by omega
      obtain ⟨elo, ehi⟩ := hacc (by omega)
      refine JoinK_i (fun _ W3 => Grow W2 W3 ∧ 3 ≤ (x :: t).length ∧ (readB (x :: t)).isSome = (readB ((x :: t).drop 3)).isSome) ?_ ?_
      · rintro vs W3 ⟨g3, hle, hrr⟩ _
        refine sl (ge hl2 g3) (j := 3) hle fun v3 hv3 => ?_
        exact again hv3 (ByteL.drop hB 3) hrr (by rw [List.length_drop]; omega) (gW2.trans g3)
      refine drawK_i (fun W' => Grow W2 W') (Mod.drew _ _) ?_
      rw [lenK_i, ltK_i]
      refine condK_p (fun hsh => fun W' g' => bad (next_short hx.2 (by rw [hsz]; omega)) (gW2.trans g')) fun hlg => ?_
      obtain ⟨y1, y2, t1, rfl⟩ : ∃ y y2 t', t = y :: y2 :: t' := by
        rcases t with _ | ⟨y, _ | ⟨y2, t'⟩⟩
        · simp at hlg
        · simp at hlg
        · exact ⟨y, y2, t', rfl⟩
      have hy1 := hBt y1 List.mem_cons_self
      have hy2 := hBt y2 (List.mem_cons_of_mem _ List.mem_cons_self)
      have hn := next_3 (t := t1) hsz hy1.1 hy1.2 hy2.1 hy2.2
      obtain ⟨_, r1, e1, _, hr1, hc1, rfl⟩ := hl2.get (i := 1) (by simp)
      cases e1
      have cy1 := hc1 0 _ rfl
      obtain ⟨_, r2, e2, _, hr2, hc2, rfl⟩ := hl2.get (i := 2) (by simp)
      cases e2
      have cy2 := hc2 0 _ rfl
      refine ixK_n (j := 1) (by simp) (qld1K_i (fun w' g => g.cell cy1 fun h => h) ?_)
      rw [faK_i]
      refine qld1K_i (fun w' g => g.cell c6a fun h => h) ?_
      show ltK .u8 (.int .u8 y1) _ _
      rw [ltK_i]
      refine condK_p (fun hb1 => fun W' g' => bad (by rw [hn, if_neg (by omega)]) (gW2.trans g')) fun hb1 => ?_
      rw [faK_i]
      refine qld1K_i (fun w' g => g.cell c6b fun h => h) ?_
      refine ixK_n (j := 1) (by simp) (qld1K_i (fun w' g => g.cell cy1 fun h => h) ?_)
      show ltK .u8 _ (.int .u8 y1) _
      rw [ltK_i]
      refine condK_p (fun hb2 => fun W' g' => bad (by rw [hn, if_neg (by omega)]) (gW2.trans g')) fun hb2 => ?_
      refine ixK_n (j := 2) (by simp) (qld1K_i (fun w' g => g.cell cy2 fun h => h) ?_)
      show ltK .u8 (.int .u8 y2) _ _
      rw [ltK_i]
      refine condK_p (fun hb3 => fun W' g' => bad (by rw [hn, if_neg (by omega)]) (gW2.trans g')) fun hb3 => ?_
      refine ixK_n (j := 2) (by simp) (qld1K_i (fun w' g => g.cell cy2 fun h => h) ?_)
      show ltK .u8 _ (.int .u8 y2) _
      rw [ltK_i]
      intro W' g'
      refine condK_p (fun hb4 => bad (by rw [hn, if_neg (by omega)]) (gW2.trans g')) fun hb4 => ?_
      exact ⟨g', by simp, good (by rw [hn, if_pos (by omega)]) (by decide)⟩
    rw [eqK_i]
    refine condK_p (fun h4 => ?_) fun h4 => ?_
    · have hz4 : z = 4 := by omega
      have hsz : hdSize x = 4 := by omega
      obtain ⟨elo, ehi⟩ := hacc (by omega)
      refine JoinK_i (fun _ W3 => Grow W2 W3 ∧ 4 ≤ (x :: t).length ∧ (readB (x :: t)).isSome = (readB ((x :: t).drop 4)).isSome) ?_ ?_
      · rintro vs W3 ⟨g3, hle, hrr⟩ _
        refine sl (ge hl2 g3) (j := 4) hle fun v3 hv3 => ?_
        exact again hv3 (ByteL.drop hB 4) hrr (by rw [List.length_drop]; omega) (gW2.trans g3)
      refine drawK_i (fun W' => Grow W2 W') (Mod.drew _ _) ?_
      rw [lenK_i, ltK_i]
      refine condK_p (fun hsh => fun W' g' => bad (next_short hx.2 (by rw [hsz]; omega)) (gW2.trans g')) fun hlg => ?_
      obtain ⟨y1, y2, y3, t1, rfl⟩ : ∃ y y2 y3 t', t = y :: y2 :: y3 :: t' := by
        rcases t with _ | ⟨y, _ | ⟨y2, _ | ⟨y3, t'⟩⟩⟩
        · simp at hlg
        · simp at hlg
        · simp at hlg
        · exact ⟨y, y2, y3, t', rfl⟩
      have hy1 := hBt y1 List.mem_cons_self
      have hy2 := hBt y2 (List.mem_cons_of_mem _ List.mem_cons_self)
      have hy3 := hBt y3 (List.mem_cons_of_mem _ (List.mem_cons_of_mem _ List.mem_cons_self))
      have hn := next_4 (t := t1) hsz hy1.1 hy1.2 hy2.1 hy2.2 hy3.1 hy3.2
      obtain ⟨_, r1, e1, _, hr1, hc1, rfl⟩ := hl2.get (i := 1) (by simp)
      cases e1
      have cy1 := hc1 0 _ rfl
      obtain ⟨_, r2, e2, _, hr2, hc2, rfl⟩ := hl2.get (i := 2) (by simp)
      cases e2
      have cy2 := hc2 0 _ rfl
      obtain ⟨_, r3, e3, _, hr3, hc3, rfl⟩ := hl2.get (i := 3) (by simp)
      cases e3
      have cy3 := hc3 0 _ rfl
      refine ixK_n (j := 1) (by simp) (qld1K_i (fun w' g => g.cell cy1 fun h => h) ?_)
      rw [faK_i]
      refine qld1K_i (fun w' g => g.cell c6a fun h => h) ?_
      show ltK .u8 (.int .u8 y1) _ _
      rw [ltK_i]
      refine condK_p (fun hb1 => fun W' g' => bad (by rw [hn, if_neg (by omega)]) (gW2.trans g')) fun hb1 => ?_
      rw [faK_i]
      refine qld1K_i (fun w' g => g.cell c6b fun h => h) ?_
      refine ixK_n (j := 1) (by simp) (qld1K_i (fun w' g => g.cell cy1 fun h => h) ?_)
      show ltK .u8 _ (.int .u8 y1) _
      rw [ltK_i]
      refine condK_p (fun hb2 => fun W' g' => bad (by rw [hn, if_neg (by omega)]) (gW2.trans g')) fun hb2 => ?_
      refine ixK_n (j := 2) (by simp) (qld1K_i (fun w' g => g.cell cy2 fun h => h) ?_)
      show ltK .u8 (.int .u8 y2) _ _
      rw [ltK_i]
      refine condK_p (fun hb3 => fun W' g' => bad (by rw [hn, if_neg (by omega)]) (gW2.trans g')) fun hb3 => ?_
      refine ixK_n (j := 2) (by simp) (qld1K_i (fun w' g => g.cell cy2 fun h => h) ?_)
      show ltK .u8 _ (.int .u8 y2) _
      rw [ltK_i]
      refine condK_p (fun hb4 => fun W' g' => bad (by rw [hn, if_neg (by omega)]) (gW2.trans g')) fun hb4 => ?_
      refine ixK_n (j := 3) (by simp) (qld1K_i (fun w' g => g.cell cy3 fun h => h) ?_)
      show ltK .u8 (.int .u8 y3) _ _
      rw [ltK_i]
      refine condK_p (fun hb5 => fun W' g' => bad (by rw [hn, if_neg (by omega)]) (gW2.trans g')) fun hb5 => ?_
      refine ixK_n (j := 3) (by simp) (qld1K_i (fun w' g => g.cell cy3 fun h => h) ?_)
      show ltK .u8 _ (.int .u8 y3) _
      rw [ltK_i]
      intro W' g'
      refine condK_p (fun hb6 => bad (by rw [hn, if_neg (by omega)]) (gW2.trans g')) fun hb6 => ?_
      exact ⟨g', by simp, good (by rw [hn, if_pos (by omega)]) (by decide)⟩
    · exact bad (next_bad hB (by omega) (by have := hdSize_v x; omega)) gW2
end Go.Proofs.YtlbaopamhkmepaaGreatDoor

namespace Go.Proofs.YtlbaopamhkmepaaGreatDoor
open Go Go.K

/-- a natural number in groups of seven bits, the lowest first -/
def uvB : Nat → Nat → List Int
  | 0, n => [(n : Int)]
  | f + 1, n => if n ≤ 127 then [(n : Int)] else ((n % 128 + 128 : Nat) : Int) :: uvB f (n / 128)
def uv (n : Nat) : List Int := uvB 9 n
def zigN (n : Int) : Nat := if 0 ≤ n then (2 * n).toNat else (-2 * n - 1).toNat
theorem zigN_inj {a b : Int} (h : zigN a = zigN b) : a = b := by
  unfold zigN at h
  split at h <;> split at h <;> omega
theorem zigN_lt {n : Int} (h0 : -9223372036854775808 ≤ n) (h1 : n ≤ 9223372036854775807) : zigN n < 18446744073709551616 := by
  unfold zigN; split <;> omega
theorem uvB_pre : ∀ {f n m : Nat} {x y : List Int}, n < 128 ^ (f + 1) → m < 128 ^ (f + 1) → uvB f n ++ x = uvB f m ++ y → n = m ∧ x = y := by
  intro f
  induction f with
  | zero =>
    intro n m x y _ _ h
    simp only [uvB, List.singleton_append, List.cons.injEq] at h
    exact ⟨by omega, h.2⟩
  | succ f ih =>
    intro n m x y hn hm h
    rw [Nat.pow_succ] at hn hm
    simp only [uvB] at h
    by_cases h1 : n ≤ 127 <;> by_cases h2 : m ≤ 127
    · rw [if_pos h1, if_pos h2] at h
      simp only [List.singleton_append, List.cons.injEq] at h
      exact ⟨by omega, h.2⟩
    · rw [if_pos h1, if_neg h2] at h
      simp only [List.cons_append, List.cons.injEq] at h
      omega
    · rw [if_neg h1, if_pos h2] at h
      simp only [List.cons_append, List.cons.injEq] at h
      omega
    · rw [if_neg h1, if_neg h2] at h
      simp only [List.cons_append, List.cons.injEq] at h
      have := ih (Nat.div_lt_of_lt_mul (by omega)) (Nat.div_lt_of_lt_mul (by omega)) h.2
      exact ⟨by omega, this.2⟩
theorem uv_pre {n m : Nat} {x y : List Int} (hn : n < 18446744073709551616) (hm : m < 18446744073709551616) (h : uv n ++ x = uv m ++ y) : n = m ∧ x = y := by
  have e : (18446744073709551616 : Nat) ≤ 128 ^ (9 + 1) := by decide
  exact uvB_pre (by omega) (by omega) h
theorem uvB_len : ∀ (f n : Nat), 1 ≤ (uvB f n).length ∧ (uvB f n).length ≤ f + 1 := by
  intro f
  induction f with
  | zero => intro n; simp [uvB]
  | succ f ih =>
    intro n
    simp only [uvB]
    split
    · simp
    · have := ih (n / 128)
      simp only [List.length_cons]; omega
theorem uvB_byte : ∀ (f n : Nat), n < 128 ^ (f + 1) → ∀ x ∈ uvB f n, 0 ≤ x ∧ x < 256 := by
  intro f
  induction f with
  | zero => intro n hn x hx; simp only [uvB, List.mem_singleton] at hx; subst hx; simp at hn; omega
  | succ f ih =>
    intro n hn x hx
    rw [Nat.pow_succ] at hn
    simp only [uvB] at hx
    split at hx
    · simp only [List.mem_singleton] at hx; omega
    · rcases List.mem_cons.1 hx with rfl | hx
      · omega
      · exact ih _ (Nat.div_lt_of_lt_mul (by omega)) x hx
theorem uv_byte {n : Nat} (hn : n < 18446744073709551616) : ∀ x ∈ uv n, 0 ≤ x ∧ x < 256 := by
  have e : (18446744073709551616 : Nat) ≤ 128 ^ (9 + 1) := by decide
  exact uvB_byte 9 n (by omega)

/-- an attribute whose numbers lie in their types -/
def InA (a : Attr) : Prop := (-9223372036854775808 ≤ a.key ∧ a.key ≤ 9223372036854775807) ∧ (0 ≤ a.val.kind ∧ a.val.kind < 256) ∧ (-9223372036854775808 ≤ a.val.n ∧ a.val.n ≤ 9223372036854775807) ∧ (0 ≤ a.val.f ∧ a.val.f < 18446744073709551616) ∧ a.val.s.size < 18446744073709551616
def encA (a : Attr) : List Int := uv (zigN a.key) ++ (uv a.val.kind.toNat ++ (uv (zigN a.val.n) ++ (uv a.val.f.toNat ++ (uv a.val.s.size ++ bytesL a.val.s))))
def encS (l : List Attr) : List Int := l.flatMap encA
theorem bytesL_inj {s t : ByteArray} (h : bytesL s = bytesL t) : s = t := by
  unfold bytesL at h
  have h2 := (List.map_inj_right (f := fun b : UInt8 => (b.toNat : Int)) (fun a b e => UInt8.toNat_inj.1 (Int.ofNat_inj.1 e))).1 h
  cases s; cases t
  simp only [ByteArray.mk.injEq]
  exact Array.toList_inj.1 h2
theorem bytesL_len (s : ByteArray) : (bytesL s).length = s.size := by simp [bytesL]
theorem encA_pre {a b : Attr} (ha : InA a) (hb : InA b) {x y : List Int} (h : encA a ++ x = encA b ++ y) : a = b ∧ x = y := by
  obtain ⟨a1, a2, a3, a4, a5⟩ := ha
  obtain ⟨b1, b2, b3, b4, b5⟩ := hb
  unfold encA at h
  simp only [List.append_assoc] at h
  obtain ⟨e1, h⟩ := uv_pre (zigN_lt a1.1 a1.2) (zigN_lt b1.1 b1.2) h
  obtain ⟨e2, h⟩ := uv_pre (by omega) (by omega) h
  obtain ⟨e3, h⟩ := uv_pre (zigN_lt a3.1 a3.2) (zigN_lt b3.1 b3.2) h
  obtain ⟨e4, h⟩ := uv_pre (by omega) (by omega) h
  obtain ⟨e5, h⟩ := uv_pre a5 b5 h
  obtain ⟨e6, h⟩ := List.append_inj h (by rw [bytesL_len, bytesL_len, e5])
  refine ⟨?_, h⟩
  obtain ⟨ak, av⟩ := a
  obtain ⟨bk, bv⟩ := b
  obtain ⟨v1, v2, v3, v4⟩ := av
  obtain ⟨u1, u2, u3, u4⟩ := bv
  simp only at *
  have := zigN_inj e1
  have := zigN_inj e3
  have := bytesL_inj e6
  have : v1 = u1 := by omega
  have : v3 = u3 := by omega
  subst_vars
  rfl
theorem encS_inj : ∀ {l m : List Attr}, (∀ a ∈ l, InA a) → (∀ a ∈ m, InA a) → encS l = encS m → l = m := by
  have ne : ∀ a x, encA a ++ x ≠ [] := fun a x e => by
    have := uvB_len 9 (zigN a.key)
    have h := congrArg List.length e
    simp only [encA, List.length_append, List.length_nil, uv] at h
    omega
  intro l
  induction l with
  | nil =>
    intro m _ hm h
    cases m with
    | nil => rfl
    | cons b m => exact absurd h.symm (by simpa [encS] using ne b (encS m))
  | cons a l ih =>
    intro m hl hm h
    cases m with
    | nil => exact absurd h (by simpa [encS] using ne a (encS l))
    | cons b m =>
      simp only [encS, List.flatMap_cons] at h
      obtain ⟨rfl, h'⟩ := encA_pre (hl a List.mem_cons_self) (hm b List.mem_cons_self) h
      rw [ih (fun x hx => hl x (List.mem_cons_of_mem _ hx)) (fun x hx => hm x (List.mem_cons_of_mem _ hx)) (show encS l = encS m from h')]
end Go.Proofs.YtlbaopamhkmepaaGreatDoor

namespace Go.K
open Go

structure Ent (α : Type) where
  set : α
  held : Nat
/-- the table: of each place its set and how often it is held; the free places, the one freed last at the end; how often the empty set is held -/
structure Tab (α : Type) where
  places : List (Ent α)
  free : List Nat
  empty : Nat
def Tab.z (α : Type) : Tab α := ⟨[], [], 0⟩
structure Tab.Inv {α : Type} (G : α → Prop) (t : Tab α) : Prop where
  nod : t.free.Nodup
  fre : ∀ i : Nat, i ∈ t.free ↔ ∃ p, t.places[i]? = some p ∧ p.held = 0
  uni : ∀ (i j : Nat) (p q : Ent α), t.places[i]? = some p → t.places[j]? = some q → 0 < p.held → 0 < q.held → p.set = q.set → i = j
  ok : ∀ (i : Nat) (p : Ent α), t.places[i]? = some p → 0 < p.held → G p.set
def Tab.setP {α : Type} (t : Tab α) (i : Nat) (p : Ent α) : Tab α := { t with places := t.places.set i p }
/-- a set that is not there, at a place that nobody has, held once -/
def Tab.put {α : Type} (t : Tab α) (s : α) : Nat × Tab α := match t.free.getLast? with
  | some i => (i, { t with places := t.places.set i ⟨s, 1⟩, free := t.free.dropLast })
  | none => (t.places.length, { t with places := t.places ++ [⟨s, 1⟩] })
/-- a place is freed -/
def Tab.drop {α : Type} (t : Tab α) (z : α) (i : Nat) : Tab α := { t with places := t.places.set i ⟨z, 0⟩, free := t.free ++ [i] }
theorem Tab.Inv.z {α : Type} (G : α → Prop) : (Tab.z α).Inv G := ⟨List.nodup_nil, fun i => by simp [Tab.z], fun i j p q h => by simp [Tab.z] at h, fun i p h => by simp [Tab.z] at h⟩
theorem Tab.Inv.setP {α : Type} {G : α → Prop} {t : Tab α} (h : t.Inv G) {i : Nat} {p : Ent α} (hp : t.places[i]? = some p) (h0 : 0 < p.held) {n : Nat} (hn : 0 < n) : (t.setP i ⟨p.set, n⟩).Inv G := by
  have hi := (List.getElem?_eq_some_iff.1 hp).1
  have key : ∀ (j : Nat) (q : Ent α), (t.places.set i ⟨p.set, n⟩)[j]? = some q → ∃ q' : Ent α, t.places[j]? = some q' ∧ q'.set = q.set ∧ (0 < q.held ↔ 0 < q'.held) := by
    intro j q hq
    rw [List.getElem?_set, if_pos hi] at hq
    split at hq
    · rename_i e; subst e
      cases hq
      exact ⟨p, hp, rfl, by simp only; omega⟩
    · exact ⟨q, hq, rfl, Iff.rfl⟩
  refine ⟨h.nod, fun j => ?_, fun j k p1 p2 h1 h2 h3 h4 h5 => ?_, fun j p1 h1 h2 => ?_⟩
  · show j ∈ t.free ↔ ∃ q : Ent α, (t.places.set i ⟨p.set, n⟩)[j]? = some q ∧ q.held = 0
    rw [h.fre, List.getElem?_set, if_pos hi]
    split
    · rename_i e; subst e
      constructor
      · rintro ⟨q, e1, e2⟩; rw [hp] at e1; cases e1; omega
      · rintro ⟨q, e1, e2⟩; cases e1; simp only at e2; omega
    · exact Iff.rfl
  · obtain ⟨q1, e1, e2, e3⟩ := key j p1 h1
    obtain ⟨q2, f1, f2, f3⟩ := key k p2 h2
    exact h.uni j k q1 q2 e1 f1 (e3.1 h3) (f3.1 h4) (by rw [e2, f2, h5])
  · obtain ⟨q1, e1, e2, e3⟩ := key j p1 h1
    rw [← e2]
    exact h.ok j q1 e1 (e3.1 h2)
theorem dropLast_mem {l : List Nat} (h : l.Nodup) {i : Nat} (hi : l.getLast? = some i) (j : Nat) : j ∈ l.dropLast ↔ j ∈ l ∧ j ≠ i := by
  have e : l = l.dropLast ++ [i] := by
    cases l with
    | nil => simp at hi
    | cons a l =>
      rw [List.getLast?_eq_some_getLast (by simp)] at hi
      conv => lhs; rw [← List.dropLast_concat_getLast (l := a :: l) (by simp)]
      rw [Option.some.inj hi]
  have hn : (l.dropLast ++ [i]).Nodup := e ▸ h
  have hm : j ∈ l ↔ j ∈ l.dropLast ++ [i] := by rw [← e]
  rw [List.nodup_append] at hn
  rw [hm, List.mem_append, List.mem_singleton]
  constructor
  · intro hj
    exact ⟨.inl hj, fun e => hn.2.2 j hj i (List.mem_singleton.2 rfl) e⟩
  · rintro ⟨h1 | h1, h2⟩
    · exact h1
    · exact absurd h1 h2
theorem Tab.put_spec {α : Type} {G : α → Prop} {t : Tab α} (h : t.Inv G) {s : α} (hg : G s) (hs : ∀ (i : Nat) (p : Ent α), t.places[i]? = some p → 0 < p.held → p.set ≠ s) :
    (t.put s).2.Inv G ∧ (t.put s).2.places[(t.put s).1]? = some ⟨s, 1⟩ ∧ (∀ p : Ent α, t.places[(t.put s).1]? = some p → p.held = 0) ∧ (∀ j : Nat, j ≠ (t.put s).1 → (t.put s).2.places[j]? = t.places[j]?) ∧ (t.put s).2.empty = t.empty := by
  unfold Tab.put
  cases hl : t.free.getLast? with
  | some i =>
    have him : i ∈ t.free := List.mem_of_getLast? hl
    obtain ⟨p, hp, hp0⟩ := (h.fre i).1 him
    have hi := (List.getElem?_eq_some_iff.1 hp).1
    have hsame : (t.places.set i ⟨s, 1⟩)[i]? = some ⟨s, 1⟩ := by rw [List.getElem?_set_self hi]
    have hoth : ∀ j : Nat, j ≠ i → (t.places.set i ⟨s, 1⟩)[j]? = t.places[j]? := fun j hj => List.getElem?_set_ne (Ne.symm hj)
    refine ⟨⟨h.nod.sublist (List.dropLast_sublist _), fun j => ?_, fun j k p1 p2 h1 h2 h3 h4 h5 => ?_, fun j p1 h1 h2 => ?_⟩, hsame, fun q hq => ?_, hoth, rfl⟩
    · show j ∈ t.free.dropLast ↔ ∃ q : Ent α, (t.places.set i ⟨s, 1⟩)[j]? = some q ∧ q.held = 0
      rw [dropLast_mem h.nod hl, h.fre]
      by_cases e : j = i
      · subst e
        rw [hsame]
        constructor
        · rintro ⟨_, h2⟩; exact absurd rfl h2
        · rintro ⟨q, e1, e2⟩; cases e1; cases e2
      · rw [hoth j e]
        exact ⟨fun h => h.1, fun h => ⟨h, e⟩⟩
    · simp only at h1 h2
      by_cases e1 : j = i <;> by_cases e2 : k = i
      · rw [e1, e2]
      · subst e1
        rw [hsame] at h1; cases h1
        rw [hoth k e2] at h2
        exact absurd h5.symm (hs k p2 h2 h4)
      · subst e2
        rw [hsame] at h2; cases h2
        rw [hoth j e1] at h1
        exact absurd h5 (hs j p1 h1 h3)
      · rw [hoth j e1] at h1; rw [hoth k e2] at h2
        exact h.uni j k p1 p2 h1 h2 h3 h4 h5
    · simp only at h1
      by_cases e1 : j = i
      · subst e1; rw [hsame] at h1; cases h1; exact hg
      · rw [hoth j e1] at h1; exact h.ok j p1 h1 h2
    · simp only at hq; rw [hp] at hq; cases hq; exact hp0
  | none =>
    have hf : t.free = [] := List.getLast?_eq_none_iff.1 hl
    have hsame : (t.places ++ [(⟨s, 1⟩ : Ent α)])[t.places.length]? = some ⟨s, 1⟩ := by simp
    have hoth : ∀ j : Nat, j ≠ t.places.length → (t.places ++ [(⟨s, 1⟩ : Ent α)])[j]? = t.places[j]? := by
      intro j hj
      by_cases hlt : j < t.places.length
      · rw [List.getElem?_append_left hlt]
      · rw [List.getElem?_eq_none (by simp; omega), List.getElem?_eq_none (by omega)]
    refine ⟨⟨h.nod, fun j => ?_, fun j k p1 p2 h1 h2 h3 h4 h5 => ?_, fun j p1 h1 h2 => ?_⟩, hsame, fun q hq => ?_, hoth, rfl⟩
    · show j ∈ t.free ↔ ∃ q : Ent α, (t.places ++ [(⟨s, 1⟩ : Ent α)])[j]? = some q ∧ q.held = 0
      by_cases e : j = t.places.length
      · subst e
        rw [hsame, hf]
        constructor
        · intro h; simp at h
        · rintro ⟨q, e1, e2⟩; cases e1; cases e2
      · rw [hoth j e, h.fre]
    · simp only at h1 h2
      by_cases e1 : j = t.places.length <;> by_cases e2 : k = t.places.length
      · rw [e1, e2]
      · subst e1
        rw [hsame] at h1; cases h1
        rw [hoth k e2] at h2
        exact absurd h5.symm (hs k p2 h2 h4)
      · subst e2
        rw [hsame] at h2; cases h2
        rw [hoth j e1] at h1
        exact absurd h5 (hs j p1 h1 h3)
      · rw [hoth j e1] at h1; rw [hoth k e2] at h2
        exact h.uni j k p1 p2 h1 h2 h3 h4 h5
    · simp only at h1
      by_cases e1 : j = t.places.length
      · subst e1; rw [hsame] at h1; cases h1; exact hg
      · rw [hoth j e1] at h1; exact h.ok j p1 h1 h2
    · simp only at hq; rw [List.getElem?_eq_none (Nat.le_refl _)] at hq; cases hq
end Go.K

namespace Go.Proofs.YtlbaopamhkmepaaGreatDoor
open Go Go.K

def strOf (l : List Int) : ByteArray := ⟨(l.map fun x => UInt8.ofNat x.toNat).toArray⟩
theorem bytesL_strOf {l : List Int} (h : ∀ x ∈ l, 0 ≤ x ∧ x < 256) : bytesL (strOf l) = l := by
  unfold bytesL strOf
  simp only [List.map_map]
  conv => rhs; rw [← List.map_id l]
  refine List.map_congr_left fun x hx => ?_
  have := h x hx
  simp only [Function.comp, UInt8.toNat_ofNat', id]
  omega
theorem encA_byte {a : Attr} (h : InA a) : ∀ x ∈ encA a, 0 ≤ x ∧ x < 256 := by
  obtain ⟨a1, a2, a3, a4, a5⟩ := h
  intro x hx
  simp only [encA, List.mem_append] at hx
  rcases hx with hx | hx | hx | hx | hx | hx
  · exact uv_byte (zigN_lt a1.1 a1.2) x hx
  · exact uv_byte (by omega) x hx
  · exact uv_byte (zigN_lt a3.1 a3.2) x hx
  · exact uv_byte (by omega) x hx
  · exact uv_byte a5 x hx
  · simp only [bytesL, List.mem_map] at hx
    obtain ⟨b, _, rfl⟩ := hx
    have := b.toNat_lt
    omega
theorem encS_byte {l : List Attr} (h : ∀ a ∈ l, InA a) : ∀ x ∈ encS l, 0 ≤ x ∧ x < 256 := by
  intro x hx
  simp only [encS, List.mem_flatMap] at hx
  obtain ⟨a, ha, hx⟩ := hx
  exact encA_byte (h a ha) x hx
/-- a set's text -/
def textOf (l : List Attr) : ByteArray := strOf (encS l)
theorem textOf_inj {l m : List Attr} (hl : ∀ a ∈ l, InA a) (hm : ∀ a ∈ m, InA a) (h : textOf l = textOf m) : l = m := by
  refine encS_inj hl hm ?_
  rw [← bytesL_strOf (encS_byte hl), ← bytesL_strOf (encS_byte hm)]
  exact congrArg bytesL h
/-- what the map must say -/
def IdsOf (t : Tab (List Attr)) (f : Value → Option Value) : Prop := ∀ s v, f (.string s) = some v ↔ ∃ (i : Nat) (p : Ent (List Attr)), t.places[i]? = some p ∧ 0 < p.held ∧ s = textOf p.set ∧ v = .int .i64 ((i : Int) + 1)
/-- what holds of the sets that are held -/
def GoodS (ks : List Attr → Prop) (s : List Attr) : Prop := s ≠ [] ∧ (∀ a ∈ s, InA a) ∧ ks s
theorem IdsOf.some {K : List Attr → Prop} {t : Tab (List Attr)} {f : Value → Option Value} (h : IdsOf t f) (hi : t.Inv (GoodS K)) {s : List Attr} (hs : ∀ a ∈ s, InA a) {v : Value} (hv : f (.string (textOf s)) = some v) : ∃ i n : Nat, t.places[i]? = .some ⟨s, n⟩ ∧ 0 < n ∧ v = .int .i64 ((i : Int) + 1) := by
  obtain ⟨i, p, h1, h2, h3, h4⟩ := (h _ _).1 hv
  have := textOf_inj hs (hi.ok i p h1 h2).2.1 h3
  subst this
  exact ⟨i, p.held, h1, h2, h4⟩
theorem IdsOf.none {t : Tab (List Attr)} {f : Value → Option Value} (h : IdsOf t f) {s : List Attr} (hv : f (.string (textOf s)) = Option.none) : ∀ (i : Nat) (p : Ent (List Attr)), t.places[i]? = .some p → 0 < p.held → p.set ≠ s := by
  rintro i p h1 h2 rfl
  have := (h (textOf p.set) _).2 ⟨i, p, h1, h2, rfl, rfl⟩
  rw [hv] at this; cases this
theorem IdsOf.setP {t : Tab (List Attr)} {f : Value → Option Value} (h : IdsOf t f) {i : Nat} {p : Ent (List Attr)} (hp : t.places[i]? = .some p) (h0 : 0 < p.held) {n : Nat} (hn : 0 < n) : IdsOf (t.setP i ⟨p.set, n⟩) f := by
  intro s v
  rw [h s v]
  have hi := (List.getElem?_eq_some_iff.1 hp).1
  constructor
  · rintro ⟨j, q, h1, h2, h3, h4⟩
    by_cases e : j = i
    · subst e
      rw [hp] at h1; cases h1
      exact ⟨j, ⟨p.set, n⟩, by show (t.places.set j _)[j]? = _; rw [List.getElem?_set_self hi], hn, h3, h4⟩
    · exact ⟨j, q, by show (t.places.set i _)[j]? = _; rw [List.getElem?_set_ne (Ne.symm e)]; exact h1, h2, h3, h4⟩
  · rintro ⟨j, q, h1, h2, h3, h4⟩
    have h1' : (t.places.set i ⟨p.set, n⟩)[j]? = .some q := h1
    by_cases e : j = i
    · subst e
      rw [List.getElem?_set_self hi] at h1'; cases h1'
      exact ⟨j, p, hp, h0, h3, h4⟩
    · rw [List.getElem?_set_ne (Ne.symm e)] at h1'
      exact ⟨j, q, h1', h2, h3, h4⟩
open Classical in
theorem IdsOf.put {K : List Attr → Prop} {t : Tab (List Attr)} {f : Value → Option Value} (h : IdsOf t f) (hi : t.Inv (GoodS K)) {s : List Attr} (hg : GoodS K s) (hv : f (.string (textOf s)) = Option.none) :
    IdsOf (t.put s).2 (fun k' => if k' = .string (textOf s) then Option.some (.int .i64 (((t.put s).1 : Int) + 1)) else f k') := by
  obtain ⟨_, h1, h2, h3, _⟩ := Tab.put_spec hi hg (h.none hv)
  intro s' v
  simp only [Value.string.injEq]
  constructor
  · intro hh
    split at hh
    · rename_i e; subst e; cases hh
      exact ⟨_, _, h1, Nat.one_pos, rfl, rfl⟩
    · obtain ⟨j, p, q1, q2, q3, q4⟩ := (h s' v).1 hh
      have hj : j ≠ (t.put s).1 := by
        rintro rfl
        have := h2 p q1; omega
      exact ⟨j, p, (h3 j hj).trans q1, q2, q3, q4⟩
  · rintro ⟨j, p, q1, q2, q3, q4⟩
    by_cases hj : j = (t.put s).1
    · subst hj
      rw [h1] at q1; cases q1
      rw [if_pos q3, q4]
    · rw [h3 j hj] at q1
      rw [if_neg]
      · exact (h s' v).2 ⟨j, p, q1, q2, q3, q4⟩
      · intro e
        rw [e] at q3
        exact h.none hv j p q1 q2 (textOf_inj (hi.ok j p q1 q2).2.1 hg.2.1 q3.symm)
open Classical in
theorem IdsOf.drop {K : List Attr → Prop} {t : Tab (List Attr)} {f : Value → Option Value} (h : IdsOf t f) (hi : t.Inv (GoodS K)) {i : Nat} {p : Ent (List Attr)} (hp : t.places[i]? = .some p) (h0 : 0 < p.held) :
    IdsOf (t.drop [] i) (fun k' => if k' = .string (textOf p.set) then Option.none else f k') := by
  have hlt := (List.getElem?_eq_some_iff.1 hp).1
  have hsame : (t.places.set i ⟨[], 0⟩)[i]? = .some ⟨[], 0⟩ := List.getElem?_set_self hlt
  have hoth : ∀ j : Nat, j ≠ i → (t.places.set i (⟨[], 0⟩ : Ent (List Attr)))[j]? = t.places[j]? := fun j hj => List.getElem?_set_ne (Ne.symm hj)
  intro s' v
  simp only [Value.string.injEq]
  constructor
  · intro hh
    split at hh
    · cases hh
    · rename_i e
      obtain ⟨j, q, q1, q2, q3, q4⟩ := (h s' v).1 hh
      have hj : j ≠ i := by
        rintro rfl
        rw [hp] at q1; cases q1
        exact e q3
      exact ⟨j, q, (hoth j hj).trans q1, q2, q3, q4⟩
  · rintro ⟨j, q, q1, q2, q3, q4⟩
    have q1' : (t.places.set i (⟨[], 0⟩ : Ent (List Attr)))[j]? = .some q := q1
    by_cases hj : j = i
    · subst hj
      rw [hsame] at q1'; cases q1'
      exact absurd q2 (Nat.lt_irrefl _)
    · rw [hoth j hj] at q1'
      rw [if_neg]
      · exact (h s' v).2 ⟨j, q, q1', q2, q3, q4⟩
      · intro e
        rw [e] at q3
        exact hj (hi.uni j i q p q1' hp q2 h0 (textOf_inj (hi.ok j q q1' q2).2.1 (hi.ok i p hp h0).2.1 q3.symm))
theorem IdsOf.z : IdsOf (Tab.z _) (fun _ => Option.none) := fun s v => by simp [Tab.z]
end Go.Proofs.YtlbaopamhkmepaaGreatDoor

namespace Go.K
open Go
/-- where an iterator over a string stands -/
def posAt (w : World) (r : Nat) : Nat := match w.heap[r]? with | some (.stringIter _ p) => p | _ => 0
theorem run_next_str {P : Program} {w : World} {r : Nat} {s : ByteArray} {pos : Nat} {ty : TypeId} (h : w.heap[r]? = some (.stringIter s pos)) (hp : pos < s.size) :
    (Instr.next (.pointer (some ⟨r, 0, none⟩)) true ty).run P w = .ok (.tuple #[.bool true, .int .i64 pos, .int .i32 (Utf8.decode s pos).1]) { w with heap := w.heap.setIfInBounds r (.stringIter s (pos + (Utf8.decode s pos).2)) } := by
  simp only [Instr.next, getObj, setObj, Sem.run_bind, Sem.run, h, Result.andThen, hp, if_true]
  simp [goInt]
theorem run_next_over {P : Program} {w : World} {r : Nat} {s : ByteArray} {pos : Nat} {ty : TypeId} (h : w.heap[r]? = some (.stringIter s pos)) (hp : ¬ pos < s.size) :
    (Instr.next (.pointer (some ⟨r, 0, none⟩)) true ty).run P w = .ok (.tuple #[.bool false]) w := by
  simp only [Instr.next, getObj, Sem.run_bind, Sem.run, h, Result.andThen, hp, if_false]
  rfl
theorem Mod.setObj (w : World) (r : Nat) (o o' : Obj) (h : w.heap[r]? = some o) : Mod (fun b => b = r) w { w with heap := w.heap.setIfInBounds r o' } :=
  ⟨rfl, rfl, rfl, by simp, fun x _ hx => (MapKept.heap_set h).2 x hx⟩
end Go.K
namespace Go.Proofs.YtlbaopamhkmepaaGreatDoor
open Go Go.K

theorem run_str {S : Nat → Prop} {v : Value} {b : List Int} {w : World} (h : RBytes S w v b) (hb : ByteL b) : (convert 70 9 v).run Tryz.prog w = .ok (.string (strOf b)) w := by
  obtain ⟨a, c, rfl, hm⟩ := h.shape
  cases a with
  | none =>
    have : b = [] := by
      cases b with
      | nil => rfl
      | cons x b => obtain ⟨p, r, e, _⟩ := h.get (i := 0) (by simp); cases e
    subst this
    exact run_convert_bytes_nil w 70 5 (by kernel_rfl) (by kernel_rfl) _ _ _ (by kernel_rfl)
  | some p =>
    have hl : (b.map fun x => UInt8.ofNat x.toNat).length = b.length := by simp
    have := run_convert_bytes_back (P := Tryz.prog) w 70 9 5 p c (b.map fun x => UInt8.ofNat x.toNat) (by kernel_rfl) (by kernel_rfl) (by kernel_rfl) (fun j hj => by
      rw [hl] at hj
      obtain ⟨_, r, e, _, hr, hc, rfl⟩ := h.get hj
      cases e
      have := hc 0 _ rfl
      rw [Nat.mul_one, Nat.add_zero] at this
      rw [this]
      have hbj := hb b[j] (List.getElem_mem hj)
      simp only [List.getElem_map, UInt8.toNat_ofNat']
      congr 2
      omega)
    rw [hl] at this
    exact this
/-- the program's decoding of a rune is the document's -/
theorem decode_next {s : ByteArray} {pos : Nat} {r : Int} {n : Nat} (hp : pos < s.size) (h : nextB ((bytesL s).drop pos) = (r, n)) (hn : n ≠ 0) : ((Utf8.decode s pos).1 : Int) = r ∧ (Utf8.decode s pos).2 = n := by
  have hat : ∀ k c, ((bytesL s).drop pos)[k]? = some c → pos + k < s.size ∧ (((s.get! (pos + k)).toNat : Nat) : Int) = c := by
    intro k c hc
    rw [List.getElem?_drop] at hc
    have hlt : pos + k < s.size := by
      have := (List.getElem?_eq_some_iff.1 hc).1
      rwa [bytesL_len] at this
    refine ⟨hlt, ?_⟩
    have hg : s.get! (pos + k) = s[pos + k]'hlt := by
      simp [ByteArray.get!, getElem!_pos, hlt]
      rfl
    rw [hg]
    simp only [bytesL, List.getElem?_map] at hc
    have hlt' : pos + k < s.data.toList.length := by simpa using hlt
    rw [List.getElem?_eq_getElem hlt'] at hc
    have := Option.some.inj hc
    exact this
  have hB : ByteL ((bytesL s).drop pos) := fun x hx => by
    have := List.mem_of_mem_drop hx
    simp only [bytesL, List.mem_map] at this
    obtain ⟨b, _, rfl⟩ := this
    have := b.toNat_lt
    omega
  have hne : ((bytesL s).drop pos).length ≠ 0 := by rw [List.length_drop, bytesL_len]; omega
  generalize (bytesL s).drop pos = l at h hat hB hne
  obtain ⟨b0, t, rfl⟩ : ∃ x t, l = x :: t := by cases l with | nil => simp at hne | cons x t => exact ⟨x, t, rfl⟩
  obtain ⟨_, e0⟩ := hat 0 b0 rfl
  have h0 := hB b0 List.mem_cons_self
  generalize hm0 : (s.get! (pos + 0)).toNat = m0 at e0
  by_cases ha : b0 < 128
  · rw [next_ascii h0.1 ha] at h
    cases h
    simp only [Utf8.decode, hm0]
    rw [if_pos (by omega)]
    exact ⟨e0, rfl⟩
  rcases hdSize_v b0 with hz | hz | hz | hz
  · rw [next_bad hB (by omega) hz] at h
    cases h; exact absurd rfl hn
  · cases t with
    | nil => rw [next_short h0.2 (by rw [hz]; simp)] at h; cases h; exact absurd rfl hn
    | cons c1 t =>
      have h1 := hB c1 (by simp)
      obtain ⟨l1, e1⟩ := hat 1 c1 rfl
      generalize hm1 : (s.get! (pos + 1)).toNat = m1 at e1
      rw [next_2 hz h1.1 h1.2] at h
      split at h
      · rename_i hc
        cases h
        have hb0 : 194 ≤ b0 ∧ b0 < 224 := by
          unfold hdSize at hz
          (repeat' split at hz) <;> omega
        have hlo : 128 ≤ hdLo b0 := by
          unfold hdLo
          split
          · decide
          · split <;> decide
        have hhi : hdHi b0 ≤ 191 := by
          unfold hdHi
          split
          · decide
          · split <;> decide
        have q1 : (m0 / 32 == 6 && (decide (pos + 1 < s.size) && m1 / 64 == 2)) = true := by
          simp only [Bool.and_eq_true, beq_iff_eq, decide_eq_true_eq]
          exact ⟨by omega, l1, by omega⟩
        simp only [Utf8.decode, hm0, hm1]
        rw [if_neg (by omega), if_pos q1, if_pos (by omega)]
        exact ⟨by omega, rfl⟩
      · cases h; exact absurd rfl hn
  · rcases t with _ | ⟨c1, _ | ⟨c2, t⟩⟩
    · rw [next_short h0.2 (by rw [hz]; simp)] at h; cases h; exact absurd rfl hn
    · rw [next_short h0.2 (by rw [hz]; simp)] at h; cases h; exact absurd rfl hn
    · have h1 := hB c1 (by simp)
      have h2 := hB c2 (by simp)
      obtain ⟨l1, e1⟩ := hat 1 c1 rfl
      obtain ⟨l2, e2⟩ := hat 2 c2 rfl
      generalize hm1 : (s.get! (pos + 1)).toNat = m1 at e1
      generalize hm2 : (s.get! (pos + 2)).toNat = m2 at e2
      rw [next_3 hz h1.1 h1.2 h2.1 h2.2] at h
      split at h
      · rename_i hc
        cases h
        have hb0 : 224 ≤ b0 ∧ b0 < 240 := by
          unfold hdSize at hz
          (repeat' split at hz) <;> omega
        have hlo : (if b0 = 224 then (160 : Int) else 128) ≤ c1 := by
          refine Int.le_trans ?_ hc.1.1
          unfold hdLo
          split
          · decide
          · split <;> decide
        have hhi : c1 ≤ (if b0 = 237 then (159 : Int) else 191) := by
          refine Int.le_trans hc.1.2 ?_
          unfold hdHi
          split
          · decide
          · split <;> decide
        have hlo2 : 128 ≤ c1 := by split at hlo <;> omega
        have hhi2 : c1 ≤ 191 := by split at hhi <;> omega
        have q1 : ¬ (m0 / 32 == 6 && (decide (pos + 1 < s.size) && m1 / 64 == 2)) = true := by
          simp only [Bool.and_eq_true, beq_iff_eq, decide_eq_true_eq]
          rintro ⟨x, _⟩; omega
        have q2 : (m0 / 16 == 14 && (decide (pos + 1 < s.size) && m1 / 64 == 2) && (decide (pos + 2 < s.size) && m2 / 64 == 2)) = true := by
          simp only [Bool.and_eq_true, beq_iff_eq, decide_eq_true_eq]
          exact ⟨⟨by omega, l1, by omega⟩, l2, by omega⟩
        have q3 : (decide (m0 % 16 * 4096 + m1 % 64 * 64 + m2 % 64 ≥ 2048) && Utf8.valid ((m0 % 16 * 4096 + m1 % 64 * 64 + m2 % 64 : Nat) : Int)) = true := by
          simp only [Utf8.valid, Bool.and_eq_true, Bool.or_eq_true, decide_eq_true_eq]
          refine ⟨by split at hlo <;> omega, ?_⟩
          split at hhi
          · left; omega
          · by_cases hb : b0 < 237
            · left; omega
            · right; omega
        simp only [Utf8.decode, hm0, hm1, hm2]
        rw [if_neg (by omega), if_neg q1, if_pos q2, if_pos q3]
        exact ⟨by omega, rfl⟩
      · cases h; exact absurd rfl hn
  · rcases t with _ | ⟨c1, _ | ⟨c2, _ | ⟨c3, t⟩⟩⟩
    · rw [next_short h0.2 (by rw [hz]; simp)] at h; cases h; exact absurd rfl hn
    · rw [next_short h0.2 (by rw [hz]; simp)] at h; cases h; exact absurd rfl hn
    · rw [next_short h0.2 (by rw [hz]; simp)] at h; cases h; exact absurd rfl hn
    · have h1 := hB c1 (by simp)
      have h2 := hB c2 (by simp)
      have h3 := hB c3 (by simp)
      obtain ⟨l1, e1⟩ := hat 1 c1 rfl
      obtain ⟨l2, e2⟩ := hat 2 c2 rfl
      obtain ⟨l3, e3⟩ := hat 3 c3 rfl
      generalize hm1 : (s.get! (pos + 1)).toNat = m1 at e1
      generalize hm2 : (s.get! (pos + 2)).toNat = m2 at e2
      generalize hm3 : (s.get! (pos + 3)).toNat = m3 at e3
      rw [next_4 hz h1.1 h1.2 h2.1 h2.2 h3.1 h3.2] at h
      split at h
      · rename_i hc
        cases h
        have hb0 : 240 ≤ b0 ∧ b0 < 245 := by
          unfold hdSize at hz
          (repeat' split at hz) <;> omega
        have hlo : (if b0 = 240 then (144 : Int) else 128) ≤ c1 := by
          refine Int.le_trans ?_ hc.1.1
          unfold hdLo
          rw [if_neg (show ¬ b0 = 224 by omega)]
          exact Int.le_refl _
        have hhi : c1 ≤ (if b0 = 244 then (143 : Int) else 191) := by
          refine Int.le_trans hc.1.2 ?_
          unfold hdHi
          rw [if_neg (show ¬ b0 = 237 by omega)]
          exact Int.le_refl _
        have hlo2 : 128 ≤ c1 := by split at hlo <;> omega
        have hhi2 : c1 ≤ 191 := by split at hhi <;> omega
        have q1 : ¬ (m0 / 32 == 6 && (decide (pos + 1 < s.size) && m1 / 64 == 2)) = true := by
          simp only [Bool.and_eq_true, beq_iff_eq, decide_eq_true_eq]
          rintro ⟨x, _⟩; omega
        have q2 : ¬ (m0 / 16 == 14 && (decide (pos + 1 < s.size) && m1 / 64 == 2) && (decide (pos + 2 < s.size) && m2 / 64 == 2)) = true := by
          simp only [Bool.and_eq_true, beq_iff_eq, decide_eq_true_eq]
          rintro ⟨⟨x, _⟩, _⟩; omega
        have q3 : (m0 / 8 == 30 && (decide (pos + 1 < s.size) && m1 / 64 == 2) && (decide (pos + 2 < s.size) && m2 / 64 == 2) && (decide (pos + 3 < s.size) && m3 / 64 == 2)) = true := by
          simp only [Bool.and_eq_true, beq_iff_eq, decide_eq_true_eq]
          exact ⟨⟨⟨by omega, l1, by omega⟩, l2, by omega⟩, l3, by omega⟩
        have q4 : (decide (m0 % 8 * 262144 + m1 % 64 * 4096 + m2 % 64 * 64 + m3 % 64 ≥ 65536) && Utf8.valid ((m0 % 8 * 262144 + m1 % 64 * 4096 + m2 % 64 * 64 + m3 % 64 : Nat) : Int)) = true := by
          simp only [Utf8.valid, Bool.and_eq_true, Bool.or_eq_true, decide_eq_true_eq]
          refine ⟨by split at hlo <;> omega, ?_⟩
          right
          split at hhi <;> omega
        simp only [Utf8.decode, hm0, hm1, hm2, hm3]
        rw [if_neg (by omega), if_neg q1, if_neg q2, if_pos q3, if_pos q4]
        exact ⟨by omega, rfl⟩
      · cases h; exact absurd rfl hn
theorem runes_ok {S : Nat → Prop} {v : Value} {b : List Int} {w : World} (h : RBytes S w v b) (hb : ByteL b) (hT : Tabs w) (hl : b.length * 4 ≤ 140737488355328) :
    callK Tryz.prog 114 [v] (fun v' w' => Grow w w' ∧ match readB b with
      | some l => ∃ sl, v' = .tuple #[sl, .int .i64 0] ∧ OwnR w.heap.size 21 1 RRune w' sl l
      | none => v' = .tuple #[.slice none 0 0, .int .i64 3]) w := by
  apply S114_ok
  unfold S114
  refine callK_mono (valid_ok h hb hT) ?_
  rintro _ w1 ⟨rfl, g1⟩
  rw [notK_i]
  cases hr : readB b with
  | none => exact condK_t ⟨g1, rfl⟩
  | some rs =>
    refine condK_f (runK_i (run_str (h.grow g1 (by decide) fun _ _ h => h) hb) ?_)
    have hs : bytesL (strOf b) = b := bytesL_strOf hb
    have hsz : (strOf b).size = b.length := by rw [← bytesL_len, hs]
    generalize strOf b = s at hs hsz
    refine runK_i (run_range_string w1 9 s (by kernel_rfl)) ?_
    have hit := World.iter_heap w1 s 0
    have g2 : Grow w1 (w1.iter s 0) := Mod.alloc _ _ _
    have hr1 := g1.size
    generalize w1.iter s 0 = w2 at hit g2
    generalize hrb : w1.heap.size = r at hit
    have hrw : w.heap.size ≤ r := by omega
    refine LoopK_i (fun vs W => ∃ (pos : Nat) (lv : Value) (acc : List Int), pos ≤ b.length ∧ acc.length ≤ pos ∧ vs = [lv] ∧ W.heap[r]? = some (.stringIter s pos) ∧ OwnR w.heap.size 21 1 RRune W lv acc ∧ lv.ownBlock ≠ some r ∧ Grow w W ∧ readB b = (readB (b.drop pos)).map (acc ++ ·)) (fun _ W => b.length - posAt W r)
      ⟨0, _, [], Nat.zero_le _, Nat.le_refl _, rfl, hit, OwnR.nil, (fun h => nomatch h), g1.trans g2, by simp⟩ ?_
    rintro vs W ⟨pos, lv, acc, hpos, hacc, rfl, hi, ho, hrn, gW, hrd⟩ _
    have hposAt : posAt W r = pos := by simp [posAt, hi]
    by_cases hlt : pos < s.size
    · have hlt' : pos < b.length := by omega
      have hne : b.drop pos ≠ [] := by intro e; have := congrArg List.length e; simp at this; omega
      have hnl := nextB_len (b.drop pos)
      rw [List.length_drop] at hnl
      rw [readB_cons hne] at hrd
      have hnx : ∃ q n, nextB (b.drop pos) = (q, n) := ⟨_, _, rfl⟩
      obtain ⟨q, n, hq⟩ := hnx
      rw [hq] at hrd hnl
      simp only at hrd hnl
      have hn : n ≠ 0 := by
        intro e
        rw [if_pos e, hr] at hrd
        cases hrd
      rw [if_neg hn] at hrd
      obtain ⟨d1, d2⟩ := decode_next (s := s) hlt (by rw [hs]; exact hq) hn
      refine runK_i (run_next_str hi hlt) ?_
      rw [d1, d2]
      refine extK_i (vs := [_, _, _]) (by rfl) (condK_t (extK_i (vs := [_, _, _]) (by rfl) ?_))
      have m3 := Mod.setObj W r _ (.stringIter s (pos + n)) hi
      have hi3 := (MapKept.heap_set (o' := .stringIter s (pos + n)) hi).1
      have hi3' : ({ W with heap := W.heap.setIfInBounds r (.stringIter s (pos + n)) } : World).heap[r]? = some (.stringIter s (pos + n)) := hi3
      generalize ({ W with heap := W.heap.setIfInBounds r (.stringIter s (pos + n)) } : World) = W3 at m3 hi3'
      have ho3 : OwnR w.heap.size 21 1 RRune W3 lv acc := OwnR.mod ho m3 (fun g hg e => hrn (e ▸ hg)) fun _ _ _ h => h
      have gW3 : Grow w W3 := gW.next m3 fun x hx e => by omega
      show rowK _ _ _ _ [(0, .int .i32 q)] _ _
      refine push_g elem_rune ho3 gW3.size (cs := [.int .i32 q]) (x := q) (by kernel_rfl) rfl rfl (fun _ _ _ => RRune.one) (fun _ _ _ _ _ _ h => h) (by omega) (by simp only [maxLen]; omega) fun v' w' h1 h2 h3 => ?_
      have hrlt : r < W3.heap.size := (Array.getElem?_eq_some_iff.1 hi3').1
      have hi4 : w'.heap[r]? = some (.stringIter s (pos + n)) := (h2.same r hrlt hrn).trans hi3'
      refine ⟨⟨pos + n, v', acc ++ [q], by omega, by simp; omega, rfl, hi4, h1, fun e => ?_, gW3.next h2 fun x hx e => ?_, ?_⟩, ?_⟩
      · rcases h3 r e with e | e
        · exact hrn e
        · omega
      · have := (OwnR.ownB ho3 x e).1
        omega
      · rw [hrd, List.drop_drop]
        cases readB (b.drop (pos + n)) <;> simp
      · rw [hposAt]
        have : posAt w' r = pos + n := by simp [posAt, hi4]
        rw [this]
        omega
    · refine runK_i (run_next_over hi hlt) ?_
      refine extK_i (vs := [_]) (by rfl) (condK_f ?_)
      have : pos = b.length := by omega
      subst this
      rw [List.drop_length, readB_nil, hr] at hrd
      simp only [Option.map_some, Option.some.injEq, List.append_nil] at hrd
      subst hrd
      exact ⟨gW, lv, rfl, ho⟩
end Go.Proofs.YtlbaopamhkmepaaGreatDoor

namespace Go.Proofs.YtlbaopamhkmepaaGreatDoor
open Go Go.K
/-- rubric/attrs.May -/
def S154 (v0 v1 : Value) (K : Cont) (w : World) : Prop :=
  lenK v1 fun t9 =>
  gtK .i64 t9 (.int .i64 64) fun t10 =>
  condK t10
  (K (.int .i64 3) w)
  (lenK v1 fun t12 =>
  LoopK [(.int .i64 0), (.int .i64 0)] (fun vs again w1 => ∀ _h : Env,
  ltK .i64 (nth vs 1) t12 fun t14 =>
  condK t14
  (ixK 5 v1 (nth vs 1) fun t16 =>
  ldnK 5 t16 (fun t17 w2 =>
  newK 109 [(.int .i64 0), (.int .u8 0), (.int .i64 0), (.int .u64 0), (.string (ByteArray.mk #[]))] (fun t7 w3 =>
  stnK 5 t7 t17 (fun w4 =>
  JoinK (fun vs_1 w5 => ∀ _h_1 : Env,
  condK (nth vs_1 0)
  (K (.int .i64 3) w5)
  (faK 0 t7 fun t40 =>
  ld1K t40 (fun t41 w6 =>
  faK 1 t7 fun t42 =>
  ldnK 4 t42 (fun t43 w7 =>
  callK Tryz.prog 192 [v0, t41, t43] (fun t44 w8 =>
  notK t44 fun t45 =>
  condK t45
  (addK .i64 (nth vs 1) (.int .i64 1) fun t46 =>
  again [(.int .i64 4), t46] w8)
  (addK .i64 (nth vs 1) (.int .i64 1) fun t46_1 =>
  again [(nth vs 0), t46_1] w8)) w7) w6) w5)) (fun J =>
  DrawC [16] [[], [0], [0, 1], [0, 1, 2], [0, 1, 2], [0, 1, 2, 4], [0, 1, 2, 3, 4, 5], [0, 1, 2, 3, 4, 5, 6], [0, 1, 2, 3, 4, 5, 6, 7], [0, 1, 2], [0, 1, 2, 9], [0, 1, 2, 3, 4, 5, 6, 7, 8, 9, 10], [0, 1, 2, 3, 4, 5, 6, 7, 8, 9, 10, 11], [0, 1, 2, 3, 4, 5, 6, 7, 8, 9, 10, 11, 12], [0, 1, 2, 3, 4, 5, 6, 7, 8, 9, 10, 11, 12, 13], [0, 1, 2, 3, 4, 5, 6, 7, 8, 9, 10, 11, 12, 13, 14], [0, 1, 2, 3, 4, 5, 6, 7, 8, 9, 10, 11, 12, 13, 14, 15], [0, 1, 2, 3, 4, 5, 6, 7, 8, 9, 10, 11, 12, 13, 14, 15, 16], [0, 1, 2, 3, 4, 5, 6, 7, 8, 9, 10, 11, 12, 13, 14, 15, 16, 17], [0, 1, 2, 3, 4, 5, 6, 7, 8, 9, 10, 11, 12, 13, 14, 15, 16, 17, 18]] w4.drew (fun M St =>
  gtK .i64 (nth vs 1) (.int .i64 0) fun t20 =>
  condK t20
  (subK .i64 (nth vs 1) (.int .i64 1) fun t24 =>
  ixK 5 v1 t24 fun t25 =>
  faK 0 t25 fun t26 =>
  sld1 (St 8) t26 fun t27 =>
  faK 0 t7 fun t28 =>
  sld1 (St 10) t28 fun t29 =>
  geK .i64 t27 t29 fun t30 =>
  condK t30
  (J [(.bool true)] w4.drew)
  (faK 1 t7 fun t33 =>
  sldn (St 15) 4 t33 fun t34 =>
  callK Tryz.prog 191 [t34] (fun t35 w9 =>
  Mod (M 16) w4.drew w9 ∧
  notK t35 fun t36 =>
  J [t36] w9) w4.drew))
  (faK 1 t7 fun t33_1 =>
  sldn (St 15) 4 t33_1 fun t34_1 =>
  callK Tryz.prog 191 [t34_1] (fun t35_1 w10 =>
  Mod (M 16) w4.drew w10 ∧
  notK t35_1 fun t36_1 =>
  J [t36_1] w10) w4.drew)))) w3) w2) w1)
  (K (nth vs 0) w1)) w)
theorem S154_eq (v0 v1 : Value) (K : Cont) (w : World) : S154 v0 v1 K w = D Tryz.prog okf 48 (bodyOf Tryz.f154) (.node [] [] .nil (.node [] [] (.node [] [] .nil (.node [] [] (.node [] [] .nil .nil) .nil)) (.node [] [] .nil (.node [] [] (.node [] [] .nil (.node [5, 13] [(4, 7), (13, 46)] (.node [] [] .nil (.node [] [] (.node [] [] .nil .nil) (.node [] [] (.node [] [] .nil (.cut [18] [(18, 37)] (.dc [16] [[], [0], [0, 1], [0, 1, 2], [0, 1, 2], [0, 1, 2, 4], [0, 1, 2, 3, 4, 5], [0, 1, 2, 3, 4, 5, 6], [0, 1, 2, 3, 4, 5, 6, 7], [0, 1, 2], [0, 1, 2, 9], [0, 1, 2, 3, 4, 5, 6, 7, 8, 9, 10], [0, 1, 2, 3, 4, 5, 6, 7, 8, 9, 10, 11], [0, 1, 2, 3, 4, 5, 6, 7, 8, 9, 10, 11, 12], [0, 1, 2, 3, 4, 5, 6, 7, 8, 9, 10, 11, 12, 13], [0, 1, 2, 3, 4, 5, 6, 7, 8, 9, 10, 11, 12, 13, 14], [0, 1, 2, 3, 4, 5, 6, 7, 8, 9, 10, 11, 12, 13, 14, 15], [0, 1, 2, 3, 4, 5, 6, 7, 8, 9, 10, 11, 12, 13, 14, 15, 16], [0, 1, 2, 3, 4, 5, 6, 7, 8, 9, 10, 11, 12, 13, 14, 15, 16, 17], [0, 1, 2, 3, 4, 5, 6, 7, 8, 9, 10, 11, 12, 13, 14, 15, 16, 17, 18]] []) (.node [] [] (.node [] [] .nil .nil) (.node [] [] .nil (.node [] [] .nil .nil))))) .nil))) .nil)) (.node [] [] .nil .nil))))) (retK Tryz.prog [.tmp 4] K) (nth [v0, v1]) w := by kernel_rfl
theorem S154_ok {v0 v1 : Value} {K : Cont} {w : World} (h : S154 v0 v1 K w) : callK Tryz.prog 154 [v0, v1] K w :=
  callK_of (P := Tryz.prog) (ok := okf) (n := 48) (fn := Tryz.f154) (c := bodyOf Tryz.f154) (rs := [.tmp 4]) (an := (.node [] [] .nil (.node [] [] (.node [] [] .nil (.node [] [] (.node [] [] .nil .nil) .nil)) (.node [] [] .nil (.node [] [] (.node [] [] .nil (.node [5, 13] [(4, 7), (13, 46)] (.node [] [] .nil (.node [] [] (.node [] [] .nil .nil) (.node [] [] (.node [] [] .nil (.cut [18] [(18, 37)] (.dc [16] [[], [0], [0, 1], [0, 1, 2], [0, 1, 2], [0, 1, 2, 4], [0, 1, 2, 3, 4, 5], [0, 1, 2, 3, 4, 5, 6], [0, 1, 2, 3, 4, 5, 6, 7], [0, 1, 2], [0, 1, 2, 9], [0, 1, 2, 3, 4, 5, 6, 7, 8, 9, 10], [0, 1, 2, 3, 4, 5, 6, 7, 8, 9, 10, 11], [0, 1, 2, 3, 4, 5, 6, 7, 8, 9, 10, 11, 12], [0, 1, 2, 3, 4, 5, 6, 7, 8, 9, 10, 11, 12, 13], [0, 1, 2, 3, 4, 5, 6, 7, 8, 9, 10, 11, 12, 13, 14], [0, 1, 2, 3, 4, 5, 6, 7, 8, 9, 10, 11, 12, 13, 14, 15], [0, 1, 2, 3, 4, 5, 6, 7, 8, 9, 10, 11, 12, 13, 14, 15, 16], [0, 1, 2, 3, 4, 5, 6, 7, 8, 9, 10, 11, 12, 13, 14, 15, 16, 17], [0, 1, 2, 3, 4, 5, 6, 7, 8, 9, 10, 11, 12, 13, 14, 15, 16, 17, 18]] []) (.node [] [] (.node [] [] .nil .nil) (.node [] [] .nil (.node [] [] .nil .nil))))) .nil))) .nil)) (.node [] [] .nil .nil)))))) good mixed Tryz.func154 (by kernel_rfl) (by kernel_rfl) (by kernel_rfl) (by kernel_rfl) (Eq.mp (S154_eq v0 v1 K w) h)

end Go.Proofs.YtlbaopamhkmepaaGreatDoor

namespace Go.Proofs.YtlbaopamhkmepaaGreatDoor
open Go Go.K

theorem RByte.one {w : World} {r : List Value} {x : Int} (h : RByte w r x) : ∀ u ∈ r, u.oneCell' = true := by
  subst h; intro u hu; simp at hu; subst hu; rfl
end Go.Proofs.YtlbaopamhkmepaaGreatDoor

namespace Go.Proofs.YtlbaopamhkmepaaGreatDoor
open Go Go.K

theorem ext_bits {n : Nat} {w : World} : (callFunc 217 #[.float .f64 n]).run Tryz.prog w = .ok (.value (.int .u64 n)) w := by
  have h : Tryz.prog.funcs[217]? = some Tryz.f217 := Tryz.func217
  have e0 : (Tryz.f217.name == "runtime.NumGoroutine") = false := by kernel_rfl
  have e1 : Tryz.f217.body.isNone = true := by kernel_rfl
  have e2 : Extern.findNext Tryz.f217 = none := by kernel_rfl
  have e3 : Extern.find Tryz.f217 = some Extern.MathFloatBits.float64bits := by kernel_rfl
  simp only [callFunc, program, mark, Sem.run_bind, Sem.run, Result.andThen, h, e0, e1, e2, e3, Bool.false_eq_true, if_false, if_true]
  rfl
theorem ext_from {n : Int} {w : World} : (callFunc 209 #[.int .u64 n]).run Tryz.prog w = .ok (.value (.float .f64 n.toNat)) w := by
  have h : Tryz.prog.funcs[209]? = some Tryz.f209 := Tryz.func209
  have e0 : (Tryz.f209.name == "runtime.NumGoroutine") = false := by kernel_rfl
  have e1 : Tryz.f209.body.isNone = true := by kernel_rfl
  have e2 : Extern.findNext Tryz.f209 = none := by kernel_rfl
  have e3 : Extern.find Tryz.f209 = some Extern.MathFloatBits.float64frombits := by kernel_rfl
  simp only [callFunc, program, mark, Sem.run_bind, Sem.run, Result.andThen, h, e0, e1, e2, e3, Bool.false_eq_true, if_false, if_true]
  rfl
theorem isnan_ok {n : Nat} {w : World} : callK Tryz.prog 216 [.float .f64 n] (fun v w' => v = .bool (decide (NoNum (n : Int))) ∧ w' = w) w := by
  apply S216_ok
  unfold S216
  refine runK_i (v := .bool (decide (NoNum (n : Int)))) (w' := w) ?_ ⟨rfl, rfl⟩
  rw [← order_self]
  simp [binS, eqGuard, binOp, Op.floatCmp]
theorem flag_ok {b : Bool} {w : World} : callK Tryz.prog 206 [.bool b] (fun v w' => v = .agg (⟨1, if b then 1 else 0, 0, noS⟩ : AVal).cells.toArray ∧ Grow w w') w := by
  apply S206_ok
  unfold S206
  refine newz_i fun b2 w1 hb2 hz2 g2 _ hl2 => ?_
  refine ⟨(⟨1, 0, 0, noS⟩ : AVal).cells.toArray, by kernel_rfl, ?_⟩
  refine newst_n (vs := (⟨1, 0, 0, noS⟩ : AVal).cells) rfl rfl (AVal.one _) fun b3 w2 hb3 hz3 g3 hc3 hl3 => ?_
  have g23 := g2.trans g3
  cases b with
  | true =>
    refine condK_t ?_
    rw [faK_i]
    refine (hl3 1 (by decide)).st rfl rfl ?_
    rw [addr0]
    have m := Mod.setCell (M := fun x => x = b3) w2 ⟨b3, 1, none⟩ (.int .i64 1) rfl
    have hc : ∀ j u, (⟨1, 1, 0, noS⟩ : AVal).cells[j]? = some u → (w2.setCell ⟨b3, 1, none⟩ (.int .i64 1)).cell? ((⟨b3, 0, none⟩ : Addr).add j) = some u := by
      intro j u hu
      rw [addr0]
      by_cases e : j = 1
      · subst e
        have h1 := (hl3 1 (by decide)).1
        rw [addr0] at h1
        obtain ⟨u', hu'⟩ := Option.isSome_iff_exists.1 h1
        cases hu
        exact World.cell?_setCell_same _ _ _ hu'
      · rw [World.cell?_setCell_other _ _ _ _ (fun e' => by simp only [Addr.mk.injEq] at e'; exact e e'.2.1.symm)]
        have := hc3 j u (by
          rcases j with _ | _ | _ | _ | j
          · exact hu
          · exact absurd rfl e
          · exact hu
          · exact hu
          · exact hu)
        rwa [addr0] at this
    have hl2' := fun j hj => ((hl2 j hj).mod g3 fun h => h).mod m (fun e => by rw [addr0] at e; have : b2 = b3 := e; omega)
    generalize w2.setCell ⟨b3, 1, none⟩ (.int .i64 1) = w3 at m hc hl2' ⊢
    refine ldnK_i (vs := (⟨1, 1, 0, noS⟩ : AVal).cells) rfl hc ?_
    refine stn_over rfl (AVal.one _) (fun j hj => hl2' j hj) fun w4 m4 hc4 _ => ?_
    refine ldnK_i (vs := (⟨1, 1, 0, noS⟩ : AVal).cells) rfl hc4 ⟨rfl, ?_⟩
    exact (g23.next m fun x hx e => by omega).next m4 fun x hx e => by omega
  | false =>
    refine condK_f ?_
    refine ldnK_i (vs := (⟨1, 0, 0, noS⟩ : AVal).cells) rfl hc3 ?_
    refine stn_over rfl (AVal.one _) (fun j hj => (hl2 j hj).mod g3 fun h => h) fun w4 m4 hc4 _ => ?_
    refine ldnK_i (vs := (⟨1, 0, 0, noS⟩ : AVal).cells) rfl hc4 ⟨rfl, ?_⟩
    exact g23.next m4 fun x hx e => by omega
theorem int_ok {n : Int} {w : World} : callK Tryz.prog 207 [.int .i64 n] (fun v w' => v = .agg (⟨2, n, 0, noS⟩ : AVal).cells.toArray ∧ Grow w w') w := by
  apply S207_ok
  unfold S207
  refine newz_i fun b2 w1 hb2 hz2 g2 _ hl2 => ?_
  refine ⟨(⟨2, n, 0, noS⟩ : AVal).cells.toArray, by kernel_rfl, ?_⟩
  refine stn_over rfl (AVal.one _) (fun j hj => hl2 j hj) fun w4 m4 hc4 _ => ?_
  refine ldnK_i (vs := (⟨2, n, 0, noS⟩ : AVal).cells) rfl hc4 ⟨rfl, ?_⟩
  exact g2.next m4 fun x hx e => by omega
theorem float_ok {n : Nat} {w : World} : callK Tryz.prog 208 [.float .f64 n] (fun v w' => v = .agg (⟨3, 0, if NoNum (n : Int) then 9221120237041090560 else n, noS⟩ : AVal).cells.toArray ∧ Grow w w') w := by
  apply S208_ok
  unfold S208
  refine newz_i fun b2 w1 hb2 hz2 g2 _ hl2 => ?_
  refine callK_mono isnan_ok ?_
  rintro _ _ ⟨rfl, rfl⟩
  rename World => w1
  by_cases hn : NoNum (n : Int)
  · rw [decide_eq_true hn]
    refine condK_t ⟨(⟨3, 0, 9221120237041090560, noS⟩ : AVal).cells.toArray, by kernel_rfl, ?_⟩
    refine stn_over rfl (AVal.one _) (fun j hj => hl2 j hj) fun w4 m4 hc4 _ => ?_
    refine ldnK_i (vs := (⟨3, 0, 9221120237041090560, noS⟩ : AVal).cells) rfl hc4 ⟨by rw [if_pos hn], ?_⟩
    exact g2.next m4 fun x hx e => by omega
  · rw [decide_eq_false hn]
    refine condK_f ⟨_, _, ext_bits, ?_⟩
    refine ⟨(⟨3, 0, (n : Int), noS⟩ : AVal).cells.toArray, by kernel_rfl, ?_⟩
    refine stn_over rfl (AVal.one _) (fun j hj => hl2 j hj) fun w4 m4 hc4 _ => ?_
    refine ldnK_i (vs := (⟨3, 0, (n : Int), noS⟩ : AVal).cells) rfl hc4 ⟨by rw [if_neg hn], ?_⟩
    exact g2.next m4 fun x hx e => by omega
/-- whether a text may be a value's -/
def TextOK (s : ByteArray) : Prop := s.size ≤ 64 ∧ (readB (bytesL s)).isSome = true
instance (s : ByteArray) : Decidable (TextOK s) := by unfold TextOK; infer_instance
theorem bytesL_byte (s : ByteArray) : ByteL (bytesL s) := fun x hx => by
  simp only [bytesL, List.mem_map] at hx
  obtain ⟨b, _, rfl⟩ := hx
  have := b.toNat_lt
  omega
theorem text_ok {s : ByteArray} {w : World} (hT : Tabs w) : callK Tryz.prog 210 [.string s] (fun v w' => v = (if TextOK s then .tuple #[.agg (⟨4, 0, 0, s⟩ : AVal).cells.toArray, .int .i64 0] else .tuple #[.agg (⟨0, 0, 0, noS⟩ : AVal).cells.toArray, .int .i64 3]) ∧ Grow w w') w := by
  apply S210_ok
  unfold S210
  refine newz_i fun b2 w1 hb2 hz2 g2 _ hl2 => ?_
  rw [slenK_i, gtK_i]
  refine condK_p (fun hbig => ?_) fun hle => ?_
  · refine ⟨(⟨0, 0, 0, noS⟩ : AVal).cells.toArray, by kernel_rfl, ?_⟩
    refine stn_over rfl (AVal.one _) (fun j hj => hl2 j hj) fun w4 m4 hc4 _ => ?_
    refine ldnK_i (vs := (⟨0, 0, 0, noS⟩ : AVal).cells) rfl hc4 ⟨by rw [if_neg (fun h => by have := h.1; omega)], ?_⟩
    exact g2.next m4 fun x hx e => by omega
  · refine strbytes (by omega) fun v3 w3 g3 hb3 => ?_
    have g23 := g2.trans g3
    have hl3 : ∀ j, j < 4 → Live w3 ((⟨b2, 0, none⟩ : Addr).add j) := fun j hj => (hl2 j hj).mod g3 fun h => h
    refine callK_mono (runes_ok hb3 (bytesL_byte s) (hT.grow g23) (by rw [bytesL_len]; omega)) ?_
    rintro v5 w5 ⟨g5, hm⟩
    have hl5 : ∀ j, j < 4 → Live w5 ((⟨b2, 0, none⟩ : Addr).add j) := fun j hj => (hl3 j hj).mod g5 fun h => h
    have g25 := g23.trans g5
    cases hr : readB (bytesL s) with
    | none =>
      rw [hr] at hm
      subst hm
      refine extK_i (vs := [_, _]) (by rfl) (extK_i (vs := [_, _]) (by rfl) ?_)
      rw [neK_i]
      refine condK_neg (fun e => by cases e) fun _ => ?_
      refine ⟨(⟨0, 0, 0, noS⟩ : AVal).cells.toArray, by kernel_rfl, ?_⟩
      refine stn_over rfl (AVal.one _) (fun j hj => hl5 j hj) fun w6 m6 hc6 _ => ?_
      refine ldnK_i (vs := (⟨0, 0, 0, noS⟩ : AVal).cells) rfl hc6 ⟨by rw [if_neg (fun h => by have := h.2; rw [hr] at this; cases this)], ?_⟩
      exact g25.next m6 fun x hx e => by omega
    | some l =>
      rw [hr] at hm
      obtain ⟨sl, rfl, _⟩ := hm
      refine extK_i (vs := [_, _]) (by rfl) (extK_i (vs := [_, _]) (by rfl) ?_)
      rw [neK_i]
      refine condK_neg (fun _ => ?_) fun e => (e rfl).elim
      refine ⟨(⟨4, 0, 0, s⟩ : AVal).cells.toArray, by kernel_rfl, ?_⟩
      refine stn_over rfl (AVal.one _) (fun j hj => hl5 j hj) fun w6 m6 hc6 _ => ?_
      refine ldnK_i (vs := (⟨4, 0, 0, s⟩ : AVal).cells) rfl hc6 ⟨by rw [if_pos ⟨by omega, by rw [hr]; rfl⟩], ?_⟩
      exact g25.next m6 fun x hx e => by omega
theorem vmay_ok {v : AVal} {w : World} (hT : Tabs w) (h0 : 0 ≤ v.f) :
    callK Tryz.prog 191 [.agg v.cells.toArray] (fun v' w' => v' = .bool (decide (ValOK v)) ∧ Grow w w') w := by
  apply S191_ok
  unfold S191
  refine boxn_i fun b w1 _ hz g hc _ => ?_
  have l0 := hc 0 _ rfl
  have l1 := hc 1 _ rfl
  have l2 := hc 2 _ rfl
  have l3 := hc 3 _ rfl
  have key : ∀ (b : Bool) w', Grow w w' → (b = true ↔ ValOK v) → Value.bool b = .bool (decide (ValOK v)) ∧ Grow w w' := fun b w' g h => ⟨by congr 1; rw [Bool.eq_iff_iff, h, decide_eq_true_eq], g⟩
  have no : ∀ w', Grow w w' → ¬ ValOK v → Value.bool false = .bool (decide (ValOK v)) ∧ Grow w w' := fun w' g h => key false w' g (by simp only [Bool.false_eq_true, false_iff]; exact h)
  have hall : ∀ j u, v.cells[j]? = some u → w1.cell? ((⟨b, 0, none⟩ : Addr).add j) = some u := hc
  simp only [faK_i]
  refine ld1K_i l0 ?_
  rw [eqK_i]
  refine condK_p (fun k1 => ?_) fun k1 => ?_
  · refine drawK_i (fun w2 => Grow w1 w2) (Mod.drew _ _) ?_
    refine qldnK_i (vs := v.cells) rfl (fun w2 g2 j u hu => g2.cell (hall j u hu) fun h => h) (qld1K_i (fun w2 g2 => g2.cell l1 fun h => h) ?_)
    rw [eqK_i]
    refine ⟨_, fun w2 g2 => callK_mono flag_ok (by rintro _ w3 ⟨rfl, g3⟩; exact ⟨rfl, g2.trans g3⟩), ?_⟩
    refine ⟨_, fun w2 _ => run_eq_val _ _ v ⟨1, if decide (v.n = 1) then 1 else 0, 0, noS⟩ w2, ?_⟩
    intro w3 g3
    refine key _ _ (g.trans g3) ?_
    rw [decide_eq_true_eq]
    constructor
    · intro e
      refine .inl ⟨k1, ?_, ?_⟩
      · by_cases h1 : v.n = 1
        · rw [h1]; simpa [h1] using e
        · have en : v.n = 0 := by rw [e]; simp [h1]
          rw [en]; simpa [h1] using e
      · by_cases h1 : v.n = 1
        · exact .inr h1
        · left; rw [e]; simp [h1]
    · rintro (h | h | h | h)
      · obtain ⟨_, e, hn⟩ := h
        rcases hn with hn | hn
        · rw [hn] at e ⊢; exact e
        · rw [hn] at e ⊢; exact e
      · omega
      · omega
      · omega
  rw [eqK_i]
  refine condK_p (fun k2 => ?_) fun k2 => ?_
  · refine drawK_i (fun w2 => Grow w1 w2) (Mod.drew _ _) ?_
    refine qldnK_i (vs := v.cells) rfl (fun w2 g2 j u hu => g2.cell (hall j u hu) fun h => h) (qld1K_i (fun w2 g2 => g2.cell l1 fun h => h) ?_)
    refine ⟨_, fun w2 g2 => callK_mono int_ok (by rintro _ w3 ⟨rfl, g3⟩; exact ⟨rfl, g2.trans g3⟩), ?_⟩
    refine ⟨_, fun w2 _ => run_eq_val _ _ v ⟨2, v.n, 0, noS⟩ w2, ?_⟩
    intro w3 g3
    refine key _ _ (g.trans g3) ?_
    rw [decide_eq_true_eq]
    refine ⟨fun h => .inr (.inl ⟨k2, h⟩), fun h => ?_⟩
    rcases h with h | h | h | h
    · omega
    · exact h.2
    · omega
    · omega
  rw [eqK_i]
  refine condK_p (fun k3 => ?_) fun k3 => ?_
  · refine drawK_i (fun w2 => Grow w1 w2) (Mod.drew _ _) ?_
    refine qldnK_i (vs := v.cells) rfl (fun w2 g2 j u hu => g2.cell (hall j u hu) fun h => h) (qld1K_i (fun w2 g2 => g2.cell l2 fun h => h) ?_)
    refine ⟨_, fun w2 _ => ext_from, ?_⟩
    refine ⟨_, fun w2 g2 => callK_mono float_ok (by rintro _ w3 ⟨rfl, g3⟩; exact ⟨rfl, g2.trans g3⟩), ?_⟩
    refine ⟨_, fun w2 _ => run_eq_val _ _ v _ w2, ?_⟩
    intro w3 g3
    refine key _ _ (g.trans g3) ?_
    have ef : ((v.f.toNat : Nat) : Int) = v.f := by omega
    rw [decide_eq_true_eq, ef]
    constructor
    · intro e
      refine .inr (.inr (.inl ⟨k3, ?_, ?_⟩))
      · by_cases hn : NoNum v.f
        · rw [if_pos hn] at e
          have e2 : v.f = 9221120237041090560 := congrArg AVal.f e
          rw [e2]; exact e
        · rw [if_neg hn] at e; exact e
      · by_cases hn : NoNum v.f
        · rw [if_pos hn] at e
          exact .inr (congrArg AVal.f e)
        · exact .inl hn
    · rintro (h | h | h | h)
      · omega
      · omega
      · obtain ⟨_, e, hn⟩ := h
        by_cases hh : NoNum v.f
        · rw [if_pos hh]
          rw [hn.resolve_left fun x => x hh] at e
          exact e
        · rw [if_neg hh]; exact e
      · omega
  rw [eqK_i]
  refine condK_p (fun k4 => ?_) fun k4 => no _ g ?_
  · refine ld1K_i l3 (callK_mono (text_ok (hT.grow g)) ?_)
    rintro v3 w3 ⟨rfl, g3⟩
    have g03 := g.trans g3
    by_cases hx : TextOK v.s
    · rw [if_pos hx]
      refine extK_i (vs := [_, _]) (by rfl) (extK_i (vs := [_, _]) (by rfl) ?_)
      refine newst_n (vs := (⟨4, 0, 0, v.s⟩ : AVal).cells) rfl rfl (AVal.one _) fun b4 w4 _ _ g4 hc4 _ => ?_
      rw [eqK_i]
      refine condK_p (fun _ => ?_) fun e => (e rfl).elim
      refine ldnK_i (vs := v.cells) rfl (fun j u hu => (g3.trans g4).cell (hall j u hu) fun h => h) ?_
      refine ldnK_i (vs := (⟨4, 0, 0, v.s⟩ : AVal).cells) rfl hc4 (runK_i (run_eq_val _ _ v ⟨4, 0, 0, v.s⟩ w4) ?_)
      refine key _ _ (g03.trans g4) ?_
      rw [decide_eq_true_eq]
      refine ⟨fun e => .inr (.inr (.inr ⟨k4, e, hx.1, hx.2⟩)), fun h => ?_⟩
      rcases h with h | h | h | h
      · omega
      · omega
      · omega
      · exact h.2.1
    · rw [if_neg hx]
      refine extK_i (vs := [_, _]) (by rfl) (extK_i (vs := [_, _]) (by rfl) ?_)
      refine newst_n (vs := (⟨0, 0, 0, noS⟩ : AVal).cells) rfl rfl (AVal.one _) fun b4 w4 _ _ g4 hc4 _ => ?_
      rw [eqK_i]
      refine condK_p (fun e => by cases e) fun _ => no _ (g03.trans g4) ?_
      rintro (h | h | h | h)
      · omega
      · omega
      · omega
      · exact hx ⟨h.2.2.1, h.2.2.2⟩
  · rintro (h | h | h | h)
    · exact k1 h.1
    · exact k2 h.1
    · exact k3 h.1
    · exact k4 h.1
end Go.Proofs.YtlbaopamhkmepaaGreatDoor

namespace Go.Proofs.YtlbaopamhkmepaaGreatDoor
open Go Go.K

theorem strict_dist {L : List DKey} (h : L.Pairwise fun x y => x.id < y.id) : Dist L := List.Pairwise.imp (fun {x y} h => by omega) h
end Go.Proofs.YtlbaopamhkmepaaGreatDoor

namespace Go.Proofs.YtlbaopamhkmepaaGreatDoor
open Go Go.K

open Classical in
theorem sfits_ok {D : Nat → Prop} {v : Value} {ks : List DKey} {id : Int} {x : AVal} {w : World} (h : SchR D w v ks) (hT : Tabs w) (h0 : 0 ≤ x.f) :
    callK Tryz.prog 192 [v, .int .i64 id, .agg x.cells.toArray] (fun v' w' => v' = .bool (decide (FitsK ks id x)) ∧ Grow w w') w := by
  apply S192_ok
  unfold S192
  have no : ∀ w', Grow w w' → ¬ FitsK ks id x → Value.bool false = .bool (decide (FitsK ks id x)) ∧ Grow w w' := fun w' g h => ⟨by rw [decide_eq_false h], g⟩
  refine boxn_i fun b w1 _ hz g hc _ => ?_
  refine callK_mono (sfind_ok (h.grow g) id) ?_
  rintro _ w2 ⟨rfl, g2⟩
  refine extK_i (vs := [_, _]) (by rfl) (extK_i (vs := [_, _]) (by rfl) ?_)
  generalize hk : (findK ks id).getD DKey.zero = k
  refine newst_n (vs := k.cells) rfl rfl (RKey.one (w := w) (x := k) rfl) fun b5 w3 hb5 hz5 g5 hc5 _ => ?_
  have g13 := g2.trans g5
  have g03 := g.trans g13
  cases hf : findK ks id with
  | none =>
    rw [Option.isSome_none]
    exact no _ g03 (by rintro ⟨k, e, _⟩; rw [hf] at e; cases e)
  | some k' =>
    rw [hf] at hk
    simp only [Option.getD_some] at hk
    subst hk
    rw [Option.isSome_some]
    refine condK_t ?_
    rw [faK_i]
    refine ld1K_i (hc5 2 _ rfl) ?_
    rw [faK_i]
    refine ld1K_i (g13.cell (hc 0 _ rfl) fun h => h) ?_
    rw [eqK_i]
    refine condK_p (fun he => ?_) fun he => no _ g03 (by rintro ⟨k, e, _, h⟩; rw [hf] at e; cases e; exact he h.symm)
    refine ldnK_i (vs := x.cells) rfl (fun j u hu => g13.cell (hc j u hu) fun h => h) (callK_mono (vmay_ok (hT.grow g03) h0) ?_)
    rintro _ w4 ⟨rfl, g4⟩
    refine ⟨?_, g03.trans g4⟩
    congr 1
    rw [decide_eq_decide]
    constructor
    · intro ho; exact ⟨k', hf, ho, he.symm⟩
    · rintro ⟨_, _, ho, _⟩; exact ho

end Go.Proofs.YtlbaopamhkmepaaGreatDoor

namespace Go.Proofs.YtlbaopamhkmepaaGreatDoor
open Go Go.K

/-- attrs.May -/
theorem smay_ok {D S : Nat → Prop} {sv v : Value} {ks : List DKey} {l : List Attr} {w : World} (hS : SchR D w sv ks) (h : RSet S w v l) (hT : Tabs w) (hI : ∀ a ∈ l, 0 ≤ a.val.f) :
    callK Tryz.prog 154 [sv, v] (fun v' w' => v' = .int .i64 (maySet ks l) ∧ Grow w w') w := by
  classical
  apply S154_ok
  unfold S154
  obtain ⟨a, c, rfl, hm⟩ := h.shape
  simp only [maxLen] at hm
  have bad : ∀ w', Grow w w' → SetBad l → Value.int .i64 3 = .int .i64 (maySet ks l) ∧ Grow w w' := fun w' g hb => ⟨by rw [maySet, if_pos hb], g⟩
  rw [lenK_i, gtK_i]
  refine condK_p (fun h6 => bad _ (Mod.refl _ _) (.inr (.inl (by omega)))) fun h6 => ?_
  rw [lenK_i]
  refine LoopK_i (fun vs W => ∃ i : Nat, i ≤ l.length ∧ vs = [.int .i64 (if SetNoKey ks (l.take i) then 4 else 0), .int .i64 i] ∧ Grow w W ∧ (∀ a ∈ l.take i, ValOK a.val) ∧ RisN Attr.key l i) (fun vs _ => l.length - iOf vs 1)
    ⟨0, Nat.zero_le _, by rw [if_neg (by rintro ⟨a, ha, _⟩; simp at ha)]; rfl, Mod.refl _ _, by simp, fun j hj => by omega⟩ ?_
  rintro vs W ⟨i, hi, rfl, g, hv, hris⟩ _
  simp only [nth_s, nth_z, List.headD_cons, List.tail_cons]
  rw [ltK_i]
  refine condK_p (fun hlt => ?_) fun hge => ?_
  · have hlt' : i < l.length := by omega
    obtain ⟨p, r, rfl, _, hr, hc, rfl⟩ := (h.grow g (by decide) fun _ _ h => h).get hlt'
    refine ixK_n hlt' (ldnK_i hr (fun j u hu => by rw [Addr.add_add]; exact hc j u hu) ?_)
    refine newst_n (vs := l[i].cells) rfl rfl (RAttr.one (w := w) (x := l[i]) rfl) fun b7 W1 hb7 hz7 g7 hc7 _ => ?_
    have gW1 := g.trans g7
    have hf0 := hI l[i] (List.getElem_mem hlt')
    have e1 : l.take (i + 1) = l.take i ++ [l[i]] := by rw [List.take_add_one, List.getElem?_eq_getElem hlt']; rfl
    refine JoinK_i (fun vs W2 => Grow W1 W2 ∧ ((vs = [.bool true] ∧ SetBad l) ∨ (vs = [.bool false] ∧ ValOK l[i].val ∧ RisN Attr.key l (i + 1)))) ?_ ?_
    · rintro vs W2 ⟨g2, hvs⟩ _
      rcases hvs with ⟨rfl, hb⟩ | ⟨rfl, hok, hrs⟩
      · exact condK_t (bad _ (gW1.trans g2) hb)
      · refine condK_f ?_
        rw [faK_i]
        refine ld1K_i (g2.cell (hc7 0 _ rfl) fun h => h) ?_
        rw [faK_i]
        refine ldnK_i (vs := l[i].val.cells) rfl (fun j u hu => g2.cell (by rw [Addr.add_add]; exact hc7 (1 + j) u (by rw [Nat.add_comm]; exact hu)) fun h => h) ?_
        refine callK_mono (sfits_ok (hS.grow (gW1.trans g2)) (hT.grow (gW1.trans g2)) hf0) ?_
        rintro _ W3 ⟨rfl, g3⟩
        have g03 := (gW1.trans g2).trans g3
        rw [notK_i]
        have hv' : ∀ a ∈ l.take (i + 1), ValOK a.val := fun a ha => by
          rw [e1] at ha
          rcases List.mem_append.1 ha with ha | ha
          · exact hv a ha
          · simp at ha; subst ha; exact hok
        by_cases hfit : FitsK ks l[i].key l[i].val
        · rw [decide_eq_true hfit]
          refine condK_f ?_
          rw [addK_i, loop_step (by omega)]
          refine ⟨⟨i + 1, hlt', ?_, g03, hv', hrs⟩, by rw [iOf1, iOf1]; omega⟩
          have e : SetNoKey ks (l.take (i + 1)) ↔ SetNoKey ks (l.take i) := by
            unfold SetNoKey
            rw [e1]
            constructor
            · rintro ⟨a, ha, hn⟩
              rcases List.mem_append.1 ha with ha | ha
              · exact ⟨a, ha, hn⟩
              · simp at ha; subst ha; exact absurd hfit hn
            · rintro ⟨a, ha, hn⟩; exact ⟨a, List.mem_append_left _ ha, hn⟩
          simp only [e]
        · rw [decide_eq_false hfit]
          refine condK_t ?_
          rw [addK_i, loop_step (by omega)]
          refine ⟨⟨i + 1, hlt', ?_, g03, hv', hrs⟩, by rw [iOf1, iOf1]; omega⟩
          rw [if_pos (show SetNoKey ks (l.take (i + 1)) from ⟨l[i], by rw [e1]; exact List.mem_append_right _ (List.mem_singleton.2 rfl), hfit⟩)]
    · refine drawC_i (fun _ _ => False) ?_
      have gd : Grow W1 W1.drew := Mod.drew _ _
      -- whether the value may be
      have vmay : RisN Attr.key l (i + 1) → faK 1 (.pointer (some (⟨b7, 0, none⟩ : Addr))) fun t33 => sldn (StI [16] [[], [0], [0, 1], [0, 1, 2], [0, 1, 2], [0, 1, 2, 4], [0, 1, 2, 3, 4, 5], [0, 1, 2, 3, 4, 5, 6], [0, 1, 2, 3, 4, 5, 6, 7], [0, 1, 2], [0, 1, 2, 9], [0, 1, 2, 3, 4, 5, 6, 7, 8, 9, 10], [0, 1, 2, 3, 4, 5, 6, 7, 8, 9, 10, 11], [0, 1, 2, 3, 4, 5, 6, 7, 8, 9, 10, 11, 12], [0, 1, 2, 3, 4, 5, 6, 7, 8, 9, 10, 11, 12, 13], [0, 1, 2, 3, 4, 5, 6, 7, 8, 9, 10, 11, 12, 13, 14], [0, 1, 2, 3, 4, 5, 6, 7, 8, 9, 10, 11, 12, 13, 14, 15], [0, 1, 2, 3, 4, 5, 6, 7, 8, 9, 10, 11, 12, 13, 14, 15, 16], [0, 1, 2, 3, 4, 5, 6, 7, 8, 9, 10, 11, 12, 13, 14, 15, 16, 17], [0, 1, 2, 3, 4, 5, 6, 7, 8, 9, 10, 11, 12, 13, 14, 15, 16, 17, 18]] (fun _ _ => False) W1.drew 15) 4 t33 fun t34 =>
          callK Tryz.prog 191 [t34] (fun t35 w9 => Mod (fun _ => False) W1.drew w9 ∧ notK t35 fun t36 => (fun vs W2 => Grow W1 W2 ∧ ((vs = [.bool true] ∧ SetBad l) ∨ (vs = [.bool false] ∧ ValOK l[i].val ∧ RisN Attr.key l (i + 1)))) [t36] w9) W1.drew := by
        intro hrs
        rw [faK_i]
        refine sldn_i (vs := l[i].val.cells) rfl (fun j u hu => ⟨gd.cell (by rw [Addr.add_add]; exact hc7 (1 + j) u (by rw [Nat.add_comm]; exact hu)) fun h => h, fun _ _ h => h⟩) ?_
        refine callK_mono (vmay_ok (hT.grow (gW1.trans gd)) hf0) ?_
        rintro _ W3 ⟨rfl, g3⟩
        refine ⟨g3, ?_⟩
        rw [notK_i]
        refine ⟨gd.trans g3, ?_⟩
        by_cases hok : ValOK l[i].val
        · exact .inr ⟨by rw [decide_eq_true hok]; rfl, hok, hrs⟩
        · exact .inl ⟨by rw [decide_eq_false hok]; rfl, .inr (.inr ⟨l[i], List.getElem_mem hlt', hok⟩)⟩
      rw [gtK_i]
      refine condK_p (fun hi0 => ?_) fun hi0 => vmay (fun j hj => by omega)
      rw [subK_i, wrap64 (by omega) (by omega), show ((i : Int) - 1) = ((i - 1 : Nat) : Int) by omega]
      have hi1 : i - 1 < l.length := by omega
      obtain ⟨_, r2, e2, _, hr2, hc2, rfl⟩ := (h.grow g (by decide) fun _ _ h => h).get hi1
      cases e2
      refine ixK_n hi1 ?_
      rw [faK_i, Addr.add_add]
      refine sld1_i ⟨(g7.trans gd).cell (hc2 0 _ rfl) fun h => h, fun _ _ h => h⟩ ?_
      rw [faK_i]
      refine sld1_i ⟨gd.cell (hc7 0 _ rfl) fun h => h, fun _ _ h => h⟩ ?_
      rw [geK_i]
      refine condK_p (fun hge => ⟨gd, .inl ⟨rfl, .inl fun hr => ?_⟩⟩) fun hlt2 => vmay ?_
      · have := hr i (by omega) hlt' _ _ (List.getElem?_eq_getElem hi1) (List.getElem?_eq_getElem hlt')
        omega
      · intro j hj1 hj2 x y hx hy
        by_cases hji : j < i
        · exact hris j hj1 hji x y hx hy
        · have : j = i := by omega
          subst this
          rw [List.getElem?_eq_getElem hi1] at hx
          rw [List.getElem?_eq_getElem hlt'] at hy
          cases hx; cases hy
          omega
  · have : i = l.length := by omega
    subst this
    rw [List.take_length] at hv
    refine ⟨?_, g⟩
    have ok : ¬ SetBad l := by
      rintro (h | h | ⟨a, ha, h⟩)
      · exact h hris
      · omega
      · exact h (hv a ha)
    rw [List.take_length, maySet, if_neg ok]
end Go.Proofs.YtlbaopamhkmepaaGreatDoor
